/- ImageLoads: the walk. -/
import Derived.Test.YtjdgpcjbgjnahaaGreatDoorH15
import Derived.Test.YtjdgpcjbgjnahaaGreatDoorH14
import Derived.Test.YtjdgpcjbgjnahaaGreatDoorH13
import Derived.Deep.CutBlock
import Derived.Test.YtjdgpcjbgjnahaaGreatDoorH10
set_option maxRecDepth 10000
set_option maxHeartbeats 4000000
set_option linter.unusedSimpArgs false
set_option linter.unusedVariables false
/- The document's window: Restore. -/
namespace Go.Proofs.YtjdgpcjbgjnahaaGreatDoor
open Go.RowKit
def G18(q:Nat)(va vl pa:Value)(i:Nat)(x:Lv):Nat->Value->Prop
  | 0,y=>y=eA q
  | 1,y=>y=eA q
  | 2,y=>y=.pointer (some ⟨q,0,none⟩)
  | 3,y=>y=.pointer (some ⟨q,6,none⟩)
  | 4,y=>y=va
  | 5,y=>y=eA q
  | 6,y=>y=.pointer (some ⟨q,0,none⟩)
  | 7,y=>y=.pointer (some ⟨q,7,none⟩)
  | 8,y=>y=.int .u64 x.seq
  | 9,y=>y=vl
  | 10,y=>y=.int .i64 i
  | 11,y=>y=pa
  | 12,y=>y=.agg #[.int .u64 x.u,.int .u64 x.v,.int .i64 x.wt,.int .i64 x.t]
  | 13,y=>y=.int .i64 x.x
  | 14,y=>y=.agg #[.int .i64 0,.int .u64 x.seq,.int .u64 x.u,.int .u64 x.v,.int .i64 x.wt,.int .i64 x.t,.int .i64 x.x]
  | 17,y=>y=.pointer (some ⟨q,0,none⟩)
  | 18,y=>y=.pointer (some ⟨q,6,none⟩)
  | _,_=>True
def aPZ(w0 w:World)(va y:Value)(m:List Lv):Prop:=Fr va.ownBlock.toList w0 w/\bN w y m/\∀b,y.ownBlock=some b->va.ownBlock=some b∨w0.heap.size<=b
def I18(q:Nat)(va vl pa:Value)(i:Nat)(l:List Lv)(x:Lv)(w0:World)(f:Nat->Value)(L:Nat->Bool)(w:World):Prop:=
  (∀k,L k=true->G18 q va vl pa i x k (f k))/\(L 16=false->Fr [] w0 w)/\(L 15=true->L 16=false->bN w (f 15) [x])/\(L 16=true->L 19=false->aPZ w0 w va (f 16) (l++[x])) /\
    (L 19=true->∃w1,aPZ w0 w1 va (f 16) (l++[x])/\w=w1.setCell ⟨q,6,none⟩ (f 16))
section
variable {q i:Nat} {va vl pa:Value} {l:List Lv} {x:Lv} {w0 w w' :World} {f:Nat->Value} {L:Nat->Bool} {v:Value}
theorem I18.start(w0:World):I18 q va vl pa i l x w0 (fun _=>undef) (fun _=>false) w0.drew:=
  ⟨fun k hk=>(by cases hk),fun _=>(Fr.refl [] w0).drew,fun h=>(by cases h),fun h=>(by cases h),fun h=>(by cases h)⟩
theorem I18.pass(h:I18 q va vl pa i l x w0 f L w){k:Nat}(h5:k≠15)(h6:k≠16)(h9:k≠19)(hG:G18 q va vl pa i x k v):I18 q va vl pa i l x w0 (fJ f k v) (fJ L k true) w:=by
 refine⟨aFB h.1 hG,?_⟩;rw[bY L _ h5.symm,bY L _ h6.symm,bY L _ h9.symm,bY f _ h5.symm,bY f _ h6.symm];exact h.2
theorem I18.make(h:I18 q va vl pa i l x w0 f L w)(h6:L 16=false)(h9:L 19=false)(hF:Fr [] w w')(hr:bN w' v [x]):I18 q va vl pa i l x w0 (fJ f 15 v) (fJ L 15 true) w' :=by
 refine⟨aFB h.1 trivial,fun _=>(h.2.1 h6).trans' hF,fun _ _=>?_,fun e=>?_,fun e=>?_⟩
 · rw[gG];exact hr
 · rw[bY _ _ (by decide),h6]at e;cases e
 · rw[bY _ _ (by decide),h9]at e;cases e
theorem I18.app(h:I18 q va vl pa i l x w0 f L w)(h6:L 16=false)(h9:L 19=false)(hF:Fr va.ownBlock.toList w w')(hr:bN w' v (l++[x]))(ho:∀b,v.ownBlock=some b->va.ownBlock=some b∨w.heap.size<=b):I18 q va vl pa i l x w0 (fJ f 16 v) (fJ L 16 true) w' :=by
 have hF0:=h.2.1 h6;refine⟨aFB h.1 trivial,fun e=>?_,fun _ e=>?_,fun _ _=>?_,fun e=>?_⟩
 · rw[gG]at e;cases e
 · rw[gG]at e;cases e
 {
 rw[gG];exact⟨(hF0.mono (by simp)).trans' hF,hr,fun b hb=>(ho b hb).imp id (zH hF0.size)⟩}
 · rw[bY _ _ (by decide),h9]at e;cases e
theorem I18.store(h:I18 q va vl pa i l x w0 f L w)(h6:L 16=true)(h9:L 19=false):I18 q va vl pa i l x w0 (fJ f 19 v) (fJ L 19 true) (w.setCell ⟨q,6,none⟩ (f 16)):=by
 refine⟨aFB h.1 trivial,fun e=>?_,fun _ e=>?_,fun _ e=>?_,fun _=>⟨w,?_,?_⟩⟩
 · rw[bY _ _ (by decide),h6]at e;cases e
 · rw[bY _ _ (by decide),h6]at e;cases e
 · rw[gG]at e;cases e
 · rw[bY _ _ (by decide)];exact h.2.2.2.1 h6 h9
 · rw[bY _ _ (by decide)]
end
theorem Clo.no{ops:Array Oper}{L:Nat->Bool}(h:Clo ops L){n d k:Nat}(hB:(aDJ ops n d).contains k=true)(hk:L k=false):L d=false:=by
 cases e:L d with
 | false=>rfl
 | true=>rw[h.reach n d e k (by simpa using hB)]at hk;cases hk
def ResF(W w' :World)(ts:List Th)(R:Option Ob)(e:Ending):Prop:=match R with
  | none=>e=.returned (.tuple #[.pointer none,.int .i64 2])/\Wd W w' ts
  | some o=>∃p,e=.returned (.tuple #[eA p,.int .i64 0])/\Wd W w' (thF p o::ts)
theorem aMI{m E V D now:Int}{g:Nat}{l:List R4}(hg:g<=9223372036854775807)(hc:eZ m E V D=true)(hE:(l.length:Int)<=E)(hl:l.length<=9223372036854775807-g)(hk:mI m 0 now=0):
    eU m E V D now g l=((Ob.at m E.toNat V.toNat D now g).docL 0 l).bind Ob.docE:=by
 refine(qD ⟨hg,hc,hE,hl,hk⟩).trans (aFC l _ _ (qS _) ?_);show 0+l.length<=E.toNat
 omega
def aMJ(W wq:World)(q b:Nat)(ts:List Th)(m:Int)(E V:Nat)(D now:Int)(g:Nat)(l:List R4)(k:Nat)(lst:Int)(o:Ob):Prop:=
  Wd W wq (thF q o::thB b 31 [.int .i64 m,.int .i64 E,.int .i64 V,.int .i64 D]::ts)/\(Ob.at m E V D now g).docL 0 l=o.docL lst (l.drop k)/\0<=lst/\o.m=m/\o.now=now/\o.V=V/\o.L.length=k/\o.last=g+k
theorem Wd.cfg4{W wr:World}{ts:List Th}{b:Nat}{t:TypeId}{v0 v1 v2 v3:Value}(h:Wd W wr (thB b t [v0,v1,v2,v3]::ts)):wr.cell? ⟨b,0,none⟩=some v0/\wr.cell? ⟨b,1,none⟩=some v1/\wr.cell? ⟨b,2,none⟩=some v2/\wr.cell? ⟨b,3,none⟩=some v3:=by
 have hb:=h.blk;exact⟨hb.cell 0,hb.cell 1,hb.cell 2,hb.cell 3⟩
section
variable {W wz w w' :World} {ts:List Th}
theorem aST(h:Wd W wz ts)(m E V D now:Int)(g:Nat)(a:Option Addr)(cap:Nat)(l:List R4)(hg:g<18446744073709551616)(hn2:now<=9223372036854775807)(hm2:m<=9223372036854775807)
    (hl:l.length<=9223372036854775807) (hrow:RcW W a l) (hok:∀r∈l,r.ok):
    Calls Tryz.prog 56 #[.agg #[.int .i64 m,.int .i64 E,.int .i64 V,.int .i64 D],.int .i64 now,.int .u64 g,.slice a l.length cap] wz fun e w' =>ResF W w' ts (eU m E V D now g l) e:=by
 have hb:=Blk.new wz [.int .i64 m,.int .i64 E,.int .i64 V,.int .i64 D] 31;have r0:=hb.cell 0;have r1:=hb.cell 1;have r2:=hb.cell 2;have r3:=hb.cell 3;simp only[zJ,zK]at r0 r1 r2 r3;have hW0:Wd W (wz.alloc (.cells #[.int .i64 m,.int .i64 E,.int .i64 V,.int .i64 D] 31)) (thB wz.heap.size 31 [.int .i64 m,.int .i64 E,.int .i64 V,.int .i64 D]::ts):=
   h.new (K:=[wz.heap.size]) ((Fr.refl [] wz).alloc _) ⟨hb,rfl⟩ (fun q hq=>Nat.le_of_eq (qH.1 hq).symm)
 have HW:=qA hW0;have HR:=aOP m E V D (wz.alloc (.cells #[.int .i64 m,.int .i64 E,.int .i64 V,.int .i64 D] 31));cases hc:eZ m E V D with
 | false=>{
 rw[hc]at HR;have hR:eU m E V D now g l=none:=qC (by rw[hc];simp);rw[hR];have HR:=qA HR;clear hb hW0 h hc hR hrow hok;go_enter Tryz.func56,Tryz.ntmps56
 go_wp2_with fail
 refine HR.out.mono ?_;rintro _ w2 ⟨rfl,hF⟩;have HW:=qA (HW.out.fr0 hF).drop;clear hF HR r0 r1 r2 r3;go_wp2_with fail
 go_ret2;exact⟨rfl,HW.out⟩}
 | true=>{
 rw[hc]at HR;have HR:=qA HR;obtain⟨k1,k2,k3,k4,k5,k6,k7⟩:=cO.1 hc;obtain⟨E,rfl⟩:=Int.eq_ofNat_of_zero_le (show 0<=E by omega);obtain⟨V,rfl⟩:=Int.eq_ofNat_of_zero_le (show 0<=V by omega);by_cases hn:now<0
 {
 have hR:eU m E V D now g l=none:=qC (by unfold mI;rw[qD hn];simp);rw[hR];have d0:decide (now<0)=true:=qG hn;clear hb hW0 h hc hR hrow hok hn k1 k2 k3 k4 k5 k6 k7;go_enter Tryz.func56,Tryz.ntmps56
 go_wp2_with fail
 refine HR.out.mono ?_;rintro _ w2 ⟨rfl,hF⟩;have HW:=qA (HW.out.fr0 hF).drop;clear hF HR r0 r1 r2 r3;go_wp2_with fail
 go_ret2;exact⟨rfl,HW.out⟩};have d0:decide (now<0)=false:=qF hn;have HA:=qA (fun w=>aFA (x:=now) (y:=m) (by omega) hn2 (by omega) hm2 w);have hwl:IntKind.u64.wrap (l.length:Int)=l.length:=by simp[IntKind.wrap,IntKind.bits,IntKind.signed];omega
 have eC:mI m 0 now=gJ now m:=qC (by omega);by_cases hbad:9223372036854775807<now+m∨9223372036854775807<g∨9223372036854775807-g<l.length∨E<l.length
 {
 have hR:eU m E V D now g l=none:=qC fun k=>by
   have k5:=k.2.2.2.2;rw[eC]at k5;unfold gJ at k5;split at k5
   · omega
   · cases k5
 rw[hR];have HRC:Hid (∃c:Int,c=gJ now m/\(c=7/\(c == 0)=false∨c=0/\(9223372036854775807<g∨g<=9223372036854775807/\(9223372036854775807-g<l.length∨l.length<=9223372036854775807-g/\E<l.length)))):=qA (by
   by_cases e:now+m<=9223372036854775807
   · exact⟨0,(qD e).symm,.inr ⟨rfl,by omega⟩⟩
   · exact⟨7,(qC e).symm,.inl ⟨rfl,rfl⟩⟩)
 obtain⟨c,ec,hcs⟩:=HRC.out;rw[<-ec]at HA;clear ec HRC hb hW0 h hc hR hrow hok hn k1 k2 k3 k4 k5 k6 k7 eC hbad;rcases hcs with⟨rfl,_⟩|⟨rfl,hc|⟨hc,hd|⟨hd,he⟩⟩⟩
 case' inr.inl=>have d1:decide ((g:Int)>9223372036854775807)=true:=qG (by omega)
 case' inr.inr.inl=>
  have d1:decide ((g:Int)>9223372036854775807)=false:=qF (by omega);have hws:IntKind.u64.wrap (9223372036854775807-(g:Int))=9223372036854775807-(g:Int):=by simp[IntKind.wrap,IntKind.bits,IntKind.signed];omega
  have d2:decide ((l.length:Int)>9223372036854775807-(g:Int))=true:=qG (by omega)
 case' inr.inr.inr=>
  have d1:decide ((g:Int)>9223372036854775807)=false:=qF (by omega);have hws:IntKind.u64.wrap (9223372036854775807-(g:Int))=9223372036854775807-(g:Int):=by simp[IntKind.wrap,IntKind.bits,IntKind.signed];omega
  have d2:decide ((l.length:Int)>9223372036854775807-(g:Int))=false:=qF (by omega);have d3:decide ((l.length:Int)>(E:Int))=true:=qG (by omega)
 all_goals
  clear hg hl;generalize gK now m=sv at *;go_enter Tryz.func56,Tryz.ntmps56
  go_wp2_with fail
  refine HR.out.mono ?_;rintro _ w2 ⟨rfl,hF⟩;obtain⟨_,hb,_⟩:=(HW.out.fr0 hF).get;have r0:=hb.cell 0;have r1:=hb.cell 1;simp only[zJ,zK]at r0 r1;have HW:=qA (HW.out.fr0 hF);clear hF HR r2 r3 hb;go_wp2_with fail
  refine(HA.out _).mono ?_;rintro _ w3 ⟨rfl,hF⟩;obtain⟨_,hb,_⟩:=(HW.out.fr0 hF).get;have r0:=hb.cell 0;have r1:=hb.cell 1;simp only[zJ,zK]at r0 r1;have HW:=qA (HW.out.fr0 hF).drop;clear hF HA hb;go_wp2_with fail
  go_ret2;exact⟨rfl,HW.out⟩};have b1:now+m<=9223372036854775807:=by omega
 have b2:g<=9223372036854775807:=by omega
 have b3:l.length<=9223372036854775807-g:=by omega
 have b4:l.length<=E:=by omega
 have hR:=qA (show eU m E V D now g l=((Ob.at m E V D now g).docL 0 l).bind Ob.docE from aMI (l:=l) b2 hc (show(l.length:Int)<=(E:Int) by omega) b3 (eC.trans (qD b1)));have e1:gK now m=now+m:=qD b1;have e2:gJ now m=0:=qD b1;rw[e1,e2]at HA;have d1:decide ((g:Int)>9223372036854775807)=false:=qF (by omega);have hws:IntKind.u64.wrap (9223372036854775807-(g:Int))=9223372036854775807-(g:Int):=by simp[IntKind.wrap,IntKind.bits,IntKind.signed];omega
 have d2:decide ((l.length:Int)>9223372036854775807-(g:Int))=false:=qF (by omega);have d3:decide ((l.length:Int)>(E:Int))=false:=qF (by omega);have HL:=qA (zI hrow hok);have HK:=qA (show g<=9223372036854775807/\l.length<=9223372036854775807-g/\l.length<=E/\0<=m/\m<=9223372036854775807/\0<=now/\now<=9223372036854775807/\E<=16384/\V<=4096 from⟨b2,b3,b4,by omega,hm2,by omega,hn2,by omega,by omega⟩);clear e1 e2 eC b1 b2 b3 b4 hbad hn k1 k2 k3 k4 k5 k6 k7 hc hb hW0 h hg hl hn2 hm2 hrow hok;obtain⟨n,hnl⟩:∃n,n=l.length:=⟨_,rfl⟩;have d4:¬E<l.length:=by have:=HK.out;omega
 rw[<-hnl]at hwl d2 d3 d4 HK ⊢;have HN:=qA hnl;clear hnl;generalize now+m=sv at HA;go_enter Tryz.func56,Tryz.ntmps56
 go_wp2_with fail
 refine HR.out.mono ?_;rintro _ w2 ⟨rfl,hF⟩;obtain⟨_,hb,_⟩:=(HW.out.fr0 hF).get;have r0:=hb.cell 0;have r1:=hb.cell 1;simp only[zJ,zK]at r0 r1;have HW:=qA (HW.out.fr0 hF);clear hF HR r2 r3 hb;go_wp2_with fail
 refine(HA.out _).mono ?_;rintro _ w3 ⟨rfl,hF⟩;obtain⟨_,hb,_⟩:=(HW.out.fr0 hF).get;have r0:=hb.cell 0;have r1:=hb.cell 1;have r2:=hb.cell 2;have r3:=hb.cell 3;simp only[zJ,zK]at r0 r1 r2 r3;have HW:=qA (HW.out.fr0 hF);have HP:Hid (Wd W (w3.alloc (.cells #[.bool true,.int .i64 m,.int .i64 E,.int .i64 V,.int .i64 D,.int .i64 now,.slice none 0 0,.int .u64 g,.int .u64 g] 102)) (thF w3.heap.size (Ob.at m E V D now g)::thB wz.heap.size 31 [.int .i64 m,.int .i64 E,.int .i64 V,.int .i64 D]::ts)):=qA (by
   refine HW.out.new (K:=[w3.heap.size]) ((Fr.refl [] w3).alloc _) ⟨none,0,?_,⟨rfl,.inl ⟨rfl,rfl⟩⟩,(fun q hq=>by cases hq),rfl⟩ (fun q hq=>Nat.le_of_eq (qH.1 hq).symm);exact Blk.new w3 (rfC (Ob.at m E V D now g) (.slice none 0 0)) 102)
 clear hF HA hb;go_wp2_with fail
 have HP2:=qA (show aMJ W (w3.alloc (.cells #[.bool true,.int .i64 m,.int .i64 E,.int .i64 V,.int .i64 D,.int .i64 now,.slice none 0 0,.int .u64 g,.int .u64 g] 102)) w3.heap.size wz.heap.size ts m E V D now g l 0 0 (Ob.at m E V D now g) from⟨HP.out,rfl,Int.le_refl _,rfl,rfl,rfl,rfl,rfl⟩);clear HP HW r0 r1 r2 r3 hwl d0 d1 d2 d3 d4 hws;generalize w3.heap.size=q at *;go_loopw [13,14,15,16] (fun x i _ _ wr=>∃(k:Nat) (lst:Int) (o:Ob),k<=n/\x=.int .i64 lst/\i=.int .i64 k/\Hid (aMJ W wr q wz.heap.size ts m E V D now g l k lst o)) (fun _ i _ _ _=>n-(intOf i).toNat)
 case atStart=>exact⟨0,0,_,qS _,rfl,rfl,HP2⟩
 case round=>
  clear HP2;obtain⟨k,lst,o,hk,rfl,rfl,HP⟩:=hrel;by_cases hlt:k<n
  {
  have hlt' :(k:Int)<n:=by omega
  have hw1:IntKind.i64.wrap ((k:Int)+1)=((k+1:Nat):Int):=by rw[show(k:Int)+1=((k+1:Nat):Int) by omega];exact zG _ (by have:=HK.out;omega)
  have hkl:k<l.length:=by rw[<-HN.out];exact hlt
  obtain⟨b', off,ea,_,c0,c1,c2,c3⟩:=HL.out.1 k hkl;have hrk:=HL.out.2 _ (List.getElem_mem hkl);have hD:=List.drop_eq_getElem_cons hkl;generalize l[k]'hkl=r at *;obtain⟨u,v,wt,t⟩:=r;subst ea;have HCl:=qA (show ∀w', Fr [] W w' -> w'.cell? ⟨b', off+k*4,none⟩=some (.int .u64 u)/\w'.cell? ⟨b', off+k*4+1,none⟩=some (.int .u64 v)/\w'.cell? ⟨b', off+k*4+2,none⟩=some (.int .i64 wt)/\w'.cell? ⟨b', off+k*4+3,none⟩=some (.int .i64 t) from fun w' hf=>⟨hf.cell c0 (by simp),hf.cell c1 (by simp),hf.cell c2 (by simp),hf.cell c3 (by simp)⟩);clear c0 c1 c2 c3;obtain⟨c0,c1,c2,c3⟩:=HCl.out _ HP.out.1.frm;obtain⟨m0,m1,m2,m3⟩:=(HP.out.1.drop).cfg4;have ht2:t<=9223372036854775807:=hrk.2.2.2;have HDoc:=qA (show eU m E V D now g l=(if o.docOk lst (u,v,wt,t)=true then(o.putT u v wt t).docL t (l.drop (k+1)) else none).bind Ob.docE by rw[hR.out,HP.out.2.1,hD];rfl);have hle:0<=lst:=HP.out.2.2.1;have hom:=HP.out.2.2.2.1;have hon:=HP.out.2.2.2.2.1;have HQ:=qA (show ∀w', Fr [] wr w' -> w'.cell? ⟨b', off+k*4+3,none⟩=some (.int .i64 t)/\w'.cell? ⟨wz.heap.size,0,none⟩=some (.int .i64 m) from fun w' hf=>⟨hf.cell c3 (by simp),hf.cell m0 (by simp)⟩);clear hrk;have key:∀X:Prop,(X->o.docOk lst (u,v,wt,t)=true->False)->X->eU m E V D now g l=none:=fun X h1 hX=>by
    rw[HDoc.out,qC (h1 hX)];rfl
  by_cases hbad:u=v∨t<lst∨now<t
  {
  have HNo:=qA (key _ (fun hX h=>by
    unfold Ob.docOk jC at h;simp only[qX,decide_eq_true_eq]at h;rw[hon,hom]at h;rcases hX with e|e|e
    · exact h.1.1 e
    · exact absurd h.1.2 (by omega)
    · exact absurd h.2.1 (by omega)) hbad)
  have HWd:=qA HP.out.1.drop.drop;clear HDoc key HP hle hom hon HQ hD;rcases(show u=v∨u≠v/\(t<lst∨lst<=t/\now<t) by omega) with hu|⟨hu,hd|⟨hd,he⟩⟩
  case' inl=>have u0:((u:Int) == (v:Int))=true:=beq_iff_eq.2 (by rw[hu])
  case' inr.inl=>
   have u0:((u:Int) == (v:Int))=false:=qR.2 (by omega);have d1:decide (t<lst)=true:=qG hd
  case' inr.inr=>
   have u0:((u:Int) == (v:Int))=false:=qR.2 (by omega);have d1:decide (t<lst)=false:=qF (by omega);have d2:decide (t>now)=true:=qG he
  all_goals
   clear hbad;go_wp2_with fail
   go_quiet (fail)
   go_wp2_with fail
   go_ret2;rw[HNo.out];exact⟨rfl,HWd.out.fr0 ((Fr.refl [] wr).drewN _)⟩};have u0:((u:Int) == (v:Int))=false:=qR.2 (by omega);have d1:decide (t<lst)=false:=qF (by omega);have d2:decide (t>now)=false:=qF (by omega);have HK9:=HK.out;have HA:=qA (fun w=>aFA (x:=t) (y:=m) (by omega) ht2 HK9.2.2.2.1 HK9.2.2.2.2.1 w);by_cases hb2:9223372036854775807<t+m∨t+m<=now
  {
  have HNo:=qA (key _ (fun hX h=>by
    unfold Ob.docOk jC at h;simp only[qX,decide_eq_true_eq]at h;rw[hon,hom]at h;omega) hb2)
  have HWd:=qA HP.out.1.drop.drop;have hcs:∃s c:Int,gK t m=s/\gJ t m=c/\(c=7∨c=0/\s<=now):=by {
  by_cases e:t+m<=9223372036854775807
  · exact⟨_,_,qD e,qD e,.inr ⟨rfl,by omega⟩⟩
  · exact⟨_,_,qC e,qC e,.inl rfl⟩};obtain⟨s,c,e1,e2,hcs⟩:=hcs;rw[e1,e2]at HA;clear HDoc key HP hle hom hon e1 e2 hb2 hbad HK9 hD;rcases hcs with rfl|⟨rfl,hs⟩
  case' inr=>have d3:decide (s<=now)=true:=qG hs
  all_goals
   go_wp2_with fail
   go_quiet (fail)
   go_wp2_with fail
   go_region_held3 (fun w' => w'.cell? ⟨b', off + k * 4 + 3, none⟩ = some (.int .i64 t) /\ w'.cell? ⟨wz.heap.size, 0, none⟩ = some (.int .i64 m))
     (first
       | exact HQ.out _ (Fr.trans' (((Fr.refl [] wr).drewN _).drew) hF6)
       | go_keep)
     (first
       | (go_at_call 95;refine(HA.out _).mono ?_;rintro _ w6 ⟨rfl,hF6⟩))
   have HW6:=qA (HWd.out.fr0 (Fr.trans' (((Fr.refl [] wr).drewN _).drew) hF6));clear hF6 HA HQ;go_wp2_with fail
   go_ret2;rw[HNo.out];exact⟨rfl,HW6.out⟩};have e3:gK t m=t+m:=qD (by omega);have e4:gJ t m=0:=qD (by omega);rw[e3,e4]at HA;have hdk:o.docOk lst (u,v,wt,t)=true:=by {
  unfold Ob.docOk jC;simp only[qX,decide_eq_true_eq];rw[hon,hom];omega};have HDo:=qA (show(Ob.at m E V D now g).docL 0 l=(o.putT u v wt t).docL t (l.drop (k+1)) by
    rw[HP.out.2.1,hD];exact qD hdk)
  obtain⟨x,hx⟩:∃x:Lv,x=⟨0,o.last+1,u,v,wt,t,t+m⟩:=⟨_,rfl⟩;have d3:decide (x.x<=now)=false:=qF (by rw[hx];show ¬t+m<=now;omega);rw[show t+m=x.x by rw[hx]]at HA;have HX:=qA hx;have HT0:=qA (show 0<=t by omega);clear e3 e4 hdk hD HDoc key hle hom hon hx HK9 hb2 hbad;go_wp2_with fail
  go_quiet (fail)
  go_wp2_with fail
  go_region_held3 (fun w' => w'.cell? ⟨b', off + k * 4 + 3, none⟩ = some (.int .i64 t) /\ w'.cell? ⟨wz.heap.size, 0, none⟩ = some (.int .i64 m))
    (first
      | exact HQ.out _ (Fr.trans' (((Fr.refl [] wr).drewN _).drew) hF6)
      | go_keep)
    (first
      | (go_at_call 95;refine(HA.out _).mono ?_;rintro _ w6 ⟨rfl,hF6⟩))
  have HW6:=qA (HP.out.1.fr0 (Fr.trans' (((Fr.refl [] wr).drewN _).drew) hF6));clear hF6 HA HQ c0 c1 c2 c3 m0 m1 m2 m3 u0 d1 d2;obtain⟨_,_,_,c3⟩:=HCl.out _ HW6.out.frm;obtain⟨K6,⟨a1,c1,h1,h2,h3,rfl⟩,hs⟩:=HW6.out.open;have c7:=h1.cell 7;have z7:=h1.frozen 7;simp only[rfC,zJ,zK]at c7;have hw:IntKind.u64.wrap ((o.last:Int)+1)=(x.seq:Int):=by rw[HX.out];have:=HP.out.2.2.2.2.2.2.2;have:=HK.out;simp[IntKind.wrap,IntKind.bits,IntKind.signed];omega
  have H8:=qA (zI h1 (zI h2 h3));have HS8:=qA (fun(w' :World) (t' :Th) (k:Stp w6 w' (q::(Value.slice a1 o.L.length c1).ownBlock.toList) t')=>hs k);clear h1 h2 h3 hs;go_wp2_with fail
  clear c7 z7 hw c3 d3;have HW9:=qA (HS8.out (w6.setCell ⟨q,7,none⟩ (.int .u64 x.seq)) (thF q { o with last:=x.seq }) ⟨_,⟨a1,c1,H8.out.1.set 7 (.int .u64 x.seq),H8.out.2.1.fr ((Fr.refl [q] w6).setCell _ _ (.inl (by simp))) (fun q hq hm=>H8.out.2.2 q hq (qH.1 hm)),H8.out.2.2,rfl⟩,(Fr.refl _ w6).setCell _ _ (.inl (by simp)),fun q hq=>.inl hq⟩);clear H8 HS8 HW6;generalize w6.setCell ⟨q,7,none⟩ (.int .u64 x.seq)=w9 at *;clear a1 c1;obtain⟨K9,⟨a1,c1,h1,h2,h3,rfl⟩,hs⟩:=HW9.out.open;have HS9:=qA (fun(w' :World) (t' :Th) (k:Stp w9 w' (q::(Value.slice a1 o.L.length c1).ownBlock.toList) t')=>hs k);have H9:=qA (show Blk w9 q 102 (rfC { o with last:=x.seq } (.slice a1 o.L.length c1))/\bN w9 (.slice a1 o.L.length c1) o.L/\∀q', (Value.slice a1 o.L.length c1).ownBlock=some q' -> q' ≠ q from⟨h1,h2,h3⟩);have HLN:=qA (show o.L.length<60000 by have:=HP.out.2.2.2.2.2.2.1;have:=HK.out;omega);have HW9f:=qA HW9.out.frm;clear h1 h2 h3 hs;generalize o.L.length=n1 at H9 HS9;refine aBC (I18 q (.slice a1 n1 c1) (.slice (some ⟨b', off,none⟩) n cap) (.pointer (some ⟨b', off+k*4,none⟩)) k o.L x w9) (by kernel_rfl) (by kernel_rfl) (I18.start w9) ?_ ?_
  {
  refine(fun(H:∀a:Act,a.tmps.size=152->a.tmps[3]? =some (.slice (some ⟨b', off,none⟩) n cap)->a.tmps[12]? =some (eA q)->a.tmps[14]? =some (.int .i64 k)->a.tmps[15]? =some (.int .i64 x.x)->∀f,tR _ _ _ _ f a 0 _)=>H _ rfl rfl rfl rfl rfl) fun a hsz t3 t12 t14 t15 f=>?_;refine⟨?_,?_,?_,?_,?_,?_,?_,?_,?_,?_,?_,?_,?_,?_,?_,?_,?_,?_,?_,?_,trivial⟩
  {
  intro b hb hf hg;have hbs:b.tmps.size=152:=hb.trans hsz;have T12:=dS ((hg 12 (by kernel_rfl)).trans t12);clear hf hg hb;refine aM rfl rfl fun L w hc hd hnL hI=>?_;go_simp;exact hI.pass (by decide) (by decide) (by decide) rfl}
  {
  intro b hb hf hg;have hbs:b.tmps.size=152:=hb.trans hsz;have T12:=dS ((hg 12 (by kernel_rfl)).trans t12);clear hf hg hb;refine aM rfl rfl fun L w hc hd hnL hI=>?_;go_simp;exact hI.pass (by decide) (by decide) (by decide) rfl}
  {
  intro b hb hf hg;have hbs:b.tmps.size=152:=hb.trans hsz;have t124:b.tmps[124]? =some (f 1):=hf 1 124 (by decide) (by kernel_rfl) (by rw[hsz];decide);have T124:=dS t124;clear hf hg hb;refine aM rfl rfl fun L w hc hd hnL hI=>?_;have e1:f 1=eA q:=hI.1 1 (dP hd 1 (by decide));rw[e1]at T124;go_simp;exact hI.pass (by decide) (by decide) (by decide) rfl}
  {
  intro b hb hf hg;have hbs:b.tmps.size=152:=hb.trans hsz;have t125:b.tmps[125]? =some (f 2):=hf 2 125 (by decide) (by kernel_rfl) (by rw[hsz];decide);have T125:=dS t125;clear hf hg hb;refine aM rfl rfl fun L w hc hd hnL hI=>?_;have e2:f 2=.pointer (some ⟨q,0,none⟩):=hI.1 2 (dP hd 2 (by decide));rw[e2]at T125;go_simp;exact hI.pass (by decide) (by decide) (by decide) rfl}
  {
  intro b hb hf hg;have hbs:b.tmps.size=152:=hb.trans hsz;have t126:b.tmps[126]? =some (f 3):=hf 3 126 (by decide) (by kernel_rfl) (by rw[hsz];decide);have T126:=dS t126;clear hf hg hb;refine aM rfl rfl fun L w hc hd hnL hI=>?_;have e3:f 3=.pointer (some ⟨q,6,none⟩):=hI.1 3 (dP hd 3 (by decide));rw[e3]at T126;have h6:=hc.no (n:=5) (d:=16) (k:=4) (by kernel_rfl) hnL;have hF:=hI.2.1 h6;have hb:=hF.blk H9.out.1 (by simp);have c6:=hb.cell 6;simp only[rfC,zJ,zK]at c6;clear hb;go_simp;exact hI.pass (by decide) (by decide) (by decide) rfl}
  {
  intro b hb hf hg;have hbs:b.tmps.size=152:=hb.trans hsz;have T12:=dS ((hg 12 (by kernel_rfl)).trans t12);clear hf hg hb;refine aM rfl rfl fun L w hc hd hnL hI=>?_;go_simp;exact hI.pass (by decide) (by decide) (by decide) rfl}
  {
  intro b hb hf hg;have hbs:b.tmps.size=152:=hb.trans hsz;have t128:b.tmps[128]? =some (f 5):=hf 5 128 (by decide) (by kernel_rfl) (by rw[hsz];decide);have T128:=dS t128;clear hf hg hb;refine aM rfl rfl fun L w hc hd hnL hI=>?_;have e5:f 5=eA q:=hI.1 5 (dP hd 5 (by decide));rw[e5]at T128;go_simp;exact hI.pass (by decide) (by decide) (by decide) rfl}
  {
  intro b hb hf hg;have hbs:b.tmps.size=152:=hb.trans hsz;have t129:b.tmps[129]? =some (f 6):=hf 6 129 (by decide) (by kernel_rfl) (by rw[hsz];decide);have T129:=dS t129;clear hf hg hb;refine aM rfl rfl fun L w hc hd hnL hI=>?_;have e6:f 6=.pointer (some ⟨q,0,none⟩):=hI.1 6 (dP hd 6 (by decide));rw[e6]at T129;go_simp;exact hI.pass (by decide) (by decide) (by decide) rfl}
  {
  intro b hb hf hg;have hbs:b.tmps.size=152:=hb.trans hsz;have t130:b.tmps[130]? =some (f 7):=hf 7 130 (by decide) (by kernel_rfl) (by rw[hsz];decide);have T130:=dS t130;clear hf hg hb;refine aM rfl rfl fun L w hc hd hnL hI=>?_;have e7:f 7=.pointer (some ⟨q,7,none⟩):=hI.1 7 (dP hd 7 (by decide));rw[e7]at T130;have h6:=hc.no (n:=5) (d:=16) (k:=8) (by kernel_rfl) hnL;have hF:=hI.2.1 h6;have hb:=hF.blk H9.out.1 (by simp);have c7:=hb.cell 7;simp only[rfC,zJ,zK]at c7;clear hb;go_simp;exact hI.pass (by decide) (by decide) (by decide) rfl}
  {
  intro b hb hf hg;have hbs:b.tmps.size=152:=hb.trans hsz;have T3:=dS ((hg 3 (by kernel_rfl)).trans t3);clear hf hg hb;refine aM rfl rfl fun L w hc hd hnL hI=>?_;go_simp;exact hI.pass (by decide) (by decide) (by decide) rfl}
  {
  intro b hb hf hg;have hbs:b.tmps.size=152:=hb.trans hsz;have T14:=dS ((hg 14 (by kernel_rfl)).trans t14);clear hf hg hb;refine aM rfl rfl fun L w hc hd hnL hI=>?_;go_simp;exact hI.pass (by decide) (by decide) (by decide) rfl}
  {
  intro b hb hf hg;have hbs:b.tmps.size=152:=hb.trans hsz;have t132:b.tmps[132]? =some (f 9):=hf 9 132 (by decide) (by kernel_rfl) (by rw[hsz];decide);have T132:=dS t132;have t133:b.tmps[133]? =some (f 10):=hf 10 133 (by decide) (by kernel_rfl) (by rw[hsz];decide);have T133:=dS t133;clear hf hg hb;refine aM rfl rfl fun L w hc hd hnL hI=>?_;have e9:f 9=.slice (some ⟨b', off,none⟩) n cap:=hI.1 9 (dP hd 9 (by decide));rw[e9]at T132;have e10:f 10=.int .i64 k:=hI.1 10 (dP hd 10 (by decide));rw[e10]at T133;go_simp;exact hI.pass (by decide) (by decide) (by decide) rfl}
  {
  intro b hb hf hg;have hbs:b.tmps.size=152:=hb.trans hsz;have t134:b.tmps[134]? =some (f 11):=hf 11 134 (by decide) (by kernel_rfl) (by rw[hsz];decide);have T134:=dS t134;clear hf hg hb;refine aM rfl rfl fun L w hc hd hnL hI=>?_;have e11:f 11=.pointer (some ⟨b', off+k*4,none⟩):=hI.1 11 (dP hd 11 (by decide));rw[e11]at T134;have h6:=hc.no (n:=5) (d:=16) (k:=12) (by kernel_rfl) hnL;have hF:=hI.2.1 h6;obtain⟨q0,q1,q2,q3⟩:=HCl.out _ (HW9f.out.trans' hF);rw[show u=x.u by rw[HX.out]]at q0;rw[show v=x.v by rw[HX.out]]at q1;rw[show wt=x.wt by rw[HX.out]]at q2;rw[show t=x.t by rw[HX.out]]at q3;go_simp;exact hI.pass (by decide) (by decide) (by decide) rfl}
  {
  intro b hb hf hg;have hbs:b.tmps.size=152:=hb.trans hsz;have T15:=dS ((hg 15 (by kernel_rfl)).trans t15);clear hf hg hb;refine aM rfl rfl fun L w hc hd hnL hI=>?_;go_simp;exact hI.pass (by decide) (by decide) (by decide) rfl}
  {
  intro b hb hf hg;have hbs:b.tmps.size=152:=hb.trans hsz;have t131:b.tmps[131]? =some (f 8):=hf 8 131 (by decide) (by kernel_rfl) (by rw[hsz];decide);have T131:=dS t131;have t135:b.tmps[135]? =some (f 12):=hf 12 135 (by decide) (by kernel_rfl) (by rw[hsz];decide);have T135:=dS t135;have t136:b.tmps[136]? =some (f 13):=hf 13 136 (by decide) (by kernel_rfl) (by rw[hsz];decide);have T136:=dS t136;clear hf hg hb;refine aM rfl rfl fun L w hc hd hnL hI=>?_;have e8:f 8=.int .u64 x.seq:=hI.1 8 (dP hd 8 (by decide));rw[e8]at T131;have e12:f 12=.agg #[.int .u64 x.u,.int .u64 x.v,.int .i64 x.wt,.int .i64 x.t]:=hI.1 12 (dP hd 12 (by decide));rw[e12]at T135;have e13:f 13=.int .i64 x.x:=hI.1 13 (dP hd 13 (by decide));rw[e13]at T136;go_simp;exact hI.pass (by decide) (by decide) (by decide) rfl}
  {
  intro b hb hf hg;have hbs:b.tmps.size=152:=hb.trans hsz;have t137:b.tmps[137]? =some (f 14):=hf 14 137 (by decide) (by kernel_rfl) (by rw[hsz];decide);have T137:=dS t137;clear hf hg hb;refine aM rfl rfl fun L w hc hd hnL hI=>?_;have e14:f 14=.agg #[.int .i64 0,.int .u64 x.seq,.int .u64 x.u,.int .u64 x.v,.int .i64 x.wt,.int .i64 x.t,.int .i64 x.x]:=hI.1 14 (dP hd 14 (by decide));rw[e14]at T137;have h6:=hc.no (n:=5) (d:=16) (k:=15) (by kernel_rfl) hnL;have hF:=hI.2.1 h6;have h9:=hc.no (n:=5) (d:=19) (k:=15) (by kernel_rfl) hnL;go_simp;refine hI.make h6 h9 ((Fr.refl [] w).alloc _) ?_;rw[show x=⟨0,x.seq,x.u,x.v,x.wt,x.t,x.x⟩ by rw[HX.out]];exact bN.one w ⟨0,x.seq,x.u,x.v,x.wt,x.t,x.x⟩}
  {
  intro b hb hf hg;have hbs:b.tmps.size=152:=hb.trans hsz;have t127:b.tmps[127]? =some (f 4):=hf 4 127 (by decide) (by kernel_rfl) (by rw[hsz];decide);have T127:=dS t127;have t138:b.tmps[138]? =some (f 15):=hf 15 138 (by decide) (by kernel_rfl) (by rw[hsz];decide);have T138:=dS t138;clear hf hg hb;refine aM rfl rfl fun L w hc hd hnL hI=>?_;have e4:f 4=(.slice a1 n1 c1):=hI.1 4 (dP hd 4 (by decide));rw[e4]at T127;have h6:=hnL;have hF:=hI.2.1 h6;have h9:=hc.no (n:=5) (d:=19) (k:=16) (by kernel_rfl) hnL;have hy:bN w (f 4) o.L:=by rw[e4];exact H9.out.2.1.fr0 hF
  refine aSR (.tmp 127) (.tmp 138) rfl (aME t127) (aME t138) hy (hI.2.2.1 (dP hd 15 (by decide)) h6) (by have:=HLN.out;simp;omega) fun v' w' k1 k2 k3=>?_;rw[e4]at k2 k3;exact hI.app h6 h9 k2 k1 k3}
  {
  intro b hb hf hg;have hbs:b.tmps.size=152:=hb.trans hsz;have t123:b.tmps[123]? =some (f 0):=hf 0 123 (by decide) (by kernel_rfl) (by rw[hsz];decide);have T123:=dS t123;clear hf hg hb;refine aM rfl rfl fun L w hc hd hnL hI=>?_;have e0:f 0=eA q:=hI.1 0 (dP hd 0 (by decide));rw[e0]at T123;go_simp;exact hI.pass (by decide) (by decide) (by decide) rfl}
  {
  intro b hb hf hg;have hbs:b.tmps.size=152:=hb.trans hsz;have t140:b.tmps[140]? =some (f 17):=hf 17 140 (by decide) (by kernel_rfl) (by rw[hsz];decide);have T140:=dS t140;clear hf hg hb;refine aM rfl rfl fun L w hc hd hnL hI=>?_;have e17:f 17=.pointer (some ⟨q,0,none⟩):=hI.1 17 (dP hd 17 (by decide));rw[e17]at T140;go_simp;exact hI.pass (by decide) (by decide) (by decide) rfl}
  {
  intro b hb hf hg;have hbs:b.tmps.size=152:=hb.trans hsz;have t141:b.tmps[141]? =some (f 18):=hf 18 141 (by decide) (by kernel_rfl) (by rw[hsz];decide);have T141:=dS t141;have t139:b.tmps[139]? =some (f 16):=hf 16 139 (by decide) (by kernel_rfl) (by rw[hsz];decide);have T139:=dS t139;clear hf hg hb;refine aM rfl rfl fun L w hc hd hnL hI=>?_;have e18:f 18=.pointer (some ⟨q,6,none⟩):=hI.1 18 (dP hd 18 (by decide));rw[e18]at T141;have h16:=dP hd 16 (by decide);obtain⟨hF,hr,ho⟩:=hI.2.2.2.1 h16 hnL;have hb:=hF.blk H9.out.1 (fun hm=>H9.out.2.2 q (by simpa using hm) rfl);have c6:=hb.cell 6;have z6:=hb.frozen 6;simp only[rfC,zJ,zK]at c6;have hS:=hI.store (v:=undef) h16 hnL;clear hI;obtain⟨y,hy⟩:∃y,y=f 16:=⟨_,rfl⟩;rw[<-hy]at T139 hS hr;obtain⟨a19,c19,rfl⟩:=hr.slice;rw[show(o.L++[x]).length=o.L.length+1 from zF]at hS;have hS:=qA hS;clear hy hr ho hF hb;go_simp}}
  {
  rintro f L wt' hL hI;obtain⟨w10,⟨hF,hr,hq⟩,rfl⟩:=hI.2.2.2.2 (hL 19 (by simp));simp only[aHG];go_simp;have hb:=hF.blk H9.out.1 (fun hm=>H9.out.2.2 q (by simpa using hm) rfl);obtain⟨y,hy⟩:∃y,y=f 16:=⟨_,rfl⟩;rw[<-hy]at hr hq ⊢;obtain⟨a15,c15,rfl⟩:=hr.slice;have hb2:=hb.set 6 (.slice a15 (o.L++[x]).length c15);have eL:(o.putT u v wt t).L=o.L++[x]:=by rw[HX.out,<-HP.out.2.2.2.1];rfl
  have hlt:=H9.out.1.lt;have HN:Hid (aMJ W (w10.setCell ⟨q,6,none⟩ (.slice a15 (o.L++[x]).length c15)) q wz.heap.size ts m E V D now g l (k+1) t (o.putT u v wt t)):=qA (by
    have hP:=HP.out;refine⟨HS9.out _ _ ⟨_,⟨a15,c15,?_,?_,?_,rfl⟩,?_,?_⟩,HDo.out,HT0.out,hP.2.2.2.1,hP.2.2.2.2.1,hP.2.2.2.2.2.1,?_,?_⟩
    · rw [eL]
      have:rfC (o.putT u v wt t) (.slice a15 (o.L++[x]).length c15)=(rfC { o with last:=x.seq } (.slice a1 n1 c1)).set 6 (.slice a15 (o.L++[x]).length c15):=by rw[HX.out];rfl
      rw[this];exact hb2
    · rw [eL]
      exact hr.fr ((Fr.refl [q] _).setCell _ _ (.inl (by simp))) (fun b hb' hm=>by
        have e:=qH.1 hm;subst e;rcases hq b hb' with e2|e2
        · exact H9.out.2.2 b e2 rfl
        · omega)
    · rw [eL]
      intro b hb' e;subst e;rcases hq b hb' with e2|e2
      · exact H9.out.2.2 b e2 rfl
      · omega
    · exact(hF.mono (fun b hb' =>.inl (List.mem_cons_of_mem _ hb'))).trans ((Fr.refl [q] _).setCell _ _ (.inl (by simp))) (fun b hb' =>.inl (by rw[qH.1 hb'];simp))
    · intro b hb'
      rcases qB.1 hb' with rfl|hb'
      · exact .inl (by simp)
      · rcases hq b (by rw [<- eL]; simpa using hb') with e2 | e2
        · exact .inl (List.mem_cons_of_mem _ (by simp[e2]))
        · exact .inr e2
    · rw[eL,zF,hP.2.2.2.2.2.2.1];rfl
    · show o.last + 1 = _
      rw[hP.2.2.2.2.2.2.2];omega)
  rw[show(o.L++[x]).length=o.L.length+1 from zF]at HN;clear hF hr hq hb hb2 hy hI hL hlt eL;go_wp2_with fail
  go_roundw
  case rel=>exact⟨k+1,t,_,by omega,rfl,rfl,HN⟩
  case measure=>simp[intOf];omega}}
  {
  obtain rfl:k=n:=by omega
  have hRe:eU m E V D now g l=o.docE:=by {
  rw[hR.out,HP.out.2.1,HN.out,List.drop_length];rfl};obtain⟨K6,⟨a1,c1,h1,h2,h3,rfl⟩,hs⟩:=HP.out.1.open;clear hs h3;have c6:=h1.cell 6;simp only[rfC,zJ,zK]at c6;obtain⟨_,_,m2,_⟩:=(HP.out.1.drop).cfg4;have HI:=qA (aLU (h2.fr0 (Fr.refl [] wr).drew) (show o.L.length<=16384 by have:=HP.out.2.2.2.2.2.2.1;have:=HK.out;omega));have HQ:=qA (show ∀w', Fr [] wr w' -> w'.cell? ⟨q,6,none⟩=some (.slice a1 o.L.length c1)/\w'.cell? ⟨wz.heap.size,2,none⟩=some (.int .i64 V) from fun w' hf=>⟨hf.cell c6 (by simp),hf.cell m2 (by simp)⟩);have HRe:=qA (zI hRe HP.out.2.2.2.2.2.1);have HWp:=qA HP.out.1;obtain⟨il,hil⟩:∃il,il=(bR o.L).length:=⟨_,rfl⟩;have HIL:=qA hil;clear h1 h2 HP hRe hil;go_wp2_with fail
  go_region_held3 (fun w' => w'.cell? ⟨q, 6, none⟩ = some (.slice a1 o.L.length c1) /\ w'.cell? ⟨wz.heap.size, 2, none⟩ = some (.int .i64 V))
    (first
      | exact HQ.out _ (Fr.trans' (Fr.refl [] wr).drew hF6)
      | go_keep)
    (first
      | (go_at_call 62;refine HI.out.mono ?_;rintro _ w6 ⟨v6,rfl,hr6,hF6,hq6⟩;obtain⟨a6,k6,rfl⟩:=hr6.slice;rw[<-HIL.out]))
  have HW6:=qA (HWp.out.fr0 (Fr.trans' (Fr.refl [] wr).drew hF6));clear hF6 hr6 hq6 HI HQ c6 m2 HWp;by_cases hV:V<il
  {
  have d6:decide ((il:Int)>V)=true:=qG (by omega);have d7:decide ((V:Int)<il)=true:=qG (by omega);have d8:decide (V<il)=true:=qG hV;have d9:decide (il>V)=true:=qG hV;try rw[d6]
  try rw[d7]
  try rw[d8]
  try rw[d9]
  go_wp2_with fail
  go_ret2;rw[HRe.out.1,show o.docE=none from qD (by rw[HRe.out.2,<-HIL.out];exact hV)];exact⟨rfl,HW6.out.drop.drop⟩}
  {
  have d6:decide ((il:Int)>V)=false:=qF (by omega);have d7:decide ((V:Int)<il)=false:=qF (by omega);have d8:decide (V<il)=false:=qF hV;have d9:decide (il>V)=false:=qF hV;try rw[d6]
  try rw[d7]
  try rw[d8]
  try rw[d9]
  go_wp2_with fail
  go_ret2;rw[HRe.out.1,show o.docE=some o from qC (by rw[HRe.out.2,<-HIL.out];exact hV)];exact⟨_,rfl,HW6.out.drop2⟩}}}
end
def LdF(W w' :World)(ts:List Th)(R:Int×Option Ob)(e:Ending):Prop:=match R.2 with
  | none=>e=.returned (.tuple #[.pointer none,.int .i64 R.1])/\Wd W w' ts
  | some o=>∃p,e=.returned (.tuple #[eA p,.int .i64 0])/\Wd W w' (thF p o::ts)
theorem Wd.graft{W wr w' :World}{ts:List Th}{t:Th}(h:Wd W wr ts)(k:Wd wr w' [t]):Wd W w' (t::ts):=by
 obtain⟨hf,K,K1,K2,p,ge,_⟩:=k;exact h.new hf p ge
theorem aMK{W wr:World}{ts:List Th}{a:Option Addr}{n cap:Nat}{l:List R4}(h:Wd W wr (thR (.slice a n cap) l::ts))(hn:l.length=n)(m E V D now:Int)(g:Nat)(hg:g<18446744073709551616)(hn2:now<=9223372036854775807)(hm2:m<=9223372036854775807)(hl:n<=9223372036854775807)(hok:∀r∈l,r.ok):
    Calls Tryz.prog 56 #[.agg #[.int .i64 m,.int .i64 E,.int .i64 V,.int .i64 D],.int .i64 now,.int .u64 g,.slice a n cap] wr fun e w' =>ResF W w' ts (eU m E V D now g l) e:=by
 subst hn;refine(aST (Wd.begin wr) m E V D now g a cap l hg hn2 hm2 hl h.rowR.rc hok).mono fun e w' k=>?_;have h:=h.drop;cases hR:eU m E V D now g l with
 | none=>rw[hR]at k;exact⟨k.1,h.fr0 k.2.frm⟩
 | some o=>{
 rw[hR]at k;obtain⟨p,k1,k2⟩:=k;exact⟨p,k1,h.graft k2⟩}
theorem aML{P:Program}{W w:World}{ts:List Th}{v:Value}{l:List R4}{r:R4}{b:Nat}(h:Wd W w (thR v l::ts))(t ty:TypeId)(z:Value)(ht:P.underlying t=some (.slice 72))(hinfo:(P.info? 72).map (fun i=>(i.zero,i.size,i.bytes))=some (some z,4,32))(hzs:z.cells.size=4)
    (hb:Blk w b 72 (rC r)) (hl:l.length<=65536):∃v' w', (Builtin.append_ #[t,t] ty #[v,.slice (some ⟨b,0,none⟩) 1 1]).run P w=.ok v' w' /\ Wd W w' (thR v' (l++[r])::ts):=by
 obtain⟨K,⟨hv,rfl⟩,hst⟩:=h.open;obtain⟨i0,hi,hz0,hz1,hz2⟩:=info_parts hinfo;obtain⟨g,cap,w', hr,h2,h3,h4⟩:=wL (P:=P) w t ty 72 i0 z 4 32 ht hi hz0 hz1 hz2 hzs (by decide) v l.length (rowR l) hv ⟨b,0,none⟩ 1 1 (rC r) rfl (fun j u hj=>by rw[Addr.add_lit,Nat.zero_add,hb.cell];exact hj) (fun u hu=>by
   simp only[rC,qB,List.not_mem_nil,or_false]at hu;rcases hu with rfl|rfl|rfl|rfl<;>rfl) (by decide) (by unfold maxLen;omega) (by omega)
 refine⟨_,w', hr,hst ⟨_,⟨?_,rfl⟩,(Fr.refl _ _).grown h3 (fun q e=>.inl (by simp[e])),fun q hq=>?_⟩⟩
 {
 unfold lH;rw[zF,aGW];exact h2}
 {
 simp only[Value.ownBlock,Option.toList_some,qH]at hq;subst hq;rcases h4 with e|e
 · exact .inl (by simp[e])
 · exact .inr e}
theorem aSU{P:Program}{o:Oper}{a:Act}{w w' :World}{C:World->Prop}{v y v' :Value}(s x:Operand)(t:TypeId)(ho:o.op=.call { callee:=.builtin .append,args:=#[s,x],argTypes:=#[t,t] })(hs:a.eval s=v)(hx:a.eval x=y)
    (hr:(Builtin.append_ #[t,t] o.type #[v,y]).run P w=.ok v' w') (h:C w'):cR P C v' ((execOp a.eval o).run P w):=by
 unfold execOp;simp only[ho,resolve,invoke,builtin,Sem.run_bind,Sem.run_pure,Result.andThen_ok,List.map_toArray,List.map_cons,List.map_nil,hs,hx,hr];unfold cR;first|exact h|exact⟨rfl,h⟩|exact⟨h,rfl⟩
theorem aDL{l:List Nat}(h65:65<=l.length)(h5:l.take 5=jU):
    bX l=if aC (l.drop (l.length-4))≠crc (l.take (l.length-4)) then((17:Int),(none:Option Ob)) else
      if aC (sub l 45 8)<aC (sub l 53 8)∨(l.length-65)%32≠0∨(l.length-65)/32≠aC (sub l 45 8)-aC (sub l 53 8) then(15,none) else
        aRU (eU (aI (aC (sub l 5 8))) (aI (aC (sub l 13 8))) (aI (aC (sub l 21 8))) (aI (aC (sub l 29 8))) (aI (aC (sub l 37 8))) (aC (sub l 53 8)) (bK (aC (sub l 45 8)-aC (sub l 53 8)) (l.drop 61))):=by
 unfold bX;rw[qC (by rw[h5];simp;omega)];rfl
theorem rS{l:List Nat}{i n j k:Nat}(h:j+k<=n):sub (sub l i n) j k=sub l (i+j) k:=by
 unfold sub;rw[List.drop_take,List.take_take,List.drop_drop,Nat.min_eq_left (by omega)]
theorem aHK(e:List Nat)(k:Nat):gQ (e.drop k)=(aC (sub e k 8),aC (sub e (k+8) 8),aI (aC (sub e (k+16) 8)),aI (aC (sub e (k+24) 8))):=by
 unfold gQ sub;simp only[List.drop_drop,Nat.add_assoc]
theorem wJ:∀{n:Nat} {b:List Nat},Byt b->∀r∈bK n b,R4.ok r
  | 0,_,_,r,h=>by cases h
  | n+1,b,hb,r,h=>by
    rw[cW]at h;rcases qB.1 h with rfl|h
    · exact⟨dG hb,dG (hb.drop 8),dX _ (dG (((hb.drop 8).drop 8).drop 8))⟩
    · exact wJ (hb.drop 32) r h
theorem aFD{W w:World}{ts:List Th}{a:Option Addr}{l:List Nat}{n cap:Nat}(h:Wd W w ts)(hr:RdB w a l)(hb:Byt l)(hn:l.length=n)(hl:n<=100000)(hc:n<=cap):
    Calls Tryz.prog 22 #[.slice a n cap] w fun e w' =>LdF W w' ts (bX l) e:=by
 by_cases h65:n<65
 {
 rw[lJ (by omega)];have HW:=qA h;have d1:decide ((n:Int)<65)=true:=qG (by omega);have d2:decide (n<65)=true:=qG h65;clear h hr hb hn hl hc h65;go_enter Tryz.func22,Tryz.ntmps22
 go_wp2_with fail
 go_ret2;exact⟨rfl,HW.out⟩}
 {
 have d1:decide ((n:Int)<65)=false:=qF (by omega);have d2:decide (n<65)=false:=qF h65;obtain⟨b,off,rfl,_,hq⟩:=hr 0 (by omega);clear hq;have hst:=aSK (c:=cap) (hr.take 5) (n:=5) (by rw[List.length_take];omega) (by decide);have f1:(5:Int)<=cap:=by omega
 have f2:¬cap=0:=by omega
 by_cases h5:l.take 5=jU
 {
 rw[h5,show uN jU={ data:=#[83,69,69,80,1] } from by decide +kernel]at hst;obtain⟨m,hm⟩:∃m,n=m+4:=⟨n-4,by omega⟩;have hm61:61<=m:=by omega
 have HSt:=qA (aDL (l:=l) (by omega) h5);have hT:(l.take m).length=m:=by rw[List.length_take];omega
 have hD:(l.drop m).length=4:=by rw[List.length_drop];omega
 have hsum:=fun(w' :World) (hf:Fr [] w w')=>aLE (cap:=cap) ((hr.take m).fr hf) (hb.take m) (by rw[hT];omega);rw[hT]at hsum;have hval:=fun(w' :World) (hf:Fr [] w w')=>aDC (cap:=cap-m) (n:=4) ((hr.drop m).fr hf) (hb.drop m) hD (by decide);have hcr:=rU (hb.take m);have hv4:aC (l.drop m)<18446744073709551616:=by have:=fK (hb.drop m);rw[hD]at this;omega
 rw[show l.length-4=m by omega,show l.length-65=m-61 by omega]at HSt;have HSum:=qA hsum;have HVal:=qA hval;have HR:=qA (zI hr (zI hb (zI hn hl)));have HW:=qA h;clear hsum hval hT hD hr hb h;generalize hx1:crc (l.take m)=cB at *;generalize hx2:aC (l.drop m)=v4 at *;clear hx1 hx2;have hw1:IntKind.i64.wrap ((n:Int)-4)=(m:Int):=by rw[show(n:Int)-4=(m:Int) by omega];exact zG _ (by omega)
 have hw2:IntKind.u64.wrap (cB:Int)=cB:=by rw[IntKind.wrap_u64];omega
 have e1:(0:Int)<=m:=by omega
 have e2:(m:Int)<=cap:=by omega
 have e3:(m:Int)<=n:=by omega
 have e4:(n:Int)<=cap:=by omega
 have e5:¬cap=m:=by omega
 have e6:n-m=4:=by omega
 have HMm:=qA hm;clear hcr hv4 h5 hm h65;go_enter Tryz.func22,Tryz.ntmps22
 go_wp2_with fail
 refine eH (fun w' =>Fr [] w w') (by kernel_rfl) (by kernel_rfl) ((Fr.refl [] w).drew) ?_;iterate 1 (refine aJ (by kernel_rfl) (fun KK hK=>?_);go_simp;refine hK.out _ ?_;clear hK KK)
 refine bO (by kernel_rfl) (.int .u32 (cB:Nat)) (fun w' hw' =>?_) ?_
 {
 go_simp;refine(HSum.out w' hw').mono ?_;rintro _ w6 ⟨rfl,rfl⟩;exact⟨rfl,hw'⟩};iterate 6 (refine aJ (by kernel_rfl) (fun KK hK=>?_);go_simp;refine hK.out _ ?_;clear hK KK)
 refine bO (by kernel_rfl) (.int .u64 (v4:Nat)) (fun w' hw' =>?_) ?_
 {
 go_simp;refine(HVal.out w' hw').mono ?_;rintro _ w6 ⟨rfl,rfl⟩;exact⟨rfl,hw'⟩};iterate 1 (refine aJ (by kernel_rfl) (fun KK hK=>?_);go_simp;refine hK.out _ ?_;clear hK KK)
 refine jN ?_;intro w5 hf5;have HF5:=qA hf5;clear hf5 hst HSum HVal d1 d2;by_cases hs:v4=cB
 {
 subst hs;have d3:((v4:Int) != (v4:Int))=false:=by simp
 have HSt:Hid (bX l=_):=qA (HSt.out.trans (qC (fun h=>h rfl)));have hm:=HMm.out;have hv:=fun(i:Nat) (hi:i+8<=n) (w' :World) (hf:Fr [] w w')=>aDC (cap:=cap-i) (n:=8) ((HR.out.1.sub i 8).fr hf) (fS HR.out.2.1 i 8) (fR (by rw[HR.out.2.2.1];exact hi)) (by decide);have hv37:=hv 37 (by omega);have hv45:=hv 45 (by omega);have hv53:=hv 53 (by omega);have b1:=jF HR.out.2.1 37;have b2:=jF HR.out.2.1 45;have b3:=jF HR.out.2.1 53;obtain⟨nv,hnv⟩:∃x,x=aC (sub l 37 8):=⟨_,rfl⟩;obtain⟨av,hav⟩:∃x,x=aC (sub l 45 8):=⟨_,rfl⟩;obtain⟨gv,hgv⟩:∃x,x=aC (sub l 53 8):=⟨_,rfl⟩;obtain⟨e,he⟩:∃x,x=l.drop 61:=⟨_,rfl⟩;rw[<-hnv]at hv37 b1 HSt;rw[<-hav]at hv45 b2 HSt;rw[<-hgv]at hv53 b3 HSt;rw[<-he]at HSt;have HV37:=qA hv37;have HV45:=qA hv45;have HV53:=qA hv53;have HEe:=qA he;obtain⟨X0,hX0⟩:∃X,X=aI (aC (sub l 5 8)):=⟨_,rfl⟩;obtain⟨X1,hX1⟩:∃X,X=aI (aC (sub l 13 8)):=⟨_,rfl⟩;obtain⟨X2,hX2⟩:∃X,X=aI (aC (sub l 21 8)):=⟨_,rfl⟩;obtain⟨X3,hX3⟩:∃X,X=aI (aC (sub l 29 8)):=⟨_,rfl⟩;rw[<-hX0,<-hX1,<-hX2,<-hX3]at HSt;have hX0m:X0<=9223372036854775807:=by rw[hX0];exact(dX _ (jF HR.out.2.1 5)).2
 have hG:=fun(w' :World) (hf:Fr [] w w')=>aLL (cap:=cap-5) (n:=32) ((HR.out.1.sub 5 32).fr hf) (fS HR.out.2.1 5 32) (fR (by rw[HR.out.2.2.1];omega)) (qK 32);rw[rS (by decide),rS (by decide),rS (by decide),rS (by decide)]at hG;rw[<-hX0,<-hX1,<-hX2,<-hX3]at hG;have HG:=qA hG;have HXm:=qA hX0m;have hnz:=dX nv b1;have HB:=qA (zI b1 (zI b2 (zI b3 hnz)));have HWn:=qA (fG b1);generalize aI nv=nz at *;have f1:(37:Int)<=cap:=by omega
 have f2:(45:Int)<=cap:=by omega
 have f3:(53:Int)<=cap:=by omega
 have f4:(61:Int)<=cap:=by omega
 have f5:¬cap=37:=by omega
 have f6:¬cap=45:=by omega
 have f7:¬cap=53:=by omega
 have f8:(61:Int)<=m:=by omega
 have f9:¬cap=61:=by omega
 have f10:(37:Int)<=cap:=by omega
 have f11:¬cap=5:=by omega
 clear hv hv37 hv45 hv53 hnv hav hgv he hX0 hX1 hX2 hX3 hX0m hG hnz b1 b2 b3 hm;go_wp2_with fail
 refine eH (fun w' =>Fr [] w w') (by kernel_rfl) (by kernel_rfl) (HF5.out.drew) ?_;iterate 2 (refine aJ (by kernel_rfl) (fun KK hK=>?_);go_simp;refine hK.out _ ?_;clear hK KK)
 refine bO (by kernel_rfl) (.int .u64 (nv:Nat)) (fun w' hw' =>?_) ?_
 {
 go_simp;refine(HV37.out w' hw').mono ?_;rintro _ w6 ⟨rfl,rfl⟩;exact⟨rfl,hw'⟩};iterate 2 (refine aJ (by kernel_rfl) (fun KK hK=>?_);go_simp;refine hK.out _ ?_;clear hK KK)
 refine bO (by kernel_rfl) (.int .u64 (av:Nat)) (fun w' hw' =>?_) ?_
 {
 go_simp;refine(HV45.out w' hw').mono ?_;rintro _ w6 ⟨rfl,rfl⟩;exact⟨rfl,hw'⟩};iterate 2 (refine aJ (by kernel_rfl) (fun KK hK=>?_);go_simp;refine hK.out _ ?_;clear hK KK)
 refine bO (by kernel_rfl) (.int .u64 (gv:Nat)) (fun w' hw' =>?_) ?_
 {
 go_simp;refine(HV53.out w' hw').mono ?_;rintro _ w6 ⟨rfl,rfl⟩;exact⟨rfl,hw'⟩};iterate 3 (refine aJ (by kernel_rfl) (fun KK hK=>?_);go_simp;refine hK.out _ ?_;clear hK KK)
 refine jN ?_;intro w6 hf6;have HF6:=qA hf6;clear hf6 HF5 HV37 HV45 HV53 d3;go_upto_region 8 with fail
 obtain⟨ne,hne⟩:∃x,x=m-61:=⟨_,rfl⟩;obtain⟨ce,hce⟩:∃x,x=cap-61:=⟨_,rfl⟩;obtain⟨oe,hoe⟩:∃x,x=off+61:=⟨_,rfl⟩;rw[<-hne,<-hce,<-hoe];rw[<-hne]at HSt;have hm:=HMm.out;have HNe:=qA (zI hne (zI hce (zI hoe (zI hm (zI hc hm61)))));have hneb:ne<=100000:=by omega
 have hnce:ne<ce:=by omega
 clear hne hce hoe hw1 hw2 e1 e2 e3 e4 e5 e6 f1 f2 f3 f4 f5 f6 f7 f8 f9 hm hl;by_cases hag:av<gv
 {
 have d1:decide ((av:Int)<gv)=true:=qG (by omega);have d2:decide (av<gv)=true:=qG hag;have HSt:Hid (bX l=_):=qA (HSt.out.trans (qD (.inl hag)));clear hag;go_wp2_with fail
 go_ret2;rw[HSt.out];exact⟨rfl,HW.out.fr0 HF6.out⟩}
 {
 have d1:decide ((av:Int)<gv)=false:=qF (by omega);have d2:decide (av<gv)=false:=qF hag;by_cases hmod:ne%32=0
 {
 have q1:(ne:Int).tmod 32=0:=by rw[Int.tmod_eq_emod_of_nonneg (by omega)];omega
 have q1' :(ne:Int)%32=0:=by omega
 have q2:(ne:Int).tdiv 32=((ne/32:Nat):Int):=by rw[Int.tdiv_eq_ediv_of_nonneg (by omega)];omega
 have q2' :(ne:Int)/32=((ne/32:Nat):Int):=by omega
 obtain⟨kq,hkq⟩:∃x,x=ne/32:=⟨_,rfl⟩;have hkq32:ne=32*kq:=by omega
 rw[<-hkq]at q2 q2' HSt;have hsubb:=HB.out.2.1;have Q3:=qA (show IntKind.u64.wrap (kq:Int)=kq from by rw[IntKind.wrap_u64];omega);have Q4:=qA (show IntKind.u64.wrap ((av:Int)-gv)=((av-gv:Nat):Int) from by rw[IntKind.wrap_u64];omega);have Q5:=qA (show IntKind.i64.wrap (kq:Int)=kq from zG _ (by omega));obtain⟨dq,hdq⟩:∃x,x=av-gv:=⟨_,rfl⟩;rw[<-hdq]at Q4 HSt;have HQ:=qA (zI hkq32 hmod);clear hkq hsubb hdq hkq32 hmod hag;by_cases hq:kq=dq
 {
 subst hq;have HSt:Hid (bX l=_):=qA (HSt.out.trans (qC (fun h=>by
   rcases h with h|h|h
   · exact of_decide_eq_false d2 h
   · exact h HQ.out.2
   · exact h rfl)))
 have d4:((kq:Int) != (kq:Int))=false:=by simp
 have q3:=Q3.out;have q4:=Q4.out;have q5:=Q5.out;go_wp2_with fail
 clear q1 q1' q2 q2' q3 q4 q5 Q3 Q4 Q5 d1 d2 d4;refine(HG.out w6 HF6.out).mono ?_;rintro _ w7 ⟨rfl,hF⟩;have HF7:=qA (HF6.out.trans' hF);clear hF HF6 HG;cases hcf:eZ X0 X1 X2 X3 with
 | false=>{
 rw[aLK hcf];rw[xZ (.inr (.inl hcf))]at HSt;clear hcf;go_wp2_with fail
 go_ret2;rw[HSt.out];exact⟨rfl,HW.out.fr0 (HF7.out.alloc _)⟩}
 | true=>{
 rw[aLJ hcf];clear hcf;have hbx:=Blk.new w7 [.int .i64 X0,.int .i64 X1,.int .i64 X2,.int .i64 X3] 31;have hw8:Wd w (w7.alloc (.cells #[.int .i64 X0,.int .i64 X1,.int .i64 X2,.int .i64 X3] 31)) [thB w7.heap.size 31 [.int .i64 X0,.int .i64 X1,.int .i64 X2,.int .i64 X3]]:=
   (Wd.base HF7.out).new (K:=[w7.heap.size]) ((Fr.refl [] w7).alloc _) ⟨hbx,rfl⟩ (by simp)
 have HP0:=qA (show Wd w (w7.alloc (.cells #[.int .i64 X0,.int .i64 X1,.int .i64 X2,.int .i64 X3] 31)) (thR (.slice none 0 0) (bK 0 e)::[thB w7.heap.size 31 [.int .i64 X0,.int .i64 X1,.int .i64 X2,.int .i64 X3]]) from
   hw8.new (K:=[]) (Fr.refl _ _) ⟨lH.nil _,rfl⟩ (by simp))
 clear hbx hw8;go_wp2_with fail
 generalize w7.heap.size=bx at *;go_loopw [12,13] (fun c1 c2 wr=>∃k:Nat,k<=kq/\Hid (Wd w wr (thR c1 (bK k e)::[thB bx 31 [.int .i64 X0,.int .i64 X1,.int .i64 X2,.int .i64 X3]]))/\c2=.int .i64 ((32*k:Nat):Int)) (fun _ c _=>ne-(intOf c).toNat)
 case atStart=>exact⟨0,by omega,HP0,rfl⟩
 case round=>
  clear HP0;obtain⟨k,hk,HWr,rfl⟩:=hrel;rename_i bv wr;obtain⟨kk,hkk⟩:∃x,x=32*k:=⟨_,rfl⟩;by_cases hlt:k<kq
  {
  have hkn:kk+32<=ne:=by have:=HQ.out.1;omega
  have hre:=lI k e;rw[<-hkk,aHK]at hre;rw[<-hkk];have HKk:=qA hkk;have hFw:=HWr.out.frm;have hed:RdB w (some ⟨b,oe,none⟩) e:=by rw[HNe.out.2.2.1,HEe.out];exact HR.out.1.drop 61
  have heb:Byt e:=by rw[HEe.out];exact HR.out.2.1.drop 61
  have hel:ne+4<=e.length:=by rw[HEe.out,List.length_drop,HR.out.2.2.1];have:=HNe.out;omega
  have hval:=fun(i:Nat) (hi:i+8<=ne) (w' :World) (hf:Fr [] w w')=>aDC (cap:=ce-i) (n:=8) ((hed.sub i 8).fr hf) (fS heb i 8) (fR (by omega)) (by decide);have v0:=hval kk (by omega);have v1:=hval (kk+8) (by omega);have v2:=hval (kk+16) (by omega);have v3:=hval (kk+24) (by omega);have c2:=fG (jF heb (kk+16));have c3:=fG (jF heb (kk+24));generalize aC (sub e kk 8)=y0 at *;generalize aC (sub e (kk+8) 8)=y1 at *;generalize aC (sub e (kk+16) 8)=y2 at *;generalize aC (sub e (kk+24) 8)=y3 at *;have HV0:=qA v0;have HV1:=qA v1;have HV2:=qA v2;have HV3:=qA v3;have HRe:=qA hre;have hkl:(bK k e).length<=65536:=by rw[dO];omega
  have HKl:=qA hkl;obtain⟨k8,hk8⟩:∃x,x=kk+8:=⟨_,rfl⟩;obtain⟨k16,hk16⟩:∃x,x=kk+16:=⟨_,rfl⟩;obtain⟨k24,hk24⟩:∃x,x=kk+24:=⟨_,rfl⟩;obtain⟨k32,hk32⟩:∃x,x=kk+32:=⟨_,rfl⟩;rw[<-hk8]at HV1;rw[<-hk16]at HV2;rw[<-hk24]at HV3;have t0:(kk:Int)<ne:=by omega
  have p0:(0:Int)<=kk:=by omega
  have p1:(kk:Int)<=(k8:Int):=by omega
  have p2:(k8:Int)<=(k16:Int):=by omega
  have p3:(k16:Int)<=(k24:Int):=by omega
  have p4:(k24:Int)<=(k32:Int):=by omega
  have p5:(k8:Int)<=ce:=by omega
  have p6:(k16:Int)<=ce:=by omega
  have p7:(k24:Int)<=ce:=by omega
  have p8:(k32:Int)<=ce:=by omega
  have p9:¬ce=kk:=by omega
  have p10:¬ce=k8:=by omega
  have p11:¬ce=k16:=by omega
  have p12:¬ce=k24:=by omega
  have p13:(0:Int)<=k8:=by omega
  have p14:(0:Int)<=k16:=by omega
  have p15:(0:Int)<=k24:=by omega
  have s0:k8-kk=8:=by omega
  have s1:k16-k8=8:=by omega
  have s2:k24-k16=8:=by omega
  have s3:k32-k24=8:=by omega
  have W1:=qA (show IntKind.i64.wrap ((kk:Int)+8)=(k8:Int) from by rw[show(kk:Int)+8=(k8:Int) by omega];exact zG _ (by omega));have W2:=qA (show IntKind.i64.wrap ((kk:Int)+16)=(k16:Int) from by rw[show(kk:Int)+16=(k16:Int) by omega];exact zG _ (by omega));have W3:=qA (show IntKind.i64.wrap ((kk:Int)+24)=(k24:Int) from by rw[show(kk:Int)+24=(k24:Int) by omega];exact zG _ (by omega));have W4:=qA (show IntKind.i64.wrap ((kk:Int)+32)=(k32:Int) from by rw[show(kk:Int)+32=(k32:Int) by omega];exact zG _ (by omega));have HK32:=qA (show k32=32*(k+1)/\k32<=ne/\k+1<=kq from by omega);clear v0 v1 v2 v3 hval hre hkl hed heb hel hFw hk8 hk16 hk24 hk32 hkn hkk hlt;generalize aI y2=z2 at *;generalize aI y3=z3 at *;have w1:=W1.out;have w2:=W2.out;have w3:=W3.out;have w4:=W4.out;go_wp2_with fail
  have hX:=HWr.out.fr0 (((Fr.refl [] wr).drew).alloc (.cells #[.int .u64 (y0:Nat),.int .u64 (y1:Nat),.int .i64 z2,.int .i64 z3] 72));have hBk:Blk (wr.drew.alloc (.cells #[.int .u64 (y0:Nat),.int .u64 (y1:Nat),.int .i64 z2,.int .i64 z3] 72)) wr.heap.size 72 (rC (y0,y1,z2,z3)):=Blk.new wr.drew (rC (y0,y1,z2,z3)) 72;obtain⟨v9,w9,hrun,hW9⟩:=aML (P:=Tryz.prog) hX 98 98 rz Tryz.underlying98 Tryz.inforr rfl hBk HKl.out;rw[<-HRe.out]at hW9;obtain⟨wB,hwB⟩:∃x,x=wr.drew.alloc (.cells #[.int .u64 (y0:Nat),.int .u64 (y1:Nat),.int .i64 z2,.int .i64 z3] 72):=⟨_,rfl⟩;rw[<-hwB]at hrun;obtain⟨CX,hCX⟩:∃CX:Nat->World->Prop,CX=fun q w' =>match q with|0=>w' =wr.drew|1=>w' =wB|_=>w' =w9:=⟨_,rfl⟩;have HFr:=qA (show ∀q w', CX q w' -> Fr [] w w' from fun q w' h=>by
    rw[hCX]at h;match q,h with
    | 0,h=>rw[show w' =wr.drew from h];exact HWr.out.frm.drew
    | 1,h=>rw[show w' =wB from h,hwB];exact hX.frm
    | n+2,h=>rw[show w' =w9 from h];exact hW9.frm)
  have HB0:=qA (show ∀w', CX 0 w' -> w' =wr.drew from fun w' h=>by rw[hCX]at h;exact h);have HB1:=qA (show ∀w', CX 1 w' -> w' =wB from fun w' h=>by rw[hCX]at h;exact h);have HB2:=qA (show ∀w', CX 2 w' -> w' =w9 from fun w' h=>by rw[hCX]at h;exact h);have HC0:=qA (show CX 0 wr.drew by rw[hCX];exact rfl);have HC1:=qA (show CX 1 (wr.drew.alloc (.cells #[.int .u64 (y0:Nat),.int .u64 (y1:Nat),.int .i64 z2,.int .i64 z3] 72)) by rw[hCX];exact hwB.symm);have HC2:=qA (show CX 2 w9 by rw[hCX];exact rfl);have HW9:=qA hW9;have HRun:=qA hrun;clear hX hBk hW9 hCX hwB HWr hrun;refine wG [31,32] CX (by kernel_rfl) (by kernel_rfl) (by kernel_rfl) HC0.out ?_;iterate 6 (refine gH (by decide) (by kernel_rfl) (fun KK hK=>?_);go_simp;refine hK.out _ ?_;clear hK KK)
  refine kA (by decide) (by kernel_rfl) (.int .u64 (y0:Nat)) (fun q w' hw' =>?_) ?_
  {
  go_simp;refine(HV0.out w' (HFr.out q w' hw')).mono ?_;rintro _ w6 ⟨rfl,rfl⟩;exact⟨rfl,hw'⟩};iterate 6 (refine gH (by decide) (by kernel_rfl) (fun KK hK=>?_);go_simp;refine hK.out _ ?_;clear hK KK)
  refine kA (by decide) (by kernel_rfl) (.int .u64 (y1:Nat)) (fun q w' hw' =>?_) ?_
  {
  go_simp;refine(HV1.out w' (HFr.out q w' hw')).mono ?_;rintro _ w6 ⟨rfl,rfl⟩;exact⟨rfl,hw'⟩};iterate 6 (refine gH (by decide) (by kernel_rfl) (fun KK hK=>?_);go_simp;refine hK.out _ ?_;clear hK KK)
  refine kA (by decide) (by kernel_rfl) (.int .u64 (y2:Nat)) (fun q w' hw' =>?_) ?_
  {
  go_simp;refine(HV2.out w' (HFr.out q w' hw')).mono ?_;rintro _ w6 ⟨rfl,rfl⟩;exact⟨rfl,hw'⟩};iterate 7 (refine gH (by decide) (by kernel_rfl) (fun KK hK=>?_);go_simp;refine hK.out _ ?_;clear hK KK)
  refine kA (by decide) (by kernel_rfl) (.int .u64 (y3:Nat)) (fun q w' hw' =>?_) ?_
  {
  go_simp;refine(HV3.out w' (HFr.out q w' hw')).mono ?_;rintro _ w6 ⟨rfl,rfl⟩;exact⟨rfl,hw'⟩};iterate 2 (refine gH (by decide) (by kernel_rfl) (fun KK hK=>?_);go_simp;refine hK.out _ ?_;clear hK KK)
  refine yB 0 (by decide) (by kernel_rfl) (.slice (some ⟨wr.heap.size,0,none⟩) 1 1) (fun w' hw' =>?_) ?_
  {
  rw[HB0.out w' hw'];unfold cR;go_simp;exact HC1.out};refine yB 1 (by decide) (by kernel_rfl) v9 (fun w' hw' =>?_) ?_
  {
  rw[HB1.out w' hw'];exact aSU (.tmp 84) (.tmp 115) 98 rfl rfl rfl HRun.out HC2.out};iterate 1 (refine gH (by decide) (by kernel_rfl) (fun KK hK=>?_);go_simp;refine hK.out _ ?_;clear hK KK)
  refine aMA ?_;intro w10 hC;rw[HB2.out w10 hC];clear hC HFr HB0 HB1 HB2 HC0 HC1 HC2 HRun HV0 HV1 HV2 HV3;go_wp2_with fail
  clear HRe HKl w1 w2 w3 w4 c2 c3;go_roundw
  case rel=>exact⟨k+1,HK32.out.2.2,HW9,by rw[HK32.out.1]⟩
  case measure=>simp[intOf];have:=HK32.out;have:=HKk.out;omega}
  {
  obtain rfl:k=kq:=by omega
  have hkn:kk=ne:=by have:=HQ.out.1;omega
  rw[<-hkk];have t0:¬(kk:Int)<ne:=by omega
  have heb:Byt e:=by rw[HEe.out];exact HR.out.2.1.drop 61
  obtain⟨ra,rc,rfl⟩:=HWr.out.rowR.slice;have hX:=HWr.out;rw[dO]at hX ⊢;have hbk:=hX.swap.blk;have r0:=hbk.cell 0;have r1:=hbk.cell 1;have r2:=hbk.cell 2;have r3:=hbk.cell 3;simp only[zJ,zK]at r0 r1 r2 r3;have hrs:=aMK hX (dO _ _) X0 X1 X2 X3 nz gv HB.out.2.2.1 HB.out.2.2.2.2 HXm.out (by have:=HQ.out.1;omega) (wJ heb);obtain⟨R,hRR⟩:∃R,R=eU X0 X1 X2 X3 nz gv (bK k e):=⟨_,rfl⟩;rw[<-hRR]at hrs HSt;have HRs:=qA hrs;have wn:=HWn.out;clear hbk hrs hX heb hkn hkk hRR HWr hlt;go_wp2_with fail
  refine HRs.out.mono ?_;intro ee w9 hD;clear HRs r0 r1 r2 r3 wn;cases R with
  | none=>{
  obtain⟨rfl,hW9⟩:=hD;have HW9:=qA hW9;clear hW9;go_wp2_with fail
  go_ret2;rw[HSt.out];exact⟨rfl,HW.out.fr0 HW9.out.frm⟩}
  | some o2=>{
  obtain⟨p2,rfl,hW9⟩:=hD;have HW9:=qA hW9;clear hW9;go_wp2_with fail
  go_ret2;rw[HSt.out];exact⟨p2,rfl,HW.out.graft HW9.out.drop2⟩}}}}
 {
 have HSt:Hid (bX l=_):=qA (HSt.out.trans (qD (.inr (.inr hq))));have d4:((kq:Int) != (dq:Int))=true:=by simp;omega
 have q3:=Q3.out;have q4:=Q4.out;have q5:=Q5.out;clear hq;go_wp2_with fail
 go_ret2;rw[HSt.out];exact⟨rfl,HW.out.fr0 HF6.out⟩}}
 {
 have q1:(ne:Int).tmod 32=((ne%32:Nat):Int):=by rw[Int.tmod_eq_emod_of_nonneg (by omega)];omega
 have q1' :(ne:Int)%32=((ne%32:Nat):Int):=by omega
 have HSu:Hid (bX l=_):=qA (HSt.out.trans (qD (.inr (.inl hmod))));clear HSt;generalize ne%32=r at *;have d4:((r:Int) != 0)=true:=by simp;omega
 clear hmod hag;go_wp2_with fail
 go_ret2;rw[HSu.out];exact⟨rfl,HW.out.fr0 HF6.out⟩}}}
 {
 have d3:((cB:Int) != (v4:Int))=true:=by simp;omega
 have HSt:Hid (bX l=_):=qA (HSt.out.trans (qD hs));clear hs;go_wp2_with fail
 go_ret2;rw[HSt.out];exact⟨rfl,HW.out.fr0 HF5.out⟩}}
 {
 have hne:¬uN (l.take 5)={ data:=#[83,69,69,80,1] }:=by {
 rw[show({ data:=#[83,69,69,80,1] }:ByteArray)=uN jU from by decide +kernel];intro e;exact h5 ((aLG (hb.take 5) aAM).1 e)};rw[lK h5];have HW:=qA h;generalize uN (l.take 5)=s5 at *;have hnb:(s5.toList == [83,69,69,80,1])=false:=by {
 rw[qR,ByteArray.toList_eq];intro e;cases s5 with
 | mk d=>{
 have:d=#[83,69,69,80,1]:=by rw[<-Array.toList_inj];exact e
 exact hne (by rw[this])}};clear h hr hb hn hl hc h65 h5 hne;go_enter Tryz.func22,Tryz.ntmps22
 go_wp2_with fail
 go_ret2;exact⟨rfl,HW.out⟩}}
theorem tU{w:World}{a1 a2:Option Addr}{l1 l2:List Nat}{n1 n2 c1 c2:Nat}(h1:RdB w a1 l1)(h2:RdB w a2 l2)(e1:l1.length=n1)(e2:l2.length=n2)(hb:n1<=1073741824)(hc1:n1<=c1)(hc2:n2<=c2):
    Calls Tryz.prog 24 #[.slice a1 n1 c1,.slice a2 n2 c2] w fun e w' =>e=.returned (.bool (decide (l1=l2)))/\Fr [] w w' :=by
 by_cases hl:n1=n2
 {
 subst hl;have HR:=qA (zI h1 (zI h2 (zI e1 e2)));clear h1 h2 e1 e2 hc1 hc2;go_enter Tryz.func24,Tryz.ntmps24
 go_wp2_with fail
 go_loopw [5] (fun x wr=>∃i:Nat,i<=n1/\x=.int .i64 i/\(∃k,wr=w.drewN k)/\Hid (l1.take i=l2.take i)) (fun x _=>n1-(intOf x).toNat)
 case atStart=>exact⟨0,qS _,rfl,⟨0,rfl⟩,qA rfl⟩
 case round=>
  obtain⟨i,hi,rfl,⟨k,rfl⟩,HA⟩:=hrel;by_cases hlt:i<n1
  {
  have i1:i<l1.length:=by rw[HR.out.2.2.1];exact hlt
  have i2:i<l2.length:=by rw[HR.out.2.2.2];exact hlt
  obtain⟨b1,o1,rfl,_,r1⟩:=HR.out.1 i i1;obtain⟨b2,o2,rfl,_,r2⟩:=HR.out.2.1 i i2;have hi1:(i:Int)<n1:=by omega
  have hi0:(0:Int)<=i:=by omega
  have hwi:IntKind.i64.wrap ((i:Int)+1)=((i+1:Nat):Int):=by rw[show(i:Int)+1=((i+1:Nat):Int) by omega];exact zG _ (by omega)
  have t1:l1.take (i+1)=l1.take i++[l1[i]'i1]:=by rw[List.take_add_one,qL i1];rfl
  have t2:l2.take (i+1)=l2.take i++[l2[i]'i2]:=by rw[List.take_add_one,qL i2];rfl
  have hstop:¬l1[i]'i1=l2[i]'i2->¬l1=l2:=by rintro h rfl;exact h rfl
  generalize l1[i]'i1=x at *;generalize l2[i]'i2=y at *;have HT:=qA (zI t1 (zI t2 hstop));clear t1 t2 hstop;by_cases hxy:x=y
  {
  have d1:((x:Int) != (y:Int))=false:=by simp;omega
  have HN:=qA (show l1.take (i+1)=l2.take (i+1) by rw[HT.out.1,HT.out.2.1,HA.out,hxy]);clear hxy HA HT;go_wp2_with fail
  go_quiet (fail)
  go_wp2_with fail
  go_roundw
  case rel=>exact⟨i+1,by omega,by go_num,⟨_,rfl⟩,HN⟩
  case measure=>simp[intOf];omega}
  {
  have d1:((x:Int) != (y:Int))=true:=by simp;omega
  have HN:=qA (HT.out.2.2 hxy);clear hxy HA HT;go_wp2_with fail
  go_quiet (fail)
  go_wp2_with fail
  go_ret;rw[qF HN.out];exact⟨rfl,((Fr.refl [] w).drewN _).drewN _⟩}}
  {
  obtain rfl:i=n1:=by omega
  have HN:=qA (show l1=l2 from by
    have h:=HA.out;rw[List.take_of_length_le (by rw[HR.out.2.2.1];exact qK _),List.take_of_length_le (by rw[HR.out.2.2.2];exact qK _)]at h;exact h)
  go_wp2
  go_ret;rw[qG HN.out];exact⟨rfl,(Fr.refl [] w).drewN _⟩}}
 {
 have hb:((n1:Int) != (n2:Int))=true:=by simp;omega
 have HN:=qA (show ¬l1=l2 from by rintro rfl;exact hl (e1.symm.trans e2));clear h1 h2 e1 e2 hl;go_enter Tryz.func24,Tryz.ntmps24
 go_wp2
 go_ret;rw[qF HN.out];exact⟨rfl,Fr.refl _ _⟩}
theorem aMM(x y:Lv):cQ x=cQ y↔x.seq=y.seq/\(x.u=y.u/\x.v=y.v/\x.wt=y.wt/\x.t=y.t)/\x.x=y.x:=by
 unfold cQ;simp only[Lv.mk.injEq,true_and];constructor
 · rintro⟨h1,h2,h3,h4,h5,h6⟩;exact⟨h1,⟨h2,h3,h4,h5⟩,h6⟩
 · rintro⟨h1,⟨h2,h3,h4,h5⟩,h6⟩;exact⟨h1,h2,h3,h4,h5,h6⟩
theorem aMN(u v u' v' :Nat)(wt t wt' t' :Int):aLP u v u' v' wt t wt' t' =true↔u=u' /\ v=v' /\ wt=wt' /\ t=t' :=by
 unfold aLP;simp[and_assoc]
theorem yD{p q:List Lv}(hl:p.length=q.length):p.map cQ=q.map cQ↔∀i (h1:i<p.length) (h2:i<q.length),cQ p[i]=cQ q[i]:=by
 constructor
 {
 intro h i h1 h2;have e:(p.map cQ)[i]? =(q.map cQ)[i]? :=by rw[h]
 rw[List.getElem?_map,List.getElem?_map,qL h1,qL h2]at e;exact Option.some.inj e}
 {
 intro h;refine List.ext_getElem (by simp[hl]) fun i h1 h2=>?_;rw[List.getElem_map,List.getElem_map];exact h i (by simpa using h1) (by simpa using h2)}
theorem aMO{w:World}{v u:Value}{p q:List Lv}(hv:bN w v p)(hu:bN w u q)(hp:p.length<=65536)(hq:q.length<=65536):
    Calls Tryz.prog 33 #[v,u] w fun e w' =>∃r:Bool,e=.returned (.bool r)/\(r=true↔p.map cQ=q.map cQ)/\Fr [] w w' :=by
 obtain⟨a1,c1,rfl⟩:=hv.slice;obtain⟨a2,c2,rfl⟩:=hu.slice;have HV:=qA hv;clear hv;have HU:=qA hu;clear hu;by_cases hl:p.length=q.length
 {
 have hb:((p.length:Int) != (q.length:Int))=false:=by simp;omega
 have HI:=qA (yD hl);go_enter Tryz.func33,Tryz.ntmps33
 go_wp2_with fail
 go_loopw [5] (fun x wr=>∃i:Nat,i<=p.length/\x=.int .i64 i/\(∃k,wr=w.drewN k)/\Hid (∀j (h1:j<p.length) (h2:j<q.length),j<i->cQ p[j]=cQ q[j])) (fun x _=>p.length-(intOf x).toNat)
 case atStart=>exact⟨0,qS _,rfl,⟨0,rfl⟩,qA (fun j _ _ h=>absurd h (Nat.not_lt_zero _))⟩
 case round=>
  obtain⟨i,hi,rfl,⟨k,rfl⟩,HA⟩:=hrel;by_cases hlt:i<p.length
  {
  have hltq:i<q.length:=by omega
  obtain⟨b1,c1', e1,_,_,_,r1⟩:=HV.out.at hlt;obtain⟨b2,c2', e2,_,_,_,r2⟩:=HU.out.at hltq;simp only[qP,true_and]at e1 e2;obtain⟨rfl,rfl⟩:=e1;obtain⟨rfl,rfl⟩:=e2;have hi1:(i:Int)<p.length:=by omega
  have hi2:(i:Int)<q.length:=by omega
  have hi0:(0:Int)<=i:=by omega
  have hwi:IntKind.i64.wrap ((i:Int)+1)=((i+1:Nat):Int):=by rw[show(i:Int)+1=((i+1:Nat):Int) by omega];exact zG _ (by omega)
  have HX:=qA (show ∃x y:Lv,x=p[i]'hlt/\y=q[i]'hltq from⟨_,_,rfl,rfl⟩);have hnext:cQ (p[i]'hlt)=cQ (q[i]'hltq)->∀j (h1:j<p.length) (h2:j<q.length),j<i+1->cQ p[j]=cQ q[j]:=fun h j h1 h2 hj=>by
    by_cases hji:j<i
    · exact HA.out j h1 h2 hji
    · obtain rfl : j = i := by omega
      exact h
  have hstop:¬cQ (p[i]'hlt)=cQ (q[i]'hltq)->¬p.map cQ=q.map cQ:=fun h e=>h (HI.out.1 e i hlt hltq);unfold aHV at r1 r2;generalize p[i]'hlt=x at *;generalize q[i]'hltq=y at *;obtain⟨x0,x1,x2,x3,x4,x5,x6⟩:=r1;obtain⟨y0,y1,y2,y3,y4,y5,y6⟩:=r2;have HNx:=qA (zI hnext hstop);clear hnext hstop x0 y0;have hci:=aMM x y;by_cases h1:x.seq=y.seq
  {
  have d1:((x.seq:Int) != (y.seq:Int))=false:=by simp;omega
  have hr:=aMN x.u x.v y.u y.v x.wt x.t y.wt y.t;cases h2:aLP x.u x.v y.u y.v x.wt x.t y.wt y.t with
  | true=>{
  by_cases h3:x.x=y.x
  {
  have d3:(x.x != y.x)=false:=by simp[h3]
  have HEq:=qA (hci.2 ⟨h1,hr.1 h2,h3⟩);have H3:=qA h3;have H1:=qA h1;clear hci hr h1 h3;go_wp2_with fail
  go_quiet (fail)
  go_wp2_with fail
  go_roundw
  case rel=>exact⟨i+1,by omega,by go_num,⟨_,rfl⟩,qA (HNx.out.1 HEq.out)⟩
  case measure=>simp[intOf];omega}
  {
  have d3:(x.x != y.x)=true:=by simp[h3]
  have HEq:=qA (show ¬cQ x=cQ y from fun h=>h3 (hci.1 h).2.2);clear hci hr h3 h1;go_wp2_with fail
  go_quiet (fail)
  go_wp2_with fail
  go_ret;exact⟨_,rfl,by simpa using HNx.out.2 HEq.out,(Fr.of_drewN37 _ _).drewN _⟩}}
  | false=>{
  have HEq:=qA (show ¬cQ x=cQ y from fun h=>by have:=hr.2 (hci.1 h).2.1;rw[h2]at this;cases this);clear hci hr h1;go_wp2_with fail
  go_quiet (fail)
  go_wp2_with fail
  go_ret;exact⟨_,rfl,by simpa using HNx.out.2 HEq.out,(Fr.of_drewN37 _ _).drewN _⟩}}
  {
  have d1:((x.seq:Int) != (y.seq:Int))=true:=by simp;omega
  have HEq:=qA (show ¬cQ x=cQ y from fun h=>h1 (hci.1 h).1);clear hci h1;go_wp2_with fail
  go_quiet (fail)
  go_wp2_with fail
  go_ret;exact⟨_,rfl,by simpa using HNx.out.2 HEq.out,(Fr.of_drewN37 _ _).drewN _⟩}}
  {
  obtain rfl:i=p.length:=by omega
  have HT:=qA (HI.out.2 fun j h1 h2=>HA.out j h1 h2 h1);go_wp2
  go_ret;exact⟨_,rfl,by simpa using HT.out,Fr.of_drewN37 _ _⟩}}
 {
 have hb:((p.length:Int) != (q.length:Int))=true:=by simp;omega
 have HN:=qA (show ¬p.map cQ=q.map cQ from fun h=>hl (by have:=congrArg List.length h;simpa using this));go_enter Tryz.func33,Tryz.ntmps33
 go_wp2
 go_ret;exact⟨_,rfl,by simpa using HN.out,Fr.refl _ _⟩}
section
variable {W w:World} {ts:List Th}
theorem Hs.under43{n:Nat}{t:Th}{us:List Th}{K:List Nat}(h:Hs n w (t::ts) K)(hu:∀K,Hs n w ts K->∃K', Hs n w us K' /\ ∀q∈K', q∈K):∃K', Hs n w (t::us) K' /\ ∀q∈K', q∈K:=by
 obtain⟨K1,K2,h2,h3,h4,h5,rfl⟩:=h;obtain⟨K', k1,k2⟩:=hu K2 h4;exact⟨K1++K', ⟨K1,K', h2,h3,k1,fun q hq hm=>h5 q hq (k2 q hm),rfl⟩,fun q hq=>(qE.1 hq).elim (fun e=>qE.2 (.inl e)) (fun e=>qE.2 (.inr (k2 q e)))⟩
theorem Wd.fourth43{a b c d:Th}(h:Wd W w (a::b::c::d::ts)):Wd W w (d::a::b::c::ts):=
  (h.under fun _ hk=>by
 obtain⟨K1,k1,k2⟩:=Hs.under43 hk (fun _ hj=>Hs.swap hj);obtain⟨K2,k3,k4⟩:=Hs.swap k1;exact⟨K2,k3,fun q hq=>k2 q (k4 q hq)⟩).swap
end
theorem aHL(w:World)(a b c d:Nat){u1 u2 u3 u4:Int}(h1:u1=a)(h2:u2=b)(h3:u3=c)(h4:u4=d):RdB (w.alloc (.cells #[.int .u8 u1,.int .u8 u2,.int .u8 u3,.int .u8 u4] 5)) (some ⟨w.heap.size,0,none⟩) [a,b,c,d]:=fun i hi=>by
 subst h1 h2 h3 h4;refine⟨w.heap.size,0,rfl,by simp,?_⟩;have hb:=Blk.new w [.int .u8 (a:Int),.int .u8 (b:Int),.int .u8 (c:Int),.int .u8 (d:Int)] 5;have h0:=hb.cell 0;have h1:=hb.cell 1;have h2:=hb.cell 2;have h3:=hb.cell 3;simp only[zJ,zK]at h0 h1 h2 h3;rw[Nat.zero_add];have:i=0∨i=1∨i=2∨i=3:=by simp at hi;omega
 rcases this with rfl|rfl|rfl|rfl<;>assumption
theorem be4y(x:Nat):beN 4 x=[x/16777216%256,x/65536%256,x/256%256,x%256]:=by
 show [x/256 ^ 3%256,x/256 ^ 2%256,x/256 ^ 1%256,x/256 ^ 0%256]=_
 simp
theorem aDM{l:List Nat}{c:Int}(h:bX l=(c,none)):¬c=0:=by
 unfold bX at h;split at h
 · simp at h;omega
 {
 split at h
 · simp at h;omega
 {
 simp only at h;split at h
 · simp at h;omega
 {
 split at h<;>simp at h
 omega}}}
theorem aDN{l:List Nat}{c:Int}{o:Ob}(h:bX l=(c,some o)):c=0:=by
 unfold bX at h;split at h
 · simp at h
 {
 split at h
 · simp at h
 {
 simp only at h;split at h
 · simp at h
 {
 split at h<;>simp at h
 exact h.1.symm}}}
theorem cX.capB{w:World}{a:Option Addr}{n c:Nat}{l:List Nat}(h:cX w (.slice a n c) l):(a=none->c=0)/\n<=c:=by
 obtain⟨_,h2⟩:=h;rcases h2 with⟨e,_⟩|⟨g,cap,cur,e,_,_,hn,_⟩
 {
 simp only[qP]at e;obtain⟨rfl,rfl,rfl⟩:=e;exact⟨fun _=>rfl,qK _⟩}
 {
 simp only[qP]at e;obtain⟨rfl,rfl,rfl⟩:=e;exact⟨fun h=>(by cases h),hn⟩}
theorem aHM{o:Ob}(h:o.Ok):o.L.map cQ=o.L:=by
 refine(List.map_congr_left fun e he=>?_).trans (List.map_id _);have:=h.sl e he;show { e with slot:=0 }=e
 rw[<-this]
theorem walk_imageLoads(W:World)(a:Option Addr)(len cap:Nat)(zs:List Int)(hr:yE .u8 W a len cap zs)(sm:Bool)(hL:iC W):
    Calls Tryz.prog 6 #[.slice a len cap,.bool sm] W fun e W' =>e=.returned (.bool true)/\Below W.heap.size W W' :=by
 obtain⟨hl,hcap⟩:=vW hr;have hrd:=aLF hr;have hb:=vX hr;have hnil:a=none->cap=0:=by {
 rcases hr with⟨_,_,h2,_⟩|⟨x,rfl,_⟩
 · exact fun _=>h2
 · exact fun h=>by cases h};generalize iJ len zs=ns at *;have HL:=qA hL;clear hr;by_cases hbig:3000<len
 {
 have HW:=qA (pO (Wd.begin W) hL);have d1:decide ((len:Int)>3000)=true:=qG (by omega);have d2:decide (3000<len)=true:=qG hbig;clear hl hcap hrd hb hL hnil;go_enter Tryz.func6,Tryz.ntmps6
 go_wp2_with fail
 refine HW.out.mono ?_;rintro _ w1 ⟨rfl,hW⟩;have hB:=hW.below;clear HW hW;go_wp2
 go_ret;exact⟨rfl,hB⟩}
 {
 have d1:decide ((len:Int)>3000)=false:=qF (by omega);have d2:decide (3000<len)=false:=qF hbig;have hF3:Fr [] W (W.alloc (.cells #[] 5)):=(Fr.refl [] W).alloc _;have hW4:=(Wd.begin W).new (t:=thY (.slice (some ⟨W.heap.size,0,none⟩) 0 0) []) hF3 ⟨cX.mt W,rfl⟩ (by simp[Value.ownBlock]);have HW4:=qA (zI hW4 (hrd.fr hW4.frm));have HR:=qA (zI hb (zI hl (zI hcap hnil)));have hlb:len<=3000:=by omega
 clear hl hcap hrd hb hL hnil hF3 hW4 hbig;go_enter Tryz.func6,Tryz.ntmps6
 go_upto_region 4 with(first|(at_builtin;go_loud (refine lN HW4.out.1 rfl (.tmp 28) (.tmp 29) 22 rfl (.int .u8 0) Tryz.underlying22 Tryz.info5 rfl a len cap rfl rfl HW4.out.2 HR.out.2.1 HR.out.2.2.2 (by simp;omega) ?_);intro v5 w5 hW5;rw[List.nil_append]at hW5;have HW5:=qA hW5;clear hW5)|fail)
 clear HW4 d1 d2;have h5:=HW5.out;obtain⟨a5,c5,hv5⟩:=h5.rowB.slice;subst hv5;rw[HR.out.2.1]at h5 ⊢;have HW5:=qA h5;clear h5;go_cut [36] from 24 (fun s36 wx=>s36=.bool (sm&&decide (4<=len))/\wx=w5)
 case first=>
  cases sm with
  | false=>{
  go_wp2_with fail
  go_meet
  case rel=>exact⟨rfl,rfl⟩}
  | true=>{
  by_cases h4:4<=len
  {
  have d4:decide ((len:Int)≥4)=true:=qG (by omega);have d5:decide (4<=len)=true:=qG h4;have d6:(4:Int)<=len:=by omega
  have H4:=qA d5;clear h4;go_wp2_with fail
  go_meet
  case rel=>exact⟨by rw[H4.out];rfl,rfl⟩}
  {
  have d4:decide ((len:Int)≥4)=false:=qF (by omega);have d5:decide (4<=len)=false:=qF h4;have d6:¬(4:Int)<=len:=by omega
  have H4:=qA d5;clear h4;go_wp2_with fail
  go_meet
  case rel=>exact⟨by rw[H4.out];rfl,rfl⟩}}
 case rest=>
  obtain⟨rfl,rfl⟩:=hcut;go_upto_if 36 with fail
  go_cut [5] from 24 (fun s5 wx=>∃IN:List Nat,Hid (Wd W wx [thY s5 IN]/\Byt IN/\IN.length=len))
  case first=>
   cases hb36:(sm&&decide (4<=len)) with
   | false=>{
   go_wp2_with fail
   go_meet
   case rel=>exact⟨ns,qA ⟨HW5.out,HR.out.1,HR.out.2.1⟩⟩}
   | true=>{
   have h4:4<=len:=by simp at hb36;exact hb36.2
   clear hb36;have hW:=HW5.out;obtain⟨b5,c5', ev,hc5,_⟩:=hW.formB (by rw[HR.out.2.1];omega);simp only[qP]at ev;obtain⟨rfl,hxx,rfl⟩:=ev;clear hxx;rw[HR.out.2.1]at hc5;obtain⟨n4,hn4⟩:∃n4,n4=len-4:=⟨_,rfl⟩;obtain⟨T,hT⟩:∃T,T=ns.take n4:=⟨_,rfl⟩;have hTl:T.length=n4:=by rw[hT,List.length_take,HR.out.2.1];omega
   have hTb:Byt T:=by rw[hT];exact HR.out.1.take _
   have k1:(0:Int)<=n4:=by omega
   have k2:(n4:Int)<=c5:=by omega
   have k3:¬c5=0:=by omega
   have hWT:=hW.takeB n4 (by rw[HR.out.2.1];omega);rw[<-hT]at hWT;have HT:=qA hWT;have HRd:=qA (show RdB wc (some ⟨b5,0,none⟩) T from by rw[hT];exact(hW.rowB.rd2).take n4);have hsum:=aLE (cap:=c5) HRd.out hTb (by omega);rw[hTl]at hsum;have hx:=rU hTb;obtain⟨x,hxx⟩:∃x,x=crc T:=⟨_,rfl⟩;rw[<-hxx]at hx hsum;have HSum:=qA hsum;have HTl:=qA (zI hTl (zI hTb (zI hn4 (zI hxx h4))));have K0:=qA (show IntKind.i64.wrap ((len:Int)-4)=(n4:Int) from by rw[show(len:Int)-4=(n4:Int) by omega];exact zG _ (by omega));clear hT hTl hTb hn4 hWT hxx hW hc5 hsum h4 hx;have k0:=K0.out;go_wp2_with fail
   refine HSum.out.mono ?_;rintro _ w8 ⟨rfl,rfl⟩;clear HSum;have HA:=qA (fun(u:Obj)=>HT.out.fr0 ((Fr.refl [] w8).alloc u));have HY:=qA (show(x:Int)/16777216%256=((x/16777216%256:Nat):Int)/\(x:Int)/65536%256=((x/65536%256:Nat):Int)/\(x:Int)/256%256=((x/256%256:Nat):Int)/\(x:Int)%256=((x%256:Nat):Int) from by
     clear k0;omega)
   go_wp2_with (first|(at_builtin;go_loud (refine lN (HA.out _) rfl (.tmp 47) (.tmp 59) 22 rfl (.int .u8 0) Tryz.underlying22 Tryz.info5 rfl (some ⟨w8.heap.size,0,none⟩) 4 4 rfl rfl (aHL w8 _ _ _ _ HY.out.1 HY.out.2.1 HY.out.2.2.1 HY.out.2.2.2) rfl (by simp) (by rw[HTl.out.1];have:=HTl.out.2.2;omega) ?_);intro v9 w9 hW9;rw[<-be4y]at hW9;have HW9:=qA hW9;clear hW9)|fail)
   clear HA HY k0;go_meet
   case rel=>exact⟨T++beN 4 x,qA ⟨HW9.out,HTl.out.2.1.app (dV _ _),by rw[zF,aN,HTl.out.1,HTl.out.2.2.1];have:=HTl.out.2.2.2.2;omega⟩⟩}
  case rest=>
   clear HW5;obtain⟨IN,HI⟩:=hcut;obtain⟨a5,c5,hv5⟩:=HI.out.1.rowB.slice;subst hv5;rw[HI.out.2.2];have hI:=HI.out.1;rw[HI.out.2.2]at hI;have hcp:=hI.rowB.capB;have hW6:=hI.new (t:=thY (.slice (some ⟨wc.heap.size,0,none⟩) 0 0) []) ((Fr.refl [] wc).alloc (.cells #[] 5)) ⟨cX.mt wc,rfl⟩ (by simp[Value.ownBlock]);have HW6:=qA (zI hW6 hW6.swap.rowB.rd2);have HB:=qA (zI HI.out.2.1 (zI HI.out.2.2 hcp));clear hI hcp hW6 HI;go_wp2_with (first|(at_builtin;go_loud (refine lN HW6.out.1 rfl (.tmp 61) (.tmp 62) 22 rfl (.int .u8 0) Tryz.underlying22 Tryz.info5 rfl a5 len c5 rfl rfl HW6.out.2 HB.out.2.1 HB.out.2.2.1 (by simp;omega) ?_);intro v7 w7 hW7;rw[List.nil_append]at hW7;have HW7:=qA hW7;clear hW7)|fail)
   clear HW6;obtain⟨a7,c7,hv7⟩:=HW7.out.rowB.slice;subst hv7;rw[HB.out.2.1];have h7:=HW7.out;rw[HB.out.2.1]at h7;have HC7:=qA h7.rowB.capB;have HLd:=qA (aEX (cap:=c5) h7 HL.out h7.swap.rowB.rd2 HB.out.1 HB.out.2.1 (by omega) HB.out.2.2.2);obtain⟨R,hR⟩:∃R,R=bX IN:=⟨_,rfl⟩;rw[<-hR]at HLd;have HRq:=qA hR.symm;clear h7 HW7 hR;refine HLd.out.mono ?_;intro e1 w8 hD;clear HLd;unfold LdE at hD;obtain⟨c,ro⟩:=R;cases ro with
   | none=>{
   obtain⟨rfl,hW8⟩:=hD;have hcn:=aDM HRq.out;have hc1:(c != 0)=true:=by simp[hcn]
   have hld:=aFD (cap:=c7) hW8 hW8.rowB.rd2 HB.out.1 HB.out.2.1 (by omega) HC7.out.2;rw[HRq.out]at hld;have HLf:=qA hld;clear hW8 hcn hld;go_wp2_with fail
   refine HLf.out.mono ?_;intro e2 w9 hD;clear HLf;unfold LdF at hD;obtain⟨rfl,hW9⟩:=hD;have hck:=oK (cap:=c5) hW9 HL.out hW9.swap.rowB.rd2 HB.out.1 HB.out.2.1 (by omega) HB.out.2.2.2;rw[HRq.out]at hck;have HCk:=qA hck;clear hck hW9;go_wp2_with fail
   refine HCk.out.mono ?_;rintro _ w10 ⟨rfl,hW10⟩;have hsm:=tU (c1:=c5) (c2:=c7) hW10.swap.rowB.rd2 hW10.rowB.rd2 HB.out.2.1 HB.out.2.1 (by omega) HB.out.2.2.2 HC7.out.2;rw[qG (rfl:IN=IN)]at hsm;have HSm:=qA hsm;have HW10:=qA hW10;clear HCk hsm hW10;go_wp2_with fail
   refine HSm.out.mono ?_;rintro _ w11 ⟨rfl,hF⟩;have HWk:=qA (pO (HW10.out.fr0 hF) HL.out);clear HSm hF HW10;go_wp2_with fail
   refine HWk.out.mono ?_;rintro _ w12 ⟨rfl,hW⟩;have hB:=hW.below;clear hW HWk;go_wp2_with fail
   go_ret;exact⟨rfl,hB⟩}
   | some o=>{
   obtain⟨p,rfl,hW8⟩:=hD;have hc0:=aDN HRq.out;subst hc0;have hld:=aFD (cap:=c7) hW8 hW8.swap.rowB.rd2 HB.out.1 HB.out.2.1 (by omega) HC7.out.2;rw[HRq.out]at hld;have HLf:=qA hld;clear hW8 hld;go_wp2_with fail
   refine HLf.out.mono ?_;intro e2 w9 hD;clear HLf;unfold LdF at hD;obtain⟨q,rfl,hW9⟩:=hD;have hW9:=hW9.swap;have hok:=hW9.ob;have hjb:=aDA HB.out.1 HRq.out;have HJ:=qA (zI hok hjb);have hck:=oK (cap:=c5) hW9 HL.out hW9.fourth43.rowB.rd2 HB.out.1 HB.out.2.1 (by omega) HB.out.2.2.2;rw[HRq.out]at hck;have HCk:=qA hck;clear hck hW9 hok hjb;go_wp2_with fail
   refine HCk.out.mono ?_;rintro _ w10 ⟨rfl,hW10⟩;have hsm:=tU (c1:=c5) (c2:=c7) hW10.fourth43.rowB.rd2 hW10.third.rowB.rd2 HB.out.2.1 HB.out.2.1 (by omega) HB.out.2.2.2 HC7.out.2;rw[qG (rfl:IN=IN)]at hsm;have HSm:=qA hsm;have HW10:=qA hW10;clear HCk hsm hW10;go_wp2_with fail
   refine HSm.out.mono ?_;rintro _ w11 ⟨rfl,hF⟩;have HW:=qA (HW10.out.fr0 hF);have HA:=qA (aAJ HW.out);clear HSm hF HW10;have hle:o.L.length<=16384:=by have h1:=HJ.out.1.leE;have h2:=HJ.out.1.mE;omega
   have HLe:=qA hle;clear hle;go_wp2_with fail
   refine HA.out.mono ?_;rintro _ w12 ⟨rfl,hF⟩;have HX:=qA (HW.out.fr0 hF);clear HA hF HW;have HA:=qA (aMC HX.out.swap);go_wp2_with fail
   refine HA.out.mono ?_;rintro _ w13 ⟨rfl,hF⟩;have HW:=qA (HX.out.fr0 hF);clear HA hF HX;have HA:=qA (aKJ HW.out);go_wp2_with fail
   refine HA.out.mono ?_;rintro _ w14 ⟨rfl,hF⟩;have HX:=qA (HW.out.fr0 hF);clear HA hF HW;have HA:=qA (aMH HX.out.swap HLe.out);go_wp2_with fail
   refine HA.out.mono ?_;rintro _ w15 ⟨rfl,hF⟩;have HW:=qA (HX.out.fr0 hF);clear HA hF HX;have HA:=qA (aEY HW.out HL.out HJ.out.2.2);go_wp2_with fail
   refine HA.out.mono ?_;rintro _ w16 ⟨v22,rfl,hW⟩;obtain⟨b22,c22,rfl,hc22,_⟩:=hW.formB (by rw[o.img_len];omega);rw[HJ.out.2.1,HB.out.2.1]at hc22;have hW:Wd W w16 (thO p o::thF q o::thY (.slice (some ⟨b22,0,none⟩) o.img.length c22) o.img::[thY (.slice a5 len c5) IN]):=hW.back3.fourth43.drop;rw[HJ.out.2.1,HB.out.2.1]at hW ⊢;have HX:=qA hW;have HC22:=qA hc22;clear HA HW hW hc22;have HA:=qA (aKI HX.out);go_wp2_with fail
   refine HA.out.mono ?_;rintro _ w17 ⟨rfl,rfl⟩;clear HA;have HA:=qA (aSQ HX.out.swap);go_wp2_with fail
   refine HA.out.mono ?_;rintro _ w17 ⟨rfl,rfl⟩;clear HA;have HA:=qA (vQ HX.out);go_wp2_with fail
   refine HA.out.mono ?_;rintro _ w18 ⟨rfl,hF⟩;have HW:=qA (HX.out.fr0 hF);clear HA hF HX;have HA:=qA (aHJ HW.out.swap);go_wp2_with fail
   refine HA.out.mono ?_;rintro _ w19 ⟨rfl,hF⟩;have HX:=qA (HW.out.fr0 hF);clear HA hF HW;have HA:=qA (aER HX.out);go_wp2_with fail
   refine HA.out.mono ?_;rintro _ w20 ⟨lv,L,rfl,hlv,hW⟩;have HLv:=qA hlv;have HW:=qA hW;clear HA HX hlv hW;have HA:=qA (aPJ HW.out.third HLe.out);go_wp2_with fail
   refine HA.out.mono ?_;rintro _ w21 ⟨la,lc,rfl,hW⟩;have hll:L.length<=65536:=by {
   have h1:=HLe.out;rw[<-HLv.out.1,List.length_map]at h1;omega};have HRc:=qA (aMO hW.third.rowV hW.rowV hll (by have:=HLe.out;omega));have HX:=qA hW;clear HA HW hW hll;go_wp2_with fail
   refine HRc.out.mono ?_;rintro _ w22 ⟨r,rfl,hrr,hF⟩;have hr1:r=true:=hrr.2 (by rw[HLv.out.1,aHM HJ.out.1]);subst hr1;have hW:=HX.out.fr0 hF;have hsm:=tU (c1:=c22) (c2:=c5) hW.drop.drop.drop.drop.rowB.rd2 hW.drop.drop.drop.drop.swap.rowB.rd2 HB.out.2.1 HB.out.2.1 (by omega) HC22.out HB.out.2.2.2;rw[qG (rfl:IN=IN)]at hsm;have HSm:=qA hsm;have HW:=qA hW;clear HRc HX hrr hF hW hsm;go_wp2_with fail
   refine HSm.out.mono ?_;rintro _ w23 ⟨rfl,hF⟩;have HWk:=qA (pO (HW.out.fr0 hF) HL.out);clear HSm hF HW;go_wp2_with fail
   refine HWk.out.mono ?_;rintro _ w24 ⟨rfl,hW⟩;have hB:=hW.below;clear hW HWk;go_wp2_with fail
   go_ret;exact⟨rfl,hB⟩}}
end Go.Proofs.YtjdgpcjbgjnahaaGreatDoor
