/- The statement 'WindowRestores': for every input the call returns true, and each argument reads afterwards as it read before. -/
import Derived.Test.YtgmnemndjjmgkaaGreatB11
import Derived.Test.YtgmnemndjjmgkaaGreatB12
import Derived.Test.YtgmnemndjjmgkaaGreatB1
import Derived.Test.YtgmnemndjjmgkaaGreatB3
import Derived.Test.YtgmnemndjjmgkaaGreatB4
set_option maxRecDepth 10000
set_option maxHeartbeats 1600000
set_option linter.unusedSimpArgs false
set_option linter.unusedVariables false
/- Restore, as the document has it: the room for the ids is asked at the end alone; the plain law. -/
namespace Go.Proofs.YtgmnemndjjmgkaaGreat
open Go.RowKit
def Ob.docOk(o:Ob)(last:Int)(r:R4):Bool:=decide (r.1≠r.2.1/\last<=r.2.2.2)&&kV o.m o.now r.2.2.2
def Ob.docL:Ob->Int->List R4->Option Ob
  | o,_,[]=>some o
  | o,last,r::rs=>if o.docOk last r=true then(o.putT r.1 r.2.1 r.2.2.1 r.2.2.2).docL r.2.2.2 rs else none
def Ob.docE(o:Ob):Option Ob:=if o.V<(bD o.L).length then none else some o
theorem aAL:∀(l:List R4) {o o' :Ob} {last:Int},o.docL last l=some o' -> (bD o.L).length<=(bD o'.L).length/\o'.V=o.V
  | [],o,o', last,h=>by
    obtain rfl:=Option.some.inj h;exact⟨qS _,rfl⟩
  | r::rs,o,o', last,h=>by
    have h:(if o.docOk last r=true then(o.putT r.1 r.2.1 r.2.2.1 r.2.2.2).docL r.2.2.2 rs else none)=some o' :=h;split at h
    · obtain ⟨h1, h2⟩ := aAL rs h
      exact⟨zQ (aRH fun e he=>List.mem_append_left _ he) h1,h2⟩
    · cases h
theorem aJZ:∀(l:List R4) (o:Ob) (last:Int),(bD o.L).length<=o.V->o.L.length+l.length<=o.E->o.resL last l=(o.docL last l).bind Ob.docE
  | [],o,last,h,_=>by
    show some o=o.docE
    exact(qH (Nat.not_lt.2 h)).symm
  | r::rs,o,last,h,hE=>by
    show(if o.resOk last r=true then(o.putT r.1 r.2.1 r.2.2.1 r.2.2.2).resL r.2.2.2 rs else none)=(if o.docOk last r=true then(o.putT r.1 r.2.1 r.2.2.1 r.2.2.2).docL r.2.2.2 rs else none).bind Ob.docE
    have hE:o.L.length+(rs.length+1)<=o.E:=hE;have hids:(bD (o.putT r.1 r.2.1 r.2.2.1 r.2.2.2).L)=Ob.idsUV o.L r.1 r.2.1:=(aHQ o.L ⟨0,o.last+1,r.1,r.2.1,r.2.2.1,r.2.2.2,r.2.2.2+o.m⟩).symm;by_cases hd:o.docOk last r=true
    · rw [qI hd]
      have hd' :=hd;unfold Ob.docOk at hd';simp only[zG,decide_eq_true_eq]at hd';by_cases hV:o.V<(Ob.idsUV o.L r.1 r.2.1).length
      · have hr:¬o.resOk last r=true:=fun hr=>by
          unfold Ob.resOk Ob.chkO at hr;rw[qH hd'.1.1,qH (by omega),qI hV]at hr;simp at hr
        rw[qH hr];cases hx:(o.putT r.1 r.2.1 r.2.2.1 r.2.2.2).docL r.2.2.2 rs with
        | none=>rfl
        | some o' =>
          obtain⟨h1,h2⟩:=aAL rs hx;rw[hids]at h1;have h2:o'.V=o.V:=h2;exact(qI (show o'.V<(bD o'.L).length by omega)).symm
      · have hr:o.resOk last r=true:=by
          unfold Ob.resOk Ob.chkO;rw[qH hd'.1.1,qH (by omega),qH hV];simp only[zG,decide_eq_true_eq];exact⟨hd'.1.2,hd'.2,trivial⟩
        rw[qI hr];refine aJZ rs _ _ (by rw[hids];exact Nat.le_of_not_lt hV) ?_;show(o.L++[_]).length+rs.length<=o.E
        rw[zO,List.length_singleton];omega
    · rw [qH hd, qH]
      · rfl
      · intro hr
        refine hd ?_;unfold Ob.resOk at hr;unfold Ob.docOk;simp only[zG,decide_eq_true_eq]at hr ⊢;refine⟨⟨fun e=>?_,hr.1⟩,hr.2.1⟩;have:=hr.2.2;unfold Ob.chkO at this;rw[qI e]at this;cases this
def G18(q:Nat)(va vl pa:Value)(i:Nat)(x:Lv):Nat->Value->Prop
  | 0,y=>y=aN q
  | 1,y=>y=aN q
  | 2,y=>y=.pointer (some ⟨q,0,none⟩)
  | 3,y=>y=.pointer (some ⟨q,6,none⟩)
  | 4,y=>y=va
  | 5,y=>y=aN q
  | 6,y=>y=.pointer (some ⟨q,0,none⟩)
  | 7,y=>y=.pointer (some ⟨q,7,none⟩)
  | 8,y=>y=.int .u64 x.seq
  | 9,y=>y=vl
  | 10,y=>y=.int .i64 i
  | 11,y=>y=pa
  | 12,y=>y=.agg #[.int .u64 x.u,.int .u64 x.v,.int .i64 x.wt,.int .i64 x.t]
  | 13,y=>y=.int .i64 x.x
  | 14,y=>y=.agg #[.int .i64 0,.int .u64 x.seq,.int .u64 x.u,.int .u64 x.v,.int .i64 x.wt,.int .i64 x.t,.int .i64 x.x]
  | 17,y=>y=.pointer (some ⟨q,0,none⟩)
  | 18,y=>y=.pointer (some ⟨q,6,none⟩)
  | _,_=>True
def aYD(w0 w:World)(va y:Value)(m:List Lv):Prop:=Fr va.ownBlock.toList w0 w/\aS w y m/\∀b,y.ownBlock=some b->va.ownBlock=some b∨w0.heap.size<=b
def I18(q:Nat)(va vl pa:Value)(i:Nat)(l:List Lv)(x:Lv)(w0:World)(f:Nat->Value)(L:Nat->Bool)(w:World):Prop:=
  (∀k,L k=true->G18 q va vl pa i x k (f k))/\(L 16=false->Fr [] w0 w)/\(L 15=true->L 16=false->aS w (f 15) [x])/\(L 16=true->L 19=false->aYD w0 w va (f 16) (l++[x])) /\
    (L 19=true->∃w1,aYD w0 w1 va (f 16) (l++[x])/\w=w1.setCell ⟨q,6,none⟩ (f 16))
section
variable {q i:Nat} {va vl pa:Value} {l:List Lv} {x:Lv} {w0 w w' :World} {f:Nat->Value} {L:Nat->Bool} {v:Value}
theorem I18.start(w0:World):I18 q va vl pa i l x w0 (fun _=>undef) (fun _=>false) w0.drew:=
  ⟨fun k hk=>(by cases hk),fun _=>(Fr.refl [] w0).drew,fun h=>(by cases h),fun h=>(by cases h),fun h=>(by cases h)⟩
theorem I18.pass(h:I18 q va vl pa i l x w0 f L w){k:Nat}(h5:k≠15)(h6:k≠16)(h9:k≠19)(hG:G18 q va vl pa i x k v):I18 q va vl pa i l x w0 (cM f k v) (cM L k true) w:=by
 refine⟨wU h.1 hG,?_⟩;rw[aT L _ h5.symm,aT L _ h6.symm,aT L _ h9.symm,aT f _ h5.symm,aT f _ h6.symm];exact h.2
theorem I18.make(h:I18 q va vl pa i l x w0 f L w)(h6:L 16=false)(h9:L 19=false)(hF:Fr [] w w')(hr:aS w' v [x]):I18 q va vl pa i l x w0 (cM f 15 v) (cM L 15 true) w' :=by
 refine⟨wU h.1 trivial,fun _=>(h.2.1 h6).trans' hF,fun _ _=>?_,fun e=>?_,fun e=>?_⟩
 · rw[dK];exact hr
 · rw[aT _ _ (by decide),h6]at e;cases e
 · rw[aT _ _ (by decide),h9]at e;cases e
theorem I18.app(h:I18 q va vl pa i l x w0 f L w)(h6:L 16=false)(h9:L 19=false)(hF:Fr va.ownBlock.toList w w')(hr:aS w' v (l++[x]))(ho:∀b,v.ownBlock=some b->va.ownBlock=some b∨w.heap.size<=b):I18 q va vl pa i l x w0 (cM f 16 v) (cM L 16 true) w' :=by
 have hF0:=h.2.1 h6;refine⟨wU h.1 trivial,fun e=>?_,fun _ e=>?_,fun _ _=>?_,fun e=>?_⟩
 · rw[dK]at e;cases e
 · rw[dK]at e;cases e
 {
 rw[dK];exact⟨(hF0.mono (by simp)).trans' hF,hr,fun b hb=>(ho b hb).imp id (zQ hF0.size)⟩}
 · rw[aT _ _ (by decide),h9]at e;cases e
theorem I18.store(h:I18 q va vl pa i l x w0 f L w)(h6:L 16=true)(h9:L 19=false):I18 q va vl pa i l x w0 (cM f 19 v) (cM L 19 true) (w.setCell ⟨q,6,none⟩ (f 16)):=by
 refine⟨wU h.1 trivial,fun e=>?_,fun _ e=>?_,fun _ e=>?_,fun _=>⟨w,?_,?_⟩⟩
 · rw[aT _ _ (by decide),h6]at e;cases e
 · rw[aT _ _ (by decide),h6]at e;cases e
 · rw[dK]at e;cases e
 · rw[aT _ _ (by decide)];exact h.2.2.2.1 h6 h9
 · rw[aT _ _ (by decide)]
end
theorem Clo.no{ops:Array Oper}{L:Nat->Bool}(h:Clo ops L){n d k:Nat}(hB:(aCK ops n d).contains k=true)(hk:L k=false):L d=false:=by
 cases e:L d with
 | false=>rfl
 | true=>rw[h.reach n d e k (by simpa using hB)]at hk;cases hk
theorem RcW.fr{w w' :World}{a:Option Addr}{l:List R4}(h:RcW w a l)(hf:Fr [] w w'):RcW w' a l:=fun i hi=>by
 obtain⟨b,off,e,hb,h0,h1,h2,h3⟩:=h i hi;exact⟨b,off,e,Nat.lt_of_lt_of_le hb hf.size,hf.cell h0 (by simp),hf.cell h1 (by simp),hf.cell h2 (by simp),hf.cell h3 (by simp)⟩
def ResF(W w' :World)(ts:List Th)(R:Option Ob)(e:Ending):Prop:=match R with
  | none=>e=.returned (.tuple #[.pointer none,.int .i64 2])/\Wd W w' ts
  | some o=>∃p,e=.returned (.tuple #[aN p,.int .i64 0])/\Wd W w' (thF p o::ts)
theorem aSN{m E V D now:Int}{g:Nat}{l:List R4}(hg:g<=9223372036854775807)(hc:wP m E V D=true)(hE:(l.length:Int)<=E)(hl:l.length<=9223372036854775807-g)(hk:cN m 0 now=0):
    iP m E V D now g l=((Ob.at m E.toNat V.toNat D now g).docL 0 l).bind Ob.docE:=by
 refine(qI ⟨hg,hc,hE,hl,hk⟩).trans (aJZ l _ _ (zB _) ?_);show 0+l.length<=E.toNat
 omega
def aSO(W wq:World)(q b:Nat)(ts:List Th)(m:Int)(E V:Nat)(D now:Int)(g:Nat)(l:List R4)(k:Nat)(lst:Int)(o:Ob):Prop:=
  Wd W wq (thF q o::thB b 55 [.int .i64 m,.int .i64 E,.int .i64 V,.int .i64 D]::ts)/\(Ob.at m E V D now g).docL 0 l=o.docL lst (l.drop k)/\0<=lst/\o.m=m/\o.now=now/\o.V=V/\o.L.length=k/\o.last=g+k
theorem Wd.cfg4{W wr:World}{ts:List Th}{b:Nat}{t:TypeId}{v0 v1 v2 v3:Value}(h:Wd W wr (thB b t [v0,v1,v2,v3]::ts)):wr.cell? ⟨b,0,none⟩=some v0/\wr.cell? ⟨b,1,none⟩=some v1/\wr.cell? ⟨b,2,none⟩=some v2/\wr.cell? ⟨b,3,none⟩=some v3:=by
 have hb:=h.blk;exact⟨hb.cell 0,hb.cell 1,hb.cell 2,hb.cell 3⟩
section
variable {W wz w w' :World} {ts:List Th}
theorem bBE(h:Wd W wz ts)(m E V D now:Int)(g:Nat)(a:Option Addr)(cap:Nat)(l:List R4)(hg:g<18446744073709551616)(hn2:now<=9223372036854775807)(hm2:m<=9223372036854775807)
    (hl:l.length<=9223372036854775807) (hrow:RcW W a l) (hok:∀r∈l,r.ok):
    Calls Tryz.prog 37 #[.agg #[.int .i64 m,.int .i64 E,.int .i64 V,.int .i64 D],.int .i64 now,.int .u64 g,.slice a l.length cap] wz fun e w' =>ResF W w' ts (iP m E V D now g l) e:=by
 have hb:=Blk.new wz [.int .i64 m,.int .i64 E,.int .i64 V,.int .i64 D] 55;have r0:=hb.cell 0;have r1:=hb.cell 1;have r2:=hb.cell 2;have r3:=hb.cell 3;simp only[zS,zT]at r0 r1 r2 r3;have hW0:Wd W (wz.alloc (.cells #[.int .i64 m,.int .i64 E,.int .i64 V,.int .i64 D] 55)) (thB wz.heap.size 55 [.int .i64 m,.int .i64 E,.int .i64 V,.int .i64 D]::ts):=
   h.new (K:=[wz.heap.size]) ((Fr.refl [] wz).alloc _) ⟨hb,rfl⟩ (fun q hq=>Nat.le_of_eq (qP.1 hq).symm)
 have HW:=qB hW0;have HR:=aWE m E V D (wz.alloc (.cells #[.int .i64 m,.int .i64 E,.int .i64 V,.int .i64 D] 55));cases hc:wP m E V D with
 | false=>{
 rw[hc]at HR;have hR:iP m E V D now g l=none:=qH (by rw[hc];simp);rw[hR];have HR:=qB HR;clear hb hW0 h hc hR hrow hok;go_enter Tryz.func37,Tryz.ntmps37
 go_wp2_with fail
 refine HR.out.mono ?_;rintro _ w2 ⟨rfl,hF⟩;have HW:=qB (HW.out.fr0 hF).drop;clear hF HR r0 r1 r2 r3;go_wp2_with fail
 go_ret2;exact⟨rfl,HW.out⟩}
 | true=>{
 rw[hc]at HR;have HR:=qB HR;obtain⟨k1,k2,k3,k4,k5,k6,k7⟩:=aFA.1 hc;obtain⟨E,rfl⟩:=Int.eq_ofNat_of_zero_le (show 0<=E by omega);obtain⟨V,rfl⟩:=Int.eq_ofNat_of_zero_le (show 0<=V by omega);by_cases hn:now<0
 {
 have hR:iP m E V D now g l=none:=qH (by unfold cN;rw[qI hn];simp);rw[hR];have d0:decide (now<0)=true:=qO hn;clear hb hW0 h hc hR hrow hok hn k1 k2 k3 k4 k5 k6 k7;go_enter Tryz.func37,Tryz.ntmps37
 go_wp2_with fail
 refine HR.out.mono ?_;rintro _ w2 ⟨rfl,hF⟩;have HW:=qB (HW.out.fr0 hF).drop;clear hF HR r0 r1 r2 r3;go_wp2_with fail
 go_ret2;exact⟨rfl,HW.out⟩};have d0:decide (now<0)=false:=qK hn;have HA:=qB (fun w=>tY (x:=now) (y:=m) (by omega) hn2 (by omega) hm2 w);have hwl:IntKind.u64.wrap (l.length:Int)=l.length:=by simp[IntKind.wrap,IntKind.bits,IntKind.signed];omega
 have eC:cN m 0 now=eQ now m:=qH (by omega);by_cases hbad:9223372036854775807<now+m∨9223372036854775807<g∨9223372036854775807-g<l.length∨E<l.length
 {
 have hR:iP m E V D now g l=none:=qH fun k=>by
   have k5:=k.2.2.2.2;rw[eC]at k5;unfold eQ at k5;split at k5
   · omega
   · cases k5
 rw[hR];have HRC:Hid (∃c:Int,c=eQ now m/\(c=7/\(c == 0)=false∨c=0/\(9223372036854775807<g∨g<=9223372036854775807/\(9223372036854775807-g<l.length∨l.length<=9223372036854775807-g/\E<l.length)))):=qB (by
   by_cases e:now+m<=9223372036854775807
   · exact⟨0,(qI e).symm,.inr ⟨rfl,by omega⟩⟩
   · exact⟨7,(qH e).symm,.inl ⟨rfl,rfl⟩⟩)
 obtain⟨c,ec,hcs⟩:=HRC.out;rw[<-ec]at HA;clear ec HRC hb hW0 h hc hR hrow hok hn k1 k2 k3 k4 k5 k6 k7 eC hbad;rcases hcs with⟨rfl,_⟩|⟨rfl,hc|⟨hc,hd|⟨hd,he⟩⟩⟩
 case' inr.inl=>have d1:decide ((g:Int)>9223372036854775807)=true:=qO (by omega)
 case' inr.inr.inl=>
  have d1:decide ((g:Int)>9223372036854775807)=false:=qK (by omega);have hws:IntKind.u64.wrap (9223372036854775807-(g:Int))=9223372036854775807-(g:Int):=by simp[IntKind.wrap,IntKind.bits,IntKind.signed];omega
  have d2:decide ((l.length:Int)>9223372036854775807-(g:Int))=true:=qO (by omega)
 case' inr.inr.inr=>
  have d1:decide ((g:Int)>9223372036854775807)=false:=qK (by omega);have hws:IntKind.u64.wrap (9223372036854775807-(g:Int))=9223372036854775807-(g:Int):=by simp[IntKind.wrap,IntKind.bits,IntKind.signed];omega
  have d2:decide ((l.length:Int)>9223372036854775807-(g:Int))=false:=qK (by omega);have d3:decide ((l.length:Int)>(E:Int))=true:=qO (by omega)
 all_goals
  clear hg hl;generalize gL now m=sv at *;go_enter Tryz.func37,Tryz.ntmps37
  go_wp2_with fail
  refine HR.out.mono ?_;rintro _ w2 ⟨rfl,hF⟩;obtain⟨_,hb,_⟩:=(HW.out.fr0 hF).get;have r0:=hb.cell 0;have r1:=hb.cell 1;simp only[zS,zT]at r0 r1;have HW:=qB (HW.out.fr0 hF);clear hF HR r2 r3 hb;go_wp2_with fail
  refine(HA.out _).mono ?_;rintro _ w3 ⟨rfl,hF⟩;obtain⟨_,hb,_⟩:=(HW.out.fr0 hF).get;have r0:=hb.cell 0;have r1:=hb.cell 1;simp only[zS,zT]at r0 r1;have HW:=qB (HW.out.fr0 hF).drop;clear hF HA hb;go_wp2_with fail
  go_ret2;exact⟨rfl,HW.out⟩};have b1:now+m<=9223372036854775807:=by omega
 have b2:g<=9223372036854775807:=by omega
 have b3:l.length<=9223372036854775807-g:=by omega
 have b4:l.length<=E:=by omega
 have hR:=qB (show iP m E V D now g l=((Ob.at m E V D now g).docL 0 l).bind Ob.docE from aSN (l:=l) b2 hc (show(l.length:Int)<=(E:Int) by omega) b3 (eC.trans (qI b1)));have e1:gL now m=now+m:=qI b1;have e2:eQ now m=0:=qI b1;rw[e1,e2]at HA;have d1:decide ((g:Int)>9223372036854775807)=false:=qK (by omega);have hws:IntKind.u64.wrap (9223372036854775807-(g:Int))=9223372036854775807-(g:Int):=by simp[IntKind.wrap,IntKind.bits,IntKind.signed];omega
 have d2:decide ((l.length:Int)>9223372036854775807-(g:Int))=false:=qK (by omega);have d3:decide ((l.length:Int)>(E:Int))=false:=qK (by omega);have HL:=qB (zR hrow hok);have HK:=qB (show g<=9223372036854775807/\l.length<=9223372036854775807-g/\l.length<=E/\0<=m/\m<=9223372036854775807/\0<=now/\now<=9223372036854775807/\E<=16384/\V<=4096 from⟨b2,b3,b4,by omega,hm2,by omega,hn2,by omega,by omega⟩);clear e1 e2 eC b1 b2 b3 b4 hbad hn k1 k2 k3 k4 k5 k6 k7 hc hb hW0 h hg hl hn2 hm2 hrow hok;obtain⟨n,hnl⟩:∃n,n=l.length:=⟨_,rfl⟩;have d4:¬E<l.length:=by have:=HK.out;omega
 rw[<-hnl]at hwl d2 d3 d4 HK ⊢;have HN:=qB hnl;clear hnl;generalize now+m=sv at HA;go_enter Tryz.func37,Tryz.ntmps37
 go_wp2_with fail
 refine HR.out.mono ?_;rintro _ w2 ⟨rfl,hF⟩;obtain⟨_,hb,_⟩:=(HW.out.fr0 hF).get;have r0:=hb.cell 0;have r1:=hb.cell 1;simp only[zS,zT]at r0 r1;have HW:=qB (HW.out.fr0 hF);clear hF HR r2 r3 hb;go_wp2_with fail
 refine(HA.out _).mono ?_;rintro _ w3 ⟨rfl,hF⟩;obtain⟨_,hb,_⟩:=(HW.out.fr0 hF).get;have r0:=hb.cell 0;have r1:=hb.cell 1;have r2:=hb.cell 2;have r3:=hb.cell 3;simp only[zS,zT]at r0 r1 r2 r3;have HW:=qB (HW.out.fr0 hF);have HP:Hid (Wd W (w3.alloc (.cells #[.bool true,.int .i64 m,.int .i64 E,.int .i64 V,.int .i64 D,.int .i64 now,.slice none 0 0,.int .u64 g,.int .u64 g] 115)) (thF w3.heap.size (Ob.at m E V D now g)::thB wz.heap.size 55 [.int .i64 m,.int .i64 E,.int .i64 V,.int .i64 D]::ts)):=qB (by
   refine HW.out.new (K:=[w3.heap.size]) ((Fr.refl [] w3).alloc _) ⟨none,0,?_,⟨rfl,.inl ⟨rfl,rfl⟩⟩,(fun q hq=>by cases hq),rfl⟩ (fun q hq=>Nat.le_of_eq (qP.1 hq).symm);exact Blk.new w3 (rfC (Ob.at m E V D now g) (.slice none 0 0)) 115)
 clear hF HA hb;go_wp2_with fail
 have HP2:=qB (show aSO W (w3.alloc (.cells #[.bool true,.int .i64 m,.int .i64 E,.int .i64 V,.int .i64 D,.int .i64 now,.slice none 0 0,.int .u64 g,.int .u64 g] 115)) w3.heap.size wz.heap.size ts m E V D now g l 0 0 (Ob.at m E V D now g) from⟨HP.out,rfl,Int.le_refl _,rfl,rfl,rfl,rfl,rfl⟩);clear HP HW r0 r1 r2 r3 hwl d0 d1 d2 d3 d4 hws;generalize w3.heap.size=q at *;go_loopw [13,14,15,16] (fun x i _ _ wr=>∃(k:Nat) (lst:Int) (o:Ob),k<=n/\x=.int .i64 lst/\i=.int .i64 k/\Hid (aSO W wr q wz.heap.size ts m E V D now g l k lst o)) (fun _ i _ _ _=>n-(intOf i).toNat)
 case atStart=>exact⟨0,0,_,zB _,rfl,rfl,HP2⟩
 case round=>
  clear HP2;obtain⟨k,lst,o,hk,rfl,rfl,HP⟩:=hrel;by_cases hlt:k<n
  {
  have hlt' :(k:Int)<n:=by omega
  have hw1:IntKind.i64.wrap ((k:Int)+1)=((k+1:Nat):Int):=by rw[show(k:Int)+1=((k+1:Nat):Int) by omega];exact zP _ (by have:=HK.out;omega)
  have hkl:k<l.length:=by rw[<-HN.out];exact hlt
  obtain⟨b', off,ea,_,c0,c1,c2,c3⟩:=HL.out.1 k hkl;have hrk:=HL.out.2 _ (List.getElem_mem hkl);have hD:=List.drop_eq_getElem_cons hkl;generalize l[k]'hkl=r at *;obtain⟨u,v,wt,t⟩:=r;subst ea;have HCl:=qB (show ∀w', Fr [] W w' -> w'.cell? ⟨b', off+k*4,none⟩=some (.int .u64 u)/\w'.cell? ⟨b', off+k*4+1,none⟩=some (.int .u64 v)/\w'.cell? ⟨b', off+k*4+2,none⟩=some (.int .i64 wt)/\w'.cell? ⟨b', off+k*4+3,none⟩=some (.int .i64 t) from fun w' hf=>⟨hf.cell c0 (by simp),hf.cell c1 (by simp),hf.cell c2 (by simp),hf.cell c3 (by simp)⟩);clear c0 c1 c2 c3;obtain⟨c0,c1,c2,c3⟩:=HCl.out _ HP.out.1.frm;obtain⟨m0,m1,m2,m3⟩:=(HP.out.1.drop).cfg4;have ht2:t<=9223372036854775807:=hrk.2.2.2;have HDoc:=qB (show iP m E V D now g l=(if o.docOk lst (u,v,wt,t)=true then(o.putT u v wt t).docL t (l.drop (k+1)) else none).bind Ob.docE by rw[hR.out,HP.out.2.1,hD];rfl);have hle:0<=lst:=HP.out.2.2.1;have hom:=HP.out.2.2.2.1;have hon:=HP.out.2.2.2.2.1;have HQ:=qB (show ∀w', Fr [] wr w' -> w'.cell? ⟨b', off+k*4+3,none⟩=some (.int .i64 t)/\w'.cell? ⟨wz.heap.size,0,none⟩=some (.int .i64 m) from fun w' hf=>⟨hf.cell c3 (by simp),hf.cell m0 (by simp)⟩);clear hrk;have key:∀X:Prop,(X->o.docOk lst (u,v,wt,t)=true->False)->X->iP m E V D now g l=none:=fun X h1 hX=>by
    rw[HDoc.out,qH (h1 hX)];rfl
  by_cases hbad:u=v∨t<lst∨now<t
  {
  have HNo:=qB (key _ (fun hX h=>by
    unfold Ob.docOk kV at h;simp only[zG,decide_eq_true_eq]at h;rw[hon,hom]at h;rcases hX with e|e|e
    · exact h.1.1 e
    · exact absurd h.1.2 (by omega)
    · exact absurd h.2.1 (by omega)) hbad)
  have HWd:=qB HP.out.1.drop.drop;clear HDoc key HP hle hom hon HQ hD;rcases(show u=v∨u≠v/\(t<lst∨lst<=t/\now<t) by omega) with hu|⟨hu,hd|⟨hd,he⟩⟩
  case' inl=>have u0:((u:Int) == (v:Int))=true:=beq_iff_eq.2 (by rw[hu])
  case' inr.inl=>
   have u0:((u:Int) == (v:Int))=false:=zA.2 (by omega);have d1:decide (t<lst)=true:=qO hd
  case' inr.inr=>
   have u0:((u:Int) == (v:Int))=false:=zA.2 (by omega);have d1:decide (t<lst)=false:=qK (by omega);have d2:decide (t>now)=true:=qO he
  all_goals
   clear hbad;go_wp2_with fail
   go_quiet (fail)
   go_wp2_with fail
   go_ret2;rw[HNo.out];exact⟨rfl,HWd.out.fr0 ((Fr.refl [] wr).drewN _)⟩};have u0:((u:Int) == (v:Int))=false:=zA.2 (by omega);have d1:decide (t<lst)=false:=qK (by omega);have d2:decide (t>now)=false:=qK (by omega);have HK9:=HK.out;have HA:=qB (fun w=>tY (x:=t) (y:=m) (by omega) ht2 HK9.2.2.2.1 HK9.2.2.2.2.1 w);by_cases hb2:9223372036854775807<t+m∨t+m<=now
  {
  have HNo:=qB (key _ (fun hX h=>by
    unfold Ob.docOk kV at h;simp only[zG,decide_eq_true_eq]at h;rw[hon,hom]at h;omega) hb2)
  have HWd:=qB HP.out.1.drop.drop;have hcs:∃s c:Int,gL t m=s/\eQ t m=c/\(c=7∨c=0/\s<=now):=by {
  by_cases e:t+m<=9223372036854775807
  · exact⟨_,_,qI e,qI e,.inr ⟨rfl,by omega⟩⟩
  · exact⟨_,_,qH e,qH e,.inl rfl⟩};obtain⟨s,c,e1,e2,hcs⟩:=hcs;rw[e1,e2]at HA;clear HDoc key HP hle hom hon e1 e2 hb2 hbad HK9 hD;rcases hcs with rfl|⟨rfl,hs⟩
  case' inr=>have d3:decide (s<=now)=true:=qO hs
  all_goals
   go_wp2_with fail
   go_quiet (fail)
   go_wp2_with fail
   go_region_held3 (fun w' => w'.cell? ⟨b', off + k * 4 + 3, none⟩ = some (.int .i64 t) /\ w'.cell? ⟨wz.heap.size, 0, none⟩ = some (.int .i64 m))
     (first
       | exact HQ.out _ (Fr.trans' (((Fr.refl [] wr).drewN _).drew) hF6)
       | go_keep)
     (first
       | (go_at_call 78;refine(HA.out _).mono ?_;rintro _ w6 ⟨rfl,hF6⟩))
   have HW6:=qB (HWd.out.fr0 (Fr.trans' (((Fr.refl [] wr).drewN _).drew) hF6));clear hF6 HA HQ;go_wp2_with fail
   go_ret2;rw[HNo.out];exact⟨rfl,HW6.out⟩};have e3:gL t m=t+m:=qI (by omega);have e4:eQ t m=0:=qI (by omega);rw[e3,e4]at HA;have hdk:o.docOk lst (u,v,wt,t)=true:=by {
  unfold Ob.docOk kV;simp only[zG,decide_eq_true_eq];rw[hon,hom];omega};have HDo:=qB (show(Ob.at m E V D now g).docL 0 l=(o.putT u v wt t).docL t (l.drop (k+1)) by
    rw[HP.out.2.1,hD];exact qI hdk)
  obtain⟨x,hx⟩:∃x:Lv,x=⟨0,o.last+1,u,v,wt,t,t+m⟩:=⟨_,rfl⟩;have d3:decide (x.x<=now)=false:=qK (by rw[hx];show ¬t+m<=now;omega);rw[show t+m=x.x by rw[hx]]at HA;have HX:=qB hx;have HT0:=qB (show 0<=t by omega);clear e3 e4 hdk hD HDoc key hle hom hon hx HK9 hb2 hbad;go_wp2_with fail
  go_quiet (fail)
  go_wp2_with fail
  go_region_held3 (fun w' => w'.cell? ⟨b', off + k * 4 + 3, none⟩ = some (.int .i64 t) /\ w'.cell? ⟨wz.heap.size, 0, none⟩ = some (.int .i64 m))
    (first
      | exact HQ.out _ (Fr.trans' (((Fr.refl [] wr).drewN _).drew) hF6)
      | go_keep)
    (first
      | (go_at_call 78;refine(HA.out _).mono ?_;rintro _ w6 ⟨rfl,hF6⟩))
  have HW6:=qB (HP.out.1.fr0 (Fr.trans' (((Fr.refl [] wr).drewN _).drew) hF6));clear hF6 HA HQ c0 c1 c2 c3 m0 m1 m2 m3 u0 d1 d2;obtain⟨_,_,_,c3⟩:=HCl.out _ HW6.out.frm;obtain⟨K6,⟨a1,c1,h1,h2,h3,rfl⟩,hs⟩:=HW6.out.open;have c7:=h1.cell 7;have z7:=h1.frozen 7;simp only[rfC,zS,zT]at c7;have hw:IntKind.u64.wrap ((o.last:Int)+1)=(x.seq:Int):=by rw[HX.out];have:=HP.out.2.2.2.2.2.2.2;have:=HK.out;simp[IntKind.wrap,IntKind.bits,IntKind.signed];omega
  have H8:=qB (zR h1 (zR h2 h3));have HS8:=qB (fun(w' :World) (t' :Th) (k:Stp w6 w' (q::(Value.slice a1 o.L.length c1).ownBlock.toList) t')=>hs k);clear h1 h2 h3 hs;go_wp2_with fail
  clear c7 z7 hw c3 d3;have HW9:=qB (HS8.out (w6.setCell ⟨q,7,none⟩ (.int .u64 x.seq)) (thF q { o with last:=x.seq }) ⟨_,⟨a1,c1,H8.out.1.set 7 (.int .u64 x.seq),H8.out.2.1.fr ((Fr.refl [q] w6).setCell _ _ (.inl (by simp))) (fun q hq hm=>H8.out.2.2 q hq (qP.1 hm)),H8.out.2.2,rfl⟩,(Fr.refl _ w6).setCell _ _ (.inl (by simp)),fun q hq=>.inl hq⟩);clear H8 HS8 HW6;generalize w6.setCell ⟨q,7,none⟩ (.int .u64 x.seq)=w9 at *;clear a1 c1;obtain⟨K9,⟨a1,c1,h1,h2,h3,rfl⟩,hs⟩:=HW9.out.open;have HS9:=qB (fun(w' :World) (t' :Th) (k:Stp w9 w' (q::(Value.slice a1 o.L.length c1).ownBlock.toList) t')=>hs k);have H9:=qB (show Blk w9 q 115 (rfC { o with last:=x.seq } (.slice a1 o.L.length c1))/\aS w9 (.slice a1 o.L.length c1) o.L/\∀q', (Value.slice a1 o.L.length c1).ownBlock=some q' -> q' ≠ q from⟨h1,h2,h3⟩);have HLN:=qB (show o.L.length<60000 by have:=HP.out.2.2.2.2.2.2.1;have:=HK.out;omega);have HW9f:=qB HW9.out.frm;clear h1 h2 h3 hs;generalize o.L.length=n1 at H9 HS9;refine tE (I18 q (.slice a1 n1 c1) (.slice (some ⟨b', off,none⟩) n cap) (.pointer (some ⟨b', off+k*4,none⟩)) k o.L x w9) (by kernel_rfl) (by kernel_rfl) (I18.start w9) ?_ ?_
  {
  refine(fun(H:∀a:Act,a.tmps.size=152->a.tmps[3]? =some (.slice (some ⟨b', off,none⟩) n cap)->a.tmps[12]? =some (aN q)->a.tmps[14]? =some (.int .i64 k)->a.tmps[15]? =some (.int .i64 x.x)->∀f,rQ _ _ _ _ f a 0 _)=>H _ rfl rfl rfl rfl rfl) fun a hsz t3 t12 t14 t15 f=>?_;refine⟨?_,?_,?_,?_,?_,?_,?_,?_,?_,?_,?_,?_,?_,?_,?_,?_,?_,?_,?_,?_,trivial⟩
  {
  intro b hb hf hg;have hbs:b.tmps.size=152:=hb.trans hsz;have T12:=bO ((hg 12 (by kernel_rfl)).trans t12);clear hf hg hb;refine aM rfl rfl fun L w hc hd hnL hI=>?_;go_simp;exact hI.pass (by decide) (by decide) (by decide) rfl}
  {
  intro b hb hf hg;have hbs:b.tmps.size=152:=hb.trans hsz;have T12:=bO ((hg 12 (by kernel_rfl)).trans t12);clear hf hg hb;refine aM rfl rfl fun L w hc hd hnL hI=>?_;go_simp;exact hI.pass (by decide) (by decide) (by decide) rfl}
  {
  intro b hb hf hg;have hbs:b.tmps.size=152:=hb.trans hsz;have t124:b.tmps[124]? =some (f 1):=hf 1 124 (by decide) (by kernel_rfl) (by rw[hsz];decide);have T124:=bO t124;clear hf hg hb;refine aM rfl rfl fun L w hc hd hnL hI=>?_;have e1:f 1=aN q:=hI.1 1 (bJ hd 1 (by decide));rw[e1]at T124;go_simp;exact hI.pass (by decide) (by decide) (by decide) rfl}
  {
  intro b hb hf hg;have hbs:b.tmps.size=152:=hb.trans hsz;have t125:b.tmps[125]? =some (f 2):=hf 2 125 (by decide) (by kernel_rfl) (by rw[hsz];decide);have T125:=bO t125;clear hf hg hb;refine aM rfl rfl fun L w hc hd hnL hI=>?_;have e2:f 2=.pointer (some ⟨q,0,none⟩):=hI.1 2 (bJ hd 2 (by decide));rw[e2]at T125;go_simp;exact hI.pass (by decide) (by decide) (by decide) rfl}
  {
  intro b hb hf hg;have hbs:b.tmps.size=152:=hb.trans hsz;have t126:b.tmps[126]? =some (f 3):=hf 3 126 (by decide) (by kernel_rfl) (by rw[hsz];decide);have T126:=bO t126;clear hf hg hb;refine aM rfl rfl fun L w hc hd hnL hI=>?_;have e3:f 3=.pointer (some ⟨q,6,none⟩):=hI.1 3 (bJ hd 3 (by decide));rw[e3]at T126;have h6:=hc.no (n:=5) (d:=16) (k:=4) (by kernel_rfl) hnL;have hF:=hI.2.1 h6;have hb:=hF.blk H9.out.1 (by simp);have c6:=hb.cell 6;simp only[rfC,zS,zT]at c6;clear hb;go_simp;exact hI.pass (by decide) (by decide) (by decide) rfl}
  {
  intro b hb hf hg;have hbs:b.tmps.size=152:=hb.trans hsz;have T12:=bO ((hg 12 (by kernel_rfl)).trans t12);clear hf hg hb;refine aM rfl rfl fun L w hc hd hnL hI=>?_;go_simp;exact hI.pass (by decide) (by decide) (by decide) rfl}
  {
  intro b hb hf hg;have hbs:b.tmps.size=152:=hb.trans hsz;have t128:b.tmps[128]? =some (f 5):=hf 5 128 (by decide) (by kernel_rfl) (by rw[hsz];decide);have T128:=bO t128;clear hf hg hb;refine aM rfl rfl fun L w hc hd hnL hI=>?_;have e5:f 5=aN q:=hI.1 5 (bJ hd 5 (by decide));rw[e5]at T128;go_simp;exact hI.pass (by decide) (by decide) (by decide) rfl}
  {
  intro b hb hf hg;have hbs:b.tmps.size=152:=hb.trans hsz;have t129:b.tmps[129]? =some (f 6):=hf 6 129 (by decide) (by kernel_rfl) (by rw[hsz];decide);have T129:=bO t129;clear hf hg hb;refine aM rfl rfl fun L w hc hd hnL hI=>?_;have e6:f 6=.pointer (some ⟨q,0,none⟩):=hI.1 6 (bJ hd 6 (by decide));rw[e6]at T129;go_simp;exact hI.pass (by decide) (by decide) (by decide) rfl}
  {
  intro b hb hf hg;have hbs:b.tmps.size=152:=hb.trans hsz;have t130:b.tmps[130]? =some (f 7):=hf 7 130 (by decide) (by kernel_rfl) (by rw[hsz];decide);have T130:=bO t130;clear hf hg hb;refine aM rfl rfl fun L w hc hd hnL hI=>?_;have e7:f 7=.pointer (some ⟨q,7,none⟩):=hI.1 7 (bJ hd 7 (by decide));rw[e7]at T130;have h6:=hc.no (n:=5) (d:=16) (k:=8) (by kernel_rfl) hnL;have hF:=hI.2.1 h6;have hb:=hF.blk H9.out.1 (by simp);have c7:=hb.cell 7;simp only[rfC,zS,zT]at c7;clear hb;go_simp;exact hI.pass (by decide) (by decide) (by decide) rfl}
  {
  intro b hb hf hg;have hbs:b.tmps.size=152:=hb.trans hsz;have T3:=bO ((hg 3 (by kernel_rfl)).trans t3);clear hf hg hb;refine aM rfl rfl fun L w hc hd hnL hI=>?_;go_simp;exact hI.pass (by decide) (by decide) (by decide) rfl}
  {
  intro b hb hf hg;have hbs:b.tmps.size=152:=hb.trans hsz;have T14:=bO ((hg 14 (by kernel_rfl)).trans t14);clear hf hg hb;refine aM rfl rfl fun L w hc hd hnL hI=>?_;go_simp;exact hI.pass (by decide) (by decide) (by decide) rfl}
  {
  intro b hb hf hg;have hbs:b.tmps.size=152:=hb.trans hsz;have t132:b.tmps[132]? =some (f 9):=hf 9 132 (by decide) (by kernel_rfl) (by rw[hsz];decide);have T132:=bO t132;have t133:b.tmps[133]? =some (f 10):=hf 10 133 (by decide) (by kernel_rfl) (by rw[hsz];decide);have T133:=bO t133;clear hf hg hb;refine aM rfl rfl fun L w hc hd hnL hI=>?_;have e9:f 9=.slice (some ⟨b', off,none⟩) n cap:=hI.1 9 (bJ hd 9 (by decide));rw[e9]at T132;have e10:f 10=.int .i64 k:=hI.1 10 (bJ hd 10 (by decide));rw[e10]at T133;go_simp;exact hI.pass (by decide) (by decide) (by decide) rfl}
  {
  intro b hb hf hg;have hbs:b.tmps.size=152:=hb.trans hsz;have t134:b.tmps[134]? =some (f 11):=hf 11 134 (by decide) (by kernel_rfl) (by rw[hsz];decide);have T134:=bO t134;clear hf hg hb;refine aM rfl rfl fun L w hc hd hnL hI=>?_;have e11:f 11=.pointer (some ⟨b', off+k*4,none⟩):=hI.1 11 (bJ hd 11 (by decide));rw[e11]at T134;have h6:=hc.no (n:=5) (d:=16) (k:=12) (by kernel_rfl) hnL;have hF:=hI.2.1 h6;obtain⟨q0,q1,q2,q3⟩:=HCl.out _ (HW9f.out.trans' hF);rw[show u=x.u by rw[HX.out]]at q0;rw[show v=x.v by rw[HX.out]]at q1;rw[show wt=x.wt by rw[HX.out]]at q2;rw[show t=x.t by rw[HX.out]]at q3;go_simp;exact hI.pass (by decide) (by decide) (by decide) rfl}
  {
  intro b hb hf hg;have hbs:b.tmps.size=152:=hb.trans hsz;have T15:=bO ((hg 15 (by kernel_rfl)).trans t15);clear hf hg hb;refine aM rfl rfl fun L w hc hd hnL hI=>?_;go_simp;exact hI.pass (by decide) (by decide) (by decide) rfl}
  {
  intro b hb hf hg;have hbs:b.tmps.size=152:=hb.trans hsz;have t131:b.tmps[131]? =some (f 8):=hf 8 131 (by decide) (by kernel_rfl) (by rw[hsz];decide);have T131:=bO t131;have t135:b.tmps[135]? =some (f 12):=hf 12 135 (by decide) (by kernel_rfl) (by rw[hsz];decide);have T135:=bO t135;have t136:b.tmps[136]? =some (f 13):=hf 13 136 (by decide) (by kernel_rfl) (by rw[hsz];decide);have T136:=bO t136;clear hf hg hb;refine aM rfl rfl fun L w hc hd hnL hI=>?_;have e8:f 8=.int .u64 x.seq:=hI.1 8 (bJ hd 8 (by decide));rw[e8]at T131;have e12:f 12=.agg #[.int .u64 x.u,.int .u64 x.v,.int .i64 x.wt,.int .i64 x.t]:=hI.1 12 (bJ hd 12 (by decide));rw[e12]at T135;have e13:f 13=.int .i64 x.x:=hI.1 13 (bJ hd 13 (by decide));rw[e13]at T136;go_simp;exact hI.pass (by decide) (by decide) (by decide) rfl}
  {
  intro b hb hf hg;have hbs:b.tmps.size=152:=hb.trans hsz;have t137:b.tmps[137]? =some (f 14):=hf 14 137 (by decide) (by kernel_rfl) (by rw[hsz];decide);have T137:=bO t137;clear hf hg hb;refine aM rfl rfl fun L w hc hd hnL hI=>?_;have e14:f 14=.agg #[.int .i64 0,.int .u64 x.seq,.int .u64 x.u,.int .u64 x.v,.int .i64 x.wt,.int .i64 x.t,.int .i64 x.x]:=hI.1 14 (bJ hd 14 (by decide));rw[e14]at T137;have h6:=hc.no (n:=5) (d:=16) (k:=15) (by kernel_rfl) hnL;have hF:=hI.2.1 h6;have h9:=hc.no (n:=5) (d:=19) (k:=15) (by kernel_rfl) hnL;go_simp;refine hI.make h6 h9 ((Fr.refl [] w).alloc _) ?_;rw[show x=⟨0,x.seq,x.u,x.v,x.wt,x.t,x.x⟩ by rw[HX.out]];exact aS.one w ⟨0,x.seq,x.u,x.v,x.wt,x.t,x.x⟩}
  {
  intro b hb hf hg;have hbs:b.tmps.size=152:=hb.trans hsz;have t127:b.tmps[127]? =some (f 4):=hf 4 127 (by decide) (by kernel_rfl) (by rw[hsz];decide);have T127:=bO t127;have t138:b.tmps[138]? =some (f 15):=hf 15 138 (by decide) (by kernel_rfl) (by rw[hsz];decide);have T138:=bO t138;clear hf hg hb;refine aM rfl rfl fun L w hc hd hnL hI=>?_;have e4:f 4=(.slice a1 n1 c1):=hI.1 4 (bJ hd 4 (by decide));rw[e4]at T127;have h6:=hnL;have hF:=hI.2.1 h6;have h9:=hc.no (n:=5) (d:=19) (k:=16) (by kernel_rfl) hnL;have hy:aS w (f 4) o.L:=by rw[e4];exact H9.out.2.1.fr0 hF
  refine aHU (.tmp 127) (.tmp 138) rfl (sR t127) (sR t138) hy (hI.2.2.1 (bJ hd 15 (by decide)) h6) (by have:=HLN.out;simp;omega) fun v' w' k1 k2 k3=>?_;rw[e4]at k2 k3;exact hI.app h6 h9 k2 k1 k3}
  {
  intro b hb hf hg;have hbs:b.tmps.size=152:=hb.trans hsz;have t123:b.tmps[123]? =some (f 0):=hf 0 123 (by decide) (by kernel_rfl) (by rw[hsz];decide);have T123:=bO t123;clear hf hg hb;refine aM rfl rfl fun L w hc hd hnL hI=>?_;have e0:f 0=aN q:=hI.1 0 (bJ hd 0 (by decide));rw[e0]at T123;go_simp;exact hI.pass (by decide) (by decide) (by decide) rfl}
  {
  intro b hb hf hg;have hbs:b.tmps.size=152:=hb.trans hsz;have t140:b.tmps[140]? =some (f 17):=hf 17 140 (by decide) (by kernel_rfl) (by rw[hsz];decide);have T140:=bO t140;clear hf hg hb;refine aM rfl rfl fun L w hc hd hnL hI=>?_;have e17:f 17=.pointer (some ⟨q,0,none⟩):=hI.1 17 (bJ hd 17 (by decide));rw[e17]at T140;go_simp;exact hI.pass (by decide) (by decide) (by decide) rfl}
  {
  intro b hb hf hg;have hbs:b.tmps.size=152:=hb.trans hsz;have t141:b.tmps[141]? =some (f 18):=hf 18 141 (by decide) (by kernel_rfl) (by rw[hsz];decide);have T141:=bO t141;have t139:b.tmps[139]? =some (f 16):=hf 16 139 (by decide) (by kernel_rfl) (by rw[hsz];decide);have T139:=bO t139;clear hf hg hb;refine aM rfl rfl fun L w hc hd hnL hI=>?_;have e18:f 18=.pointer (some ⟨q,6,none⟩):=hI.1 18 (bJ hd 18 (by decide));rw[e18]at T141;have h16:=bJ hd 16 (by decide);obtain⟨hF,hr,ho⟩:=hI.2.2.2.1 h16 hnL;have hb:=hF.blk H9.out.1 (fun hm=>H9.out.2.2 q (by simpa using hm) rfl);have c6:=hb.cell 6;have z6:=hb.frozen 6;simp only[rfC,zS,zT]at c6;have hS:=hI.store (v:=undef) h16 hnL;clear hI;obtain⟨y,hy⟩:∃y,y=f 16:=⟨_,rfl⟩;rw[<-hy]at T139 hS hr;obtain⟨a19,c19,rfl⟩:=hr.slice;rw[show(o.L++[x]).length=o.L.length+1 from zO]at hS;have hS:=qB hS;clear hy hr ho hF hb;go_simp}}
  {
  rintro f L wt' hL hI;obtain⟨w10,⟨hF,hr,hq⟩,rfl⟩:=hI.2.2.2.2 (hL 19 (by simp));simp only[aFQ];go_simp;have hb:=hF.blk H9.out.1 (fun hm=>H9.out.2.2 q (by simpa using hm) rfl);obtain⟨y,hy⟩:∃y,y=f 16:=⟨_,rfl⟩;rw[<-hy]at hr hq ⊢;obtain⟨a15,c15,rfl⟩:=hr.slice;have hb2:=hb.set 6 (.slice a15 (o.L++[x]).length c15);have eL:(o.putT u v wt t).L=o.L++[x]:=by rw[HX.out,<-HP.out.2.2.2.1];rfl
  have hlt:=H9.out.1.lt;have HN:Hid (aSO W (w10.setCell ⟨q,6,none⟩ (.slice a15 (o.L++[x]).length c15)) q wz.heap.size ts m E V D now g l (k+1) t (o.putT u v wt t)):=qB (by
    have hP:=HP.out;refine⟨HS9.out _ _ ⟨_,⟨a15,c15,?_,?_,?_,rfl⟩,?_,?_⟩,HDo.out,HT0.out,hP.2.2.2.1,hP.2.2.2.2.1,hP.2.2.2.2.2.1,?_,?_⟩
    · rw [eL]
      have:rfC (o.putT u v wt t) (.slice a15 (o.L++[x]).length c15)=(rfC { o with last:=x.seq } (.slice a1 n1 c1)).set 6 (.slice a15 (o.L++[x]).length c15):=by rw[HX.out];rfl
      rw[this];exact hb2
    · rw [eL]
      exact hr.fr ((Fr.refl [q] _).setCell _ _ (.inl (by simp))) (fun b hb' hm=>by
        have e:=qP.1 hm;subst e;rcases hq b hb' with e2|e2
        · exact H9.out.2.2 b e2 rfl
        · omega)
    · rw [eL]
      intro b hb' e;subst e;rcases hq b hb' with e2|e2
      · exact H9.out.2.2 b e2 rfl
      · omega
    · exact(hF.mono (fun b hb' =>.inl (List.mem_cons_of_mem _ hb'))).trans ((Fr.refl [q] _).setCell _ _ (.inl (by simp))) (fun b hb' =>.inl (by rw[qP.1 hb'];simp))
    · intro b hb'
      rcases qF.1 hb' with rfl|hb'
      · exact .inl (by simp)
      · rcases hq b (by rw [<- eL]; simpa using hb') with e2 | e2
        · exact .inl (List.mem_cons_of_mem _ (by simp[e2]))
        · exact .inr e2
    · rw[eL,zO,hP.2.2.2.2.2.2.1];rfl
    · show o.last + 1 = _
      rw[hP.2.2.2.2.2.2.2];omega)
  rw[show(o.L++[x]).length=o.L.length+1 from zO]at HN;clear hF hr hq hb hb2 hy hI hL hlt eL;go_wp2_with fail
  go_roundw
  case rel=>exact⟨k+1,t,_,by omega,rfl,rfl,HN⟩
  case measure=>simp[intOf];omega}}
  {
  obtain rfl:k=n:=by omega
  have hRe:iP m E V D now g l=o.docE:=by {
  rw[hR.out,HP.out.2.1,HN.out,List.drop_length];rfl};obtain⟨K6,⟨a1,c1,h1,h2,h3,rfl⟩,hs⟩:=HP.out.1.open;clear hs h3;have c6:=h1.cell 6;simp only[rfC,zS,zT]at c6;obtain⟨_,_,m2,_⟩:=(HP.out.1.drop).cfg4;have HI:=qB (wQ (h2.fr0 (Fr.refl [] wr).drew) (show o.L.length<=16384 by have:=HP.out.2.2.2.2.2.2.1;have:=HK.out;omega));have HQ:=qB (show ∀w', Fr [] wr w' -> w'.cell? ⟨q,6,none⟩=some (.slice a1 o.L.length c1)/\w'.cell? ⟨wz.heap.size,2,none⟩=some (.int .i64 V) from fun w' hf=>⟨hf.cell c6 (by simp),hf.cell m2 (by simp)⟩);have HRe:=qB (zR hRe HP.out.2.2.2.2.2.1);have HWp:=qB HP.out.1;obtain⟨il,hil⟩:∃il,il=(bD o.L).length:=⟨_,rfl⟩;have HIL:=qB hil;clear h1 h2 HP hRe hil;go_wp2_with fail
  go_region_held3 (fun w' => w'.cell? ⟨q, 6, none⟩ = some (.slice a1 o.L.length c1) /\ w'.cell? ⟨wz.heap.size, 2, none⟩ = some (.int .i64 V))
    (first
      | exact HQ.out _ (Fr.trans' (Fr.refl [] wr).drew hF6)
      | go_keep)
    (first
      | (go_at_call 79;refine HI.out.mono ?_;rintro _ w6 ⟨v6,rfl,hr6,hF6,hq6⟩;obtain⟨a6,k6,rfl⟩:=hr6.slice;rw[<-HIL.out]))
  have HW6:=qB (HWp.out.fr0 (Fr.trans' (Fr.refl [] wr).drew hF6));clear hF6 hr6 hq6 HI HQ c6 m2 HWp;by_cases hV:V<il
  {
  have d6:decide ((il:Int)>V)=true:=qO (by omega);have d7:decide ((V:Int)<il)=true:=qO (by omega);have d8:decide (V<il)=true:=qO hV;have d9:decide (il>V)=true:=qO hV;try rw[d6]
  try rw[d7]
  try rw[d8]
  try rw[d9]
  go_wp2_with fail
  go_ret2;rw[HRe.out.1,show o.docE=none from qI (by rw[HRe.out.2,<-HIL.out];exact hV)];exact⟨rfl,HW6.out.drop.drop⟩}
  {
  have d6:decide ((il:Int)>V)=false:=qK (by omega);have d7:decide ((V:Int)<il)=false:=qK (by omega);have d8:decide (V<il)=false:=qK hV;have d9:decide (il>V)=false:=qK hV;try rw[d6]
  try rw[d7]
  try rw[d8]
  try rw[d9]
  go_wp2_with fail
  go_ret2;rw[HRe.out.1,show o.docE=some o from qH (by rw[HRe.out.2,<-HIL.out];exact hV)];exact⟨_,rfl,HW6.out.drop2⟩}}}
end
section
variable {W wr:World} {ts:List Th}
end
section
variable {W wr:World} {ts:List Th} {v d:Value} {so:Option Ob} {f:Nat->Ob->Th}
theorem Wd.qok(h:Wd W wr (thN thO v so::ts)):QOk so:=by
 intro o e;subst e;obtain⟨p,_,h1⟩:=h.isW;exact h1.ob
theorem Wd.ptr(h:Wd W wr (thN f v so::ts)):(v=.pointer none/\so=none)∨∃p o,v=aN p/\so=some o:=by
 cases so with
 | none=>exact .inl ⟨h.isN,rfl⟩
 | some o=>obtain⟨p,e,_⟩:=h.isW;exact .inr ⟨p,o,e,rfl⟩
theorem Wd.st4{b:Nat}{t:TypeId}{v0 v1 v2 v3 v4:Value}(h:Wd W wr (thB b t [v0,v1,v2,v3,v4]::ts)):wr.cell? ⟨b,1,none⟩=some v1/\wr.cell? ⟨b,2,none⟩=some v2/\wr.cell? ⟨b,3,none⟩=some v3/\wr.cell? ⟨b,4,none⟩=some v4:=by
 have hb:=h.blk;exact⟨hb.cell 1,hb.cell 2,hb.cell 3,hb.cell 4⟩
theorem bBF(h:Wd W wr (thN thO v so::thN thF d so::ts))(k:Int)(u x:Nat)(hu:u<18446744073709551616)(hx:x<18446744073709551616)(wt t:Int)(ht1:-9223372036854775808<=t)(ht2:t<=9223372036854775807):
    Calls Tryz.prog 35 #[v,d,.agg #[.int .i64 k,.int .u64 u,.int .u64 x,.int .i64 wt,.int .i64 t]] wr fun e w' =>∃v' d' so', e=.returned (.tuple #[v', d', .bool true])/\QOk so' /\ Wd W w' (thN thO v' so' :: thN thF d' so' :: ts):=by
 have hok:=h.qok;have hb:=Blk.new wr [.int .i64 k,.int .u64 u,.int .u64 x,.int .i64 wt,.int .i64 t] 76;have r0:=hb.cell 0;have r1:=hb.cell 1;have r2:=hb.cell 2;have r3:=hb.cell 3;have r4:=hb.cell 4;simp only[zS,zT]at r0 r1 r2 r3 r4;have hW0:Wd W (wr.alloc (.cells #[.int .i64 k,.int .u64 u,.int .u64 x,.int .i64 wt,.int .i64 t] 76)) (thB wr.heap.size 76 [.int .i64 k,.int .u64 u,.int .u64 x,.int .i64 wt,.int .i64 t]::thN thO v so::thN thF d so::ts):=
   h.new (K:=[wr.heap.size]) ((Fr.refl [] wr).alloc _) ⟨hb,rfl⟩ (fun q hq=>Nat.le_of_eq (qP.1 hq).symm)
 replace hW0:=hW0.back3;by_cases d0:k=0
 {
 subst d0;have HA:=qB (aSJ (hW0.fr0 ((Fr.refl [] _).drew)) u x hu hx wt t ht1 ht2);have HO:=qB (zR hok ht2);clear h hb hW0 hok hu hx ht1 ht2;go_enter Tryz.func35,Tryz.ntmps35
 go_wp2_with fail
 go_region_held3 (fun w' => w'.cell? ⟨wr.heap.size, 1, none⟩ = some (.int .u64 u) /\ w'.cell? ⟨wr.heap.size, 2, none⟩ = some (.int .u64 x) /\ w'.cell? ⟨wr.heap.size, 3, none⟩ = some (.int .i64 wt) /\ w'.cell? ⟨wr.heap.size, 4, none⟩ = some (.int .i64 t))
   (first
     | with_reducible exact hW4.out.drop.drop.st4
     | with_reducible exact hW3.out.drop.drop.st4
     | go_keep)
   (first
     | (go_at_call 21;refine HA.out.mono ?_;rintro _ w3 ⟨rfl,hV3⟩;have hW3:=qB hV3;clear hV3)
     | (go_at_call 71;refine(bBB hW3.out.swap HO.out.1 u x wt t HO.out.2).mono ?_;rintro _ w4 ⟨rfl,hV4⟩;have hW4:=qB hV4.swap;clear hV4))
 go_wp2_with fail
 go_ret3;exact⟨_,_,_,rfl,hW4.out.qok,hW4.out.drop3⟩}
 {
 have u0:(k == 0)=false:=zA.2 d0;clear d0;by_cases d1:k=1
 {
 subst d1;have HA:=qB (aWY (hW0.fr0 ((Fr.refl [] _).drew)) t ht1 ht2);have HO:=qB (zR hok ht2);clear h hb hW0 hok hu hx ht1 ht2;go_enter Tryz.func35,Tryz.ntmps35
 go_wp2_with fail
 go_region_held3 (fun w' => w'.cell? ⟨wr.heap.size, 1, none⟩ = some (.int .u64 u) /\ w'.cell? ⟨wr.heap.size, 2, none⟩ = some (.int .u64 x) /\ w'.cell? ⟨wr.heap.size, 3, none⟩ = some (.int .i64 wt) /\ w'.cell? ⟨wr.heap.size, 4, none⟩ = some (.int .i64 t))
   (first
     | with_reducible exact hW4.out.drop.drop.st4
     | with_reducible exact hW3.out.drop.drop.st4
     | go_keep)
   (first
     | (go_at_call 17;refine HA.out.mono ?_;rintro _ w3 ⟨rfl,hV3⟩;have hW3:=qB hV3;clear hV3)
     | (go_at_call 72;refine(aXD hW3.out.swap HO.out.1 t HO.out.2).mono ?_;rintro _ w4 ⟨rfl,hV4⟩;have hW4:=qB hV4.swap;clear hV4))
 go_wp2_with fail
 go_ret3;exact⟨_,_,_,rfl,hW4.out.qok,hW4.out.drop3⟩}
 {
 have u1:(k == 1)=false:=zA.2 d1;clear d1;by_cases d2:k=2
 {
 subst d2;have HA:=qB (aWZ hW0);have HO:=qB (zR hok (zR hu (zR hx (zR ht1 ht2))));clear h hb hW0 hok hu hx ht1 ht2;go_enter Tryz.func35,Tryz.ntmps35
 go_wp2_with fail
 refine HA.out.mono ?_;rintro _ w1 ⟨v1,rfl,hW⟩;have H:=qB (aXE hW.third HO.out.1);have hp:=qB hW.ptr;clear hW HA r0 r1 r2 r3 r4;go_wp2_with fail
 refine H.out.mono ?_;rintro _ w2 ⟨v2,rfl,hW⟩;have hp2:=qB hW.ptr;obtain⟨r1,r2,r3,r4⟩:=hW.drop.drop.drop.drop.st4;have HV:=qB (aSJ hW.fourth u x HO.out.2.1 HO.out.2.2.1 wt t HO.out.2.2.2.1 HO.out.2.2.2.2);clear hW H;go_wp2_with fail
 refine HV.out.mono ?_;rintro _ w3 ⟨rfl,hW⟩;have HW:=qB (zR HO.out.1 (hW.drop.drop2.swap.drop3));clear hW HV HO r1 r2 r3 r4;rcases hp.out with⟨rfl,e1⟩|⟨p,o,rfl,e1⟩
 {
 rcases hp2.out with⟨rfl,e2⟩|⟨p2,o2,rfl,e2⟩
 {
 clear hp hp2;have HE:=qB e1;clear e1 e2;go_wp2_with fail
 go_ret3;exact⟨_,_,_,rfl,HW.out.1,HW.out.2⟩}
 · rw[e1]at e2;cases e2}
 {
 rcases hp2.out with⟨rfl,e2⟩|⟨p2,o2,rfl,e2⟩
 · rw[e1]at e2;cases e2
 {
 clear hp hp2;have HE:=qB e1;clear e1 e2;go_wp2_with fail
 go_ret3;exact⟨_,_,_,rfl,HW.out.1,HW.out.2⟩}}}
 {
 have u2:(k == 2)=false:=zA.2 d2;have HW:=qB (zR hok hW0.drop3);clear d2 h hb hW0 hok hu hx ht1 ht2;go_enter Tryz.func35,Tryz.ntmps35
 go_wp2_with fail
 go_ret3;exact⟨_,_,_,rfl,HW.out.1,HW.out.2⟩}}}
end
theorem aFK:jN Tryz.prog 42 [.i .u64,.i .u64,.i .i64,.i .i64]:=by
 refine jN.struct Tryz.underlying42 (by kernel_rfl) (fun j k hj=>?_);have hu:jN Tryz.prog 26 [.i .u64]:=jN.int Tryz.underlying26 (by kernel_rfl);have hi:jN Tryz.prog 2 [.i .i64]:=jN.int Tryz.underlying2 (by kernel_rfl);match j,hj with
 | 0,hj=>exact⟨0,_,_,rfl,hu,by decide,hj⟩
 | 1,hj=>exact⟨1,_,_,rfl,hu,by decide,hj⟩
 | 2,hj=>exact⟨2,_,_,rfl,hi,by decide,hj⟩
 | 3,hj=>exact⟨3,_,_,rfl,hi,by decide,hj⟩
 | j+4,hj=>simp at hj
end Go.Proofs.YtgmnemndjjmgkaaGreat
namespace Go.Proofs.YtgmnemndjjmgkaaGreat
open Go.RowKit Classical
theorem aIA:jN Tryz.prog 76 [.i .i64,.i .u64,.i .u64,.i .i64,.i .i64]:=by
 refine jN.struct Tryz.underlying76 (by kernel_rfl) (fun j k hj=>?_);have hi:jN Tryz.prog 3 [.i .i64]:=jN.int Tryz.underlying3 (by kernel_rfl);match j,hj with
 | 0,hj=>exact⟨0,_,_,rfl,hi,by decide,hj⟩
 | j+1,hj=>exact⟨1,_,_,rfl,aFK,Nat.le_add_left 1 j,hj⟩
abbrev aXI:=Int×Nat×Nat×Int×Int
def xA(w:World)(a:Option Addr)(len:Nat)(z:Nat->aXI):Prop:=
  len<=9223372036854775807/\∀i,i<len->∃b off,a=some ⟨b,off,none⟩/\b<w.heap.size/\w.cell? ⟨b,off+i*5,none⟩=some (.int .i64 (z i).1)/\w.cell? ⟨b,off+i*5+1,none⟩=some (.int .u64 (z i).2.1) /\
    w.cell? ⟨b,off+i*5+2,none⟩=some (.int .u64 (z i).2.2.1)/\w.cell? ⟨b,off+i*5+3,none⟩=some (.int .i64 (z i).2.2.2.1)/\w.cell? ⟨b,off+i*5+4,none⟩=some (.int .i64 (z i).2.2.2.2) /\
    (z i).2.1<18446744073709551616/\(z i).2.2.1<18446744073709551616/\ -9223372036854775808<=(z i).2.2.2.2/\(z i).2.2.2.2<=9223372036854775807
theorem xA.fr{w w' :World}{a:Option Addr}{len:Nat}{z:Nat->aXI}(h:xA w a len z)(hb:Fr [] w w'):xA w' a len z:=by
 refine⟨h.1,fun i hi=>?_⟩;obtain⟨b,off,rfl,hlt,h0,h1,h2,h3,h4,h5⟩:=h.2 i hi;exact⟨b,off,rfl,Nat.lt_of_lt_of_le hlt hb.size,hb.cell h0 (by simp),hb.cell h1 (by simp),hb.cell h2 (by simp),hb.cell h3 (by simp),hb.cell h4 (by simp),h5⟩
theorem aCM{x:Int}(h:(Lit.int .i64 x).wf=true):-9223372036854775808<=x/\x<=9223372036854775807:=by
 have h:(decide ((-9223372036854775808:Int)<=x)&&decide (x<=9223372036854775807))=true:=h;simp only[zG,decide_eq_true_eq]at h;exact h
theorem aFL{H:Type}{enc:TypeId×Value->H}{W:World}{a:Option Addr}{len cap:Nat}{d:DataW H}{p:List MemPlace}
    (h:DataW.Trod enc Tryz.prog W 0 (fun _=>true) true 73 (.slice a len cap) d p):∃z,xA W a len z:=by
  obtain⟨z,hz⟩:=yA Tryz.underlying73 aIA (by decide) h
  have key:∀i,∃u:aXI,i<len->z i 0=.int .i64 u.1/\z i 1=.int .u64 u.2.1/\z i 2=.int .u64 u.2.2.1/\z i 3=.int .i64 u.2.2.2.1/\z i 4=.int .i64 u.2.2.2.2 /\
      u.2.1<18446744073709551616/\u.2.2.1<18446744073709551616/\ -9223372036854775808<=u.2.2.2.2/\u.2.2.2.2<=9223372036854775807:=by
    intro i;by_cases hi:i<len
    · obtain ⟨b, off, rfl, _, h1⟩ := hz.2 i hi
      obtain⟨n0,e0,_⟩:=(h1 0 _ rfl).2;obtain⟨n1,e1,w1⟩:=(h1 1 _ rfl).2;obtain⟨n2,e2,w2⟩:=(h1 2 _ rfl).2;obtain⟨n3,e3,_⟩:=(h1 3 _ rfl).2;obtain⟨n4,e4,w4⟩:=(h1 4 _ rfl).2;obtain⟨u,rfl,hu⟩:=jA w1;obtain⟨v,rfl,hv⟩:=jA w2;exact⟨(n0,u,v,n3,n4),fun _=>⟨e0,e1,e2,e3,e4,hu,hv,aCM w4⟩⟩
    · exact⟨(0,0,0,0,0),fun h=>absurd h hi⟩
  obtain⟨F,hF⟩:=Classical.axiomOfChoice key;refine⟨F,hz.1,fun i hi=>?_⟩;obtain⟨b,off,rfl,hb,h1⟩:=hz.2 i hi;obtain⟨e0,e1,e2,e3,e4,e5⟩:=hF i hi;refine⟨b,off,rfl,hb,?_,?_,?_,?_,?_,e5⟩
  · rw[<-e0];exact(h1 0 _ rfl).1
  · rw[<-e1];exact(h1 1 _ rfl).1
  · rw[<-e2];exact(h1 2 _ rfl).1
  · rw[<-e3];exact(h1 3 _ rfl).1
  · rw[<-e4];exact(h1 4 _ rfl).1
end Go.Proofs.YtgmnemndjjmgkaaGreat
namespace Go.Proofs.YtgmnemndjjmgkaaGreat
open Go.ChangeShapes Go.WideShapes Go.ChangeAt Go.RowKit Go.Deep Classical
theorem RcW.cellsR{w:World}{ad:Addr}{l:List R4}(h:RcW w (some ad) l):∀j u,(rowR l)[j]? =some u->w.cell? (ad.add j)=some u:=by
 intro j u hj;have hlt:j<(rowR l).length:=(zC.1 hj).1;rw[aFB]at hlt;have hi:j/4<l.length:=by omega
 obtain⟨b,off,e,_,h0,h1,h2,h3⟩:=h (j/4) hi;obtain rfl:=Option.some.inj e;have hk:=aCJ hi (j%4) (by omega);rw[show j/4*4+j%4=j by omega,hj]at hk;rw[Addr.add_lit,show off+j=off+j/4*4+j%4 by omega];have h4:j%4=0∨j%4=1∨j%4=2∨j%4=3:=by omega
 rcases h4 with e|e|e|e<;>rw[e]at hk ⊢
 · rw[Nat.add_zero,h0];exact hk.symm
 · rw[h1];exact hk.symm
 · rw[h2];exact hk.symm
 · rw[h3];exact hk.symm
theorem aMW{H:Type}{enc:TypeId×Value->H}{W:World}{a:Option Addr}{len cap:Nat}{d:DataW H}{p:List MemPlace}
    (h:DataW.Trod enc Tryz.prog W 0 (fun _=>true) true 67 (.slice a len cap) d p):∃l:List R4,l.length=len/\RcW W a l/\(∀r∈l,r.ok)/\len<=9223372036854775807/\(a=none->cap=0):=by
 obtain⟨z,hz⟩:=yA Tryz.underlying67 aFK (by decide) h;have h0:a=none->cap=0:=by {
 rintro rfl;obtain⟨fuel,hf⟩:=h;rcases open_slice Tryz.underlying67 hf with⟨hcs,_⟩|⟨x,l,c,m,n,D,Pl,hcs,_⟩
 {
 simp[Value.cells]at hcs;exact hcs.2}
 · simp[Value.cells]at hcs};have key:∀i,∃u:R4,i<len->z i 0=.int .u64 u.1/\z i 1=.int .u64 u.2.1/\z i 2=.int .i64 u.2.2.1/\z i 3=.int .i64 u.2.2.2/\u.ok:=by {
 intro i;by_cases hi:i<len
 {
 obtain⟨b,off,rfl,_,h1⟩:=hz.2 i hi;obtain⟨n0,e0,w0⟩:=(h1 0 _ rfl).2;obtain⟨n1,e1,w1⟩:=(h1 1 _ rfl).2;obtain⟨n2,e2,_⟩:=(h1 2 _ rfl).2;obtain⟨n3,e3,w3⟩:=(h1 3 _ rfl).2;obtain⟨u,rfl,hu⟩:=jA w0;obtain⟨v,rfl,hv⟩:=jA w1;exact⟨(u,v,n2,n3),fun _=>⟨e0,e1,e2,e3,hu,hv,aCM w3⟩⟩}
 · exact⟨(0,0,0,0),fun h=>absurd h hi⟩};obtain⟨F,hF⟩:=Classical.axiomOfChoice key;have hlen:((List.range len).map F).length=len:=by simp
 refine⟨(List.range len).map F,hlen,fun i hi=>?_,fun r hr=>?_,hz.1,h0⟩
 {
 rw[hlen]at hi;obtain⟨b,off,rfl,hb,h1⟩:=hz.2 i hi;obtain⟨e0,e1,e2,e3,e5⟩:=hF i hi;simp only[List.getElem_map,List.getElem_range];refine⟨b,off,rfl,hb,?_,?_,?_,?_⟩
 · rw[<-e0];exact(h1 0 _ rfl).1
 · rw[<-e1];exact(h1 1 _ rfl).1
 · rw[<-e2];exact(h1 2 _ rfl).1
 · rw[<-e3];exact(h1 3 _ rfl).1}
 {
 obtain⟨i,hi,rfl⟩:=zF.1 hr;exact(hF i (List.mem_range.1 hi)).2.2.2.2}
theorem aSP(l:List R4):∀u∈rowR l,u.oneCell' =true:=by
 intro u hu;obtain⟨r,_,hr⟩:=List.mem_flatMap.1 hu;simp only[rC,qF,List.not_mem_nil,or_false]at hr;rcases hr with rfl|rfl|rfl|rfl<;>rfl
theorem aMX{w:World}{a:Option Addr}{cap:Nat}{l:List R4}(hrow:RcW w a l)(hnil:a=none->cap=0)(hl:l.length<=65536){g:Nat}(hg:Blk w g 42 [])(ty:TypeId):
    ∃v' w', (Builtin.append_ #[67,67] ty #[.slice (some ⟨g,0,none⟩) 0 0,.slice a l.length cap]).run Tryz.prog w=.ok v' w' /\ nH w' v' l/\Fr [g] w w' /\ ∀q,v'.ownBlock=some q->q=g∨w.heap.size<=q:=by
 have hinfo:(Tryz.prog.info? 42).map (fun i=>(i.zero,i.size,i.bytes))=some (some (.agg #[.int .u64 0,.int .u64 0,.int .i64 0,.int .i64 0]),4,32):=by kernel_rfl
 obtain⟨i0,hi,hz0,hz1,hz2⟩:=info_parts hinfo;have hn:w.ownsRow g 42 4 (.slice (some ⟨g,0,none⟩) 0 0) 0 []:=⟨by simp,.inr ⟨g,0,#[],rfl,qS _,hg,qS _,zB _,by simp,by simp⟩⟩;cases a with
 | none=>{
 obtain rfl:=hnil rfl;have h0:l.length=0:=by {
 by_cases h:0<l.length
 · obtain⟨_,_,e,_⟩:=hrow 0 h;cases e
 · omega};obtain rfl:=List.eq_nil_of_length_eq_zero h0;refine⟨_,_,run_append_owned_none w g 67 ty 42 i0 4 Tryz.underlying67 hi _ 0 [] hn,?_,Fr.refl _ _,fun q e=>?_⟩
 · exact⟨by simp[rowR],.inr ⟨g,0,#[],rfl,zB _,hg,qS _,zB _,by simp,by simp[rowR]⟩⟩
 · simp[Value.ownBlock]at e;exact .inl e.symm}
 | some ad=>{
 obtain⟨v', w', hr,h2,h3,_,h5⟩:=run_append_own_at (P:=Tryz.prog) w g 67 ty 42 i0 (.agg #[.int .u64 0,.int .u64 0,.int .i64 0,.int .i64 0]) 4 32 Tryz.underlying67 hi hz0 hz1 hz2 rfl (by decide) (.slice (some ⟨g,0,none⟩) 0 0) 0 [] hn ad l.length cap (rowR l) (aFB l) hrow.cellsR (aSP l) (by unfold maxLen;omega) (by omega) (Nat.le_of_lt hg.lt);simp only[Nat.zero_add,List.nil_append]at h2;refine⟨v', w', hr,oD h2,⟨h3.os,h3.tape,h3.output,h3.size,fun k hk hn=>h3.block k hk (fun e=>hn (by simp[Value.ownBlock]at e;simp[e]))⟩,fun q hq=>?_⟩;rcases h5 with h5|h5
 · rw[hq]at h5;simp[Value.ownBlock]at h5;exact .inl h5
 · rw[hq]at h5;simp at h5;exact .inr (by omega)}
theorem aFM{w:World}{ops:Array Oper}{rest:List Oper}{o:Oper}{a:Act}{Q:Exit->Act->World->Prop}(hgd:o.guard=none)(s x:Operand)
    (ho:o.op=.call { callee:=.builtin .append,args:=#[s,x],argTypes:=#[67,67] })
    (g:Nat) (hs:a.eval s=.slice (some ⟨g,0,none⟩) 0 0) (hg:Blk w g 42 []) (al:Option Addr) (cap n:Nat) (l:List R4) (hx:a.eval x=.slice al n cap) (hn:n=l.length) (hrow:RcW w al l) (hnil:al=none->cap=0) (hl:l.length<=65536)
    (h:∀v' w', nH w' v' l->Fr [g] w w' -> (∀q,v'.ownBlock=some q->q=g∨w.heap.size<=q)->wpList Tryz.prog ops Q rest (a.put o.dst v') w'):wpList Tryz.prog ops Q (o::rest) a w:=
  wpList_plain hgd fun _ hK=>by
 subst hn;obtain⟨v', w', hr,h2,h3,h4⟩:=aMX hrow hnil hl hg o.type;unfold Oper.wp execOp;simp only[ho,resolve,invoke,builtin,Sem.run_bind,Sem.run_pure,Result.andThen_ok,List.map_toArray,List.map_cons,List.map_nil,hs,hx,hr];exact hK _ _ (h v' w' h2 h3 h4)
def thX(v:Value)(l:List R4)(k:Nat):Th:=
  ⟨fun w K=>K=v.ownBlock.toList/\(∀q∈K,q<w.heap.size)/\∀i (hi:i<l.length),k<=i->∃b cap,v=.slice (some ⟨b,0,none⟩) l.length cap/\(∀j,w.frozen? ⟨b,j,none⟩=false)/\w.cell? ⟨b,i*4,none⟩=some (.int .u64 l[i].1)/\w.cell? ⟨b,i*4+1,none⟩=some (.int .u64 l[i].2.1)/\w.cell? ⟨b,i*4+2,none⟩=some (.int .i64 l[i].2.2.1)/\w.cell? ⟨b,i*4+3,none⟩=some (.int .i64 l[i].2.2.2),
    fun⟨_,h,_⟩ q hq=>h q hq,
    fun {w w' K S} ⟨e,h,hc⟩ hf hs=>⟨e,fun q hq=>Nat.lt_of_lt_of_le (h q hq) hf.size,fun i hi hk=>by
 obtain⟨b,cap,ev,hz,h0,h1,h2,h3⟩:=hc i hi hk;have hb:b∈K:=by rw[e,ev];simp[Value.ownBlock]
 have hkp:=hf.keep b (h b hb) (hs b hb);refine⟨b,cap,ev,fun j=>?_,?_,?_,?_,?_⟩
 · rw[<-hz j];simp only[World.frozen?,hkp]
 · rw[<-h0];simp only[World.cell?,hkp]
 · rw[<-h1];simp only[World.cell?,hkp]
 · rw[<-h2];simp only[World.cell?,hkp]
 · rw[<-h3];simp only[World.cell?,hkp]⟩⟩
theorem nH.toX{w:World}{v:Value}{l:List R4}(h:nH w v l):(thX v l 0).P w v.ownBlock.toList:=
  ⟨rfl,fun q hq=>h.lt (by simpa using hq),fun i hi _=>by
 obtain⟨b,cap,ev,_,_,hz,hc⟩:=h.at hi;exact⟨b,cap,ev,hz,hc 0 (by omega),hc 1 (by omega),hc 2 (by omega),hc 3 (by omega)⟩⟩
end Go.Proofs.YtgmnemndjjmgkaaGreat
namespace Go.Proofs.YtgmnemndjjmgkaaGreat
open Go.RowKit
theorem rN:jN Tryz.prog 55 [.i .i64,.i .i64,.i .i64,.i .i64]:=by
 refine jN.struct Tryz.underlying55 (by kernel_rfl) (fun j k hj=>?_);have hi:jN Tryz.prog 2 [.i .i64]:=jN.int Tryz.underlying2 (by kernel_rfl);have hn:jN Tryz.prog 3 [.i .i64]:=jN.int Tryz.underlying3 (by kernel_rfl);match j,hj with
 | 0,hj=>exact⟨0,_,_,rfl,hi,by decide,hj⟩
 | 1,hj=>exact⟨1,_,_,rfl,hn,by decide,hj⟩
 | 2,hj=>exact⟨2,_,_,rfl,hn,by decide,hj⟩
 | 3,hj=>exact⟨3,_,_,rfl,hn,by decide,hj⟩
 | j+4,hj=>simp at hj
theorem aSQ{H:Type}{enc:TypeId×Value->H}{W:World}{base:Nat}{v:Value}{d:DataW H}{p:List MemPlace}(hok:Value.okWide Tryz.prog W .any base 55 v)
    (h:DataW.Trod enc Tryz.prog W 0 (fun _=>true) true 55 v d p):∃z:Int×Int×Int×Int,v=.agg #[.int .i64 z.1,.int .i64 z.2.1,.int .i64 z.2.2.1,.int .i64 z.2.2.2]/\(-9223372036854775808<=z.1/\z.1<=9223372036854775807):=by
 obtain⟨cs,rfl,hsz⟩:=Go.WideShapes.okWide_struct Tryz.underlying55 hok;have h4:cs.size=4:=hsz.trans (by kernel_rfl);obtain⟨fuel,hf⟩:=h;obtain⟨v0,e0,n0,rfl,k0⟩:=rN.2 hf 0 _ rfl;obtain⟨v1,e1,n1,rfl,_⟩:=rN.2 hf 1 _ rfl;obtain⟨v2,e2,n2,rfl,_⟩:=rN.2 hf 2 _ rfl;obtain⟨v3,e3,n3,rfl,_⟩:=rN.2 hf 3 _ rfl;refine⟨(n0,n1,n2,n3),?_,by
   have k0:(decide ((-9223372036854775808:Int)<=n0)&&decide (n0<=9223372036854775807))=true:=k0;simp only[zG,decide_eq_true_eq]at k0;exact k0⟩
 simp only[Value.cells]at e0 e1 e2 e3;congr 1
 refine Array.ext_getElem? fun i=>?_;match i with
 | 0=>simpa using e0
 | 1=>simpa using e1
 | 2=>simpa using e2
 | 3=>simpa using e3
 | i+4=>rw[Array.getElem?_eq_none (by omega),Array.getElem?_eq_none (by simp)]
def aFN(R:Option Ob):Int:=match R with|none=>2|some _=>0
section
variable {W wr w w' :World} {ts:List Th}
theorem bBG(h:Wd W wr ts)(m E V D now:Int)(g:Nat)(a:Option Addr)(cap:Nat)(l:List R4)(hg:g<18446744073709551616)(hn1:-9223372036854775808<=now)(hn2:now<=9223372036854775807)(hm2:m<=9223372036854775807)
    (hl:l.length<=9223372036854775807) (hrow:RcW wr a l) (hok:∀r∈l,r.ok):
    Calls Tryz.prog 32 #[.agg #[.int .i64 m,.int .i64 E,.int .i64 V,.int .i64 D],.int .i64 now,.int .u64 g,.slice a l.length cap] wr fun e w' =>∃v,e=.returned (.tuple #[v,.int .i64 (aFN (iP m E V D now g l))])/\Wd W w' (thN thO v (iP m E V D now g l)::ts):=by
 refine(bAO h m E V D now g a cap l hg hn1 hn2 hm2 hl hrow hok).mono fun e w' k=>?_;cases hR:iP m E V D now g l with
 | none=>rw[hR]at k;exact⟨_,k.1,k.2.mkNil⟩
 | some o=>{
 rw[hR]at k;obtain⟨p,k1,k2⟩:=k;exact⟨_,k1,k2.back⟩}
theorem bBH(h:Wd W wr ts)(m E V D now:Int)(g:Nat)(a:Option Addr)(cap:Nat)(l:List R4)(hg:g<18446744073709551616)(hn2:now<=9223372036854775807)(hm2:m<=9223372036854775807)
    (hl:l.length<=9223372036854775807) (hrow:RcW W a l) (hok:∀r∈l,r.ok):
    Calls Tryz.prog 37 #[.agg #[.int .i64 m,.int .i64 E,.int .i64 V,.int .i64 D],.int .i64 now,.int .u64 g,.slice a l.length cap] wr fun e w' =>∃v,e=.returned (.tuple #[v,.int .i64 (aFN (iP m E V D now g l))])/\Wd W w' (thN thF v (iP m E V D now g l)::ts):=by
 refine(bBE h m E V D now g a cap l hg hn2 hm2 hl hrow hok).mono fun e w' k=>?_;cases hR:iP m E V D now g l with
 | none=>rw[hR]at k;exact⟨_,k.1,k.2.mkNil⟩
 | some o=>{
 rw[hR]at k;obtain⟨p,k1,k2⟩:=k;exact⟨_,k1,k2.back⟩}
theorem Wd.toX{v:Value}{l:List R4}(h:Wd W wr (thR v l::ts)):Wd W wr (thX v l 0::ts):=by
 obtain⟨K,⟨h1,rfl⟩,hs⟩:=h.head;exact hs _ h1.toX
end
theorem aKA{w:World}{v:Value}{K:List Nat}{bx n c:Nat}(hv:v=.slice (some ⟨bx,0,none⟩) n c)(e:K=v.ownBlock.toList)(k:Nat):
    Fr K w ((((w.setCell ⟨bx,k*4,none⟩ (.int .u64 0)).setCell ⟨bx,k*4+1,none⟩ (.int .u64 0)).setCell ⟨bx,k*4+2,none⟩ (.int .i64 0)).setCell ⟨bx,k*4+3,none⟩ (.int .i64 0)):=by
 have hb:bx∈K:=by rw[e,hv];simp[Value.ownBlock]
 exact((((Fr.refl K w).setCell _ _ (.inl hb)).setCell _ _ (.inl hb)).setCell _ _ (.inl hb)).setCell _ _ (.inl hb)
theorem bBI{w:World}{l:List R4}{K:List Nat}{bx n c k:Nat}(hk:k<l.length)(h:(thX (.slice (some ⟨bx,0,none⟩) n c) l k).P w K):
    (thX (.slice (some ⟨bx,0,none⟩) n c) l (k+1)).P ((((w.setCell ⟨bx,k*4,none⟩ (.int .u64 0)).setCell ⟨bx,k*4+1,none⟩ (.int .u64 0)).setCell ⟨bx,k*4+2,none⟩ (.int .i64 0)).setCell ⟨bx,k*4+3,none⟩ (.int .i64 0)) K:=by
 obtain⟨e,hK,hx⟩:=h;have hF:=aKA (w:=w) rfl e k;refine⟨e,fun q hq=>Nat.lt_of_lt_of_le (hK q hq) hF.size,fun i hi hki=>?_⟩;obtain⟨b,cap,ev,fz,x0,x1,x2,x3⟩:=hx i hi (by omega);simp only[qY,qQ,Addr.mk.injEq,and_true,true_and]at ev;obtain⟨rfl,e2,rfl⟩:=ev;have go:∀o,k*4+4<=o->((((w.setCell ⟨bx,k*4,none⟩ (.int .u64 0)).setCell ⟨bx,k*4+1,none⟩ (.int .u64 0)).setCell ⟨bx,k*4+2,none⟩ (.int .i64 0)).setCell ⟨bx,k*4+3,none⟩ (.int .i64 0)).cell? ⟨bx,o,none⟩=w.cell? ⟨bx,o,none⟩:=fun o ho=>by
   have ne:∀x,x<o->(⟨bx,x,none⟩:Addr)≠⟨bx,o,none⟩:=fun x h1 e=>by
     simp only[Addr.mk.injEq,and_true,true_and]at e;omega
   rw[World.cell?_setCell_other _ _ _ _ (ne _ (by omega)),World.cell?_setCell_other _ _ _ _ (ne _ (by omega)),World.cell?_setCell_other _ _ _ _ (ne _ (by omega)),World.cell?_setCell_other _ _ _ _ (ne _ (by omega))]
 refine⟨bx,c,by rw[e2],fun j=>?_,(go _ (by omega)).trans x0,(go _ (by omega)).trans x1,(go _ (by omega)).trans x2,(go _ (by omega)).trans x3⟩;simp only[World.frozen?_setCell];exact fz j
theorem walk_windowRestores(W:World)(zc:Int×Int×Int×Int)(hzc:-9223372036854775808<=zc.1/\zc.1<=9223372036854775807)(now:Int)(hnw:(Lit.int .i64 now).wf=true)(a2:Int)(w2:(Lit.int .u64 a2).wf=true)
    (a:Option Addr) (len cap:Nat) (l:List R4) (hz:l.length=len/\RcW W a l/\(∀r∈l,r.ok)/\len<=9223372036854775807/\(a=none->cap=0)) (am:Option Addr) (lm cm:Nat) (z:Nat->aXI) (hzm:xA W am lm z):
    Calls Tryz.prog 11 #[.agg #[.int .i64 zc.1,.int .i64 zc.2.1,.int .i64 zc.2.2.1,.int .i64 zc.2.2.2],.int .i64 now,.int .u64 a2,.slice a len cap,.slice am lm cm] W fun e w' =>e=.returned (.bool true)/\Below W.heap.size W w' :=by
 obtain⟨g,rfl,hg⟩:=jA w2;have hn:=aCM hnw;have HWk:=qB (fun w=>aLY w);obtain⟨m,E,V,D⟩:=zc;have hb:=Blk.new W [.int .i64 m,.int .i64 E,.int .i64 V,.int .i64 D] 55;have hFA:Fr [] W (W.alloc (.cells #[.int .i64 m,.int .i64 E,.int .i64 V,.int .i64 D] 55)):=(Fr.refl [] W).alloc _;by_cases hbig:40<len∨20<lm
 {
 have HFA:=qB hFA;clear hz hzm hzc w2 hg hFA hb hn hnw;rcases(show 40<len∨len<=40/\20<lm by omega) with h1|⟨h1,h2⟩
 case' inl=>have d0:(40:Int)<len:=by omega
 case' inr=>
  have d0:decide ((len:Int)>40)=false:=qK (by omega);have d1:¬40<len:=by omega
  have d2:(20:Int)<lm:=by omega
 all_goals
  clear hbig;go_enter Tryz.func11,Tryz.ntmps11
  go_wp2_with fail
  refine(HWk.out _).mono ?_;rintro _ w2 ⟨rfl,hF⟩;have HF:=qB (HFA.out.trans' hF);clear hF HFA;go_wp2_with fail
  go_ret;exact⟨rfl,HF.out.below (by simp)⟩};have d0:decide ((len:Int)>40)=false:=qK (by omega);have d1:¬40<len:=by omega
 have d2:decide ((lm:Int)>20)=false:=qK (by omega);have d3:¬20<lm:=by omega
 have r0:=hb.cell 0;have r1:=hb.cell 1;have r2:=hb.cell 2;have r3:=hb.cell 3;simp only[zS,zT]at r0 r1 r2 r3;have HW0:=qB (show Wd W (W.alloc (.cells #[.int .i64 m,.int .i64 E,.int .i64 V,.int .i64 D] 55)) [thB W.heap.size 55 [.int .i64 m,.int .i64 E,.int .i64 V,.int .i64 D]] from
   (Wd.begin W).new (K:=[W.heap.size]) hFA ⟨hb,rfl⟩ (fun q hq=>Nat.le_of_eq (qP.1 hq).symm))
 have hFA2:Fr [] W ((W.alloc (.cells #[.int .i64 m,.int .i64 E,.int .i64 V,.int .i64 D] 55)).alloc (.cells #[] 42)):=hFA.alloc _;have HZ:=qB hzm;have HL:=qB (show l.length=len/\RcW W a l/\(∀r∈l,r.ok)/\(a=none->cap=0)/\len<=40/\lm<=20 from⟨hz.1,hz.2.1,hz.2.2.1,hz.2.2.2.2,by omega,by omega⟩);have HRc:=qB (HL.out.2.1.fr hFA2);have HB2:=qB (show Blk ((W.alloc (.cells #[.int .i64 m,.int .i64 E,.int .i64 V,.int .i64 D] 55)).alloc (.cells #[] 42)) (W.heap.size+1) 42 [] by
   have k:=Blk.new (W.alloc (.cells #[.int .i64 m,.int .i64 E,.int .i64 V,.int .i64 D] 55)) [] 42;rw[World.size_alloc]at k;exact k)
 have r0' :=hFA2;have HU:=qB (show g<18446744073709551616/\ -9223372036854775808<=now/\now<=9223372036854775807/\m<=9223372036854775807 from⟨hg,hn.1,hn.2,hzc.2⟩);have HR0:=qB (show ∀w', Fr [W.heap.size+1] ((W.alloc (.cells #[.int .i64 m,.int .i64 E,.int .i64 V,.int .i64 D] 55)).alloc (.cells #[] 42)) w' -> Fr [] (W.alloc (.cells #[.int .i64 m,.int .i64 E,.int .i64 V,.int .i64 D] 55)) w' from fun w' hf=>
   ((Fr.refl [] _).alloc _).trans hf (fun b hb=>.inr (by rw[qP.1 hb];simp)))
 clear hz hzm hzc w2 hnw hn hg hb hFA hFA2 hbig r0';go_enter Tryz.func11,Tryz.ntmps11
 go_wp2_with (first|(at_builtin;go_loud (refine aFM rfl (.tmp 28) (.tmp 29) rfl (W.heap.size+1) rfl HB2.out a cap len l rfl HL.out.1.symm HRc.out HL.out.2.2.2.1 (by have:=HL.out;omega) ?_);intro vi w3 hr3 hF3 hq3;have r0:=(HR0.out _ hF3).cell r0 (by simp);have r1:=(HR0.out _ hF3).cell r1 (by simp);have r2:=(HR0.out _ hF3).cell r2 (by simp);have r3:=(HR0.out _ hF3).cell r3 (by simp);obtain⟨av,cv,hvi⟩:∃av cv,vi=.slice av len cv:=(by obtain⟨av,cv,e⟩:=hr3.slice;exact⟨av,cv,by rw[e,HL.out.1]⟩);subst hvi)|fail)
 have HW3:=qB (show Wd W w3 [thR (.slice av len cv) l,thB W.heap.size 55 [.int .i64 m,.int .i64 E,.int .i64 V,.int .i64 D]] from
   HW0.out.new (HR0.out _ hF3) ⟨hr3,rfl⟩ (fun q hq=>by
     rcases hq3 q (by simpa using hq) with e|e
     · rw[e];simp
     · simp only[World.size_alloc]at e ⊢;omega))
 have H:=bBG HW3.out m E V D now g av cv l HU.out.1 HU.out.2.1 HU.out.2.2.1 HU.out.2.2.2 (by have:=HL.out;omega) (by have h1:=HW3.out.rowR;rw[<-HL.out.1]at h1;exact h1.rc) HL.out.2.2.1;rw[HL.out.1]at H;have H:=qB H;clear hr3 hF3 hq3 HB2 HRc HR0 HW0 r0 r1 r2 r3;obtain⟨R,hR⟩:∃R,R=iP m E V D now g l:=⟨_,rfl⟩;have HEq:=qB hR;rw[<-hR]at H;clear hR;refine H.out.mono ?_;rintro _ w4 ⟨v,rfl,hW⟩;obtain⟨r0,r1,r2,r3⟩:=hW.drop.drop.cfg4;have H:=bBH hW m E V D now g a cap l HU.out.1 HU.out.2.2.1 HU.out.2.2.2 (by have:=HL.out;omega) HL.out.2.1 HL.out.2.2.1;rw[HL.out.1,<-HEq.out]at H;have H:=qB H;clear hW HW3;go_wp2_with fail
 refine H.out.mono ?_;rintro _ w5 ⟨d,rfl,hW⟩;have HW5:=qB (show Wd W w5 [thN thO v R,thN thF d R,thX (.slice av len cv) l 0] from hW.fourth.drop.third.toX.back3.swap);obtain⟨pv,pd,rfl,rfl,hpp⟩:∃pv pd:Option Addr,v=.pointer pv/\d=.pointer pd/\(pv.isNone == pd.isNone)=true:=by {
 rcases HW5.out.ptr with⟨e1,e2⟩|⟨p,o,e1,e2⟩
 {
 rcases HW5.out.swap.ptr with⟨f1,f2⟩|⟨q,o', f1,f2⟩
 · exact⟨_,_,e1,f1,rfl⟩
 · rw[e2]at f2;cases f2}
 {
 rcases HW5.out.swap.ptr with⟨f1,f2⟩|⟨q,o', f1,f2⟩
 · rw[e2]at f2;cases f2
 · exact⟨_,_,e1,f1,rfl⟩}};have hcc:(aFN R == aFN R)=true:=beq_self_eq_true _;clear H r0 r1 r2 r3 HEq hW;generalize aFN R=cR at *;go_wp2_with fail
 go_loopw [17] (fun i wr=>∃k:Nat,k<=len/\i=.int .i64 k/\Hid (Wd W wr [thN thO (.pointer pv) R,thN thF (.pointer pd) R,thX (.slice av len cv) l k])) (fun i _=>len-(intOf i).toNat)
 case atStart=>exact⟨0,zB _,rfl,HW5⟩
 case round=>
  clear HW5;obtain⟨k,hk,rfl,HP⟩:=hrel;by_cases hlt:k<len
  {
  have hlt' :(k:Int)<len:=by omega
  have hk0:(0:Int)<=k:=by omega
  have hw1:IntKind.i64.wrap ((k:Int)+1)=((k+1:Nat):Int):=by rw[show(k:Int)+1=((k+1:Nat):Int) by omega];exact zP _ (by have:=HL.out;omega)
  have hkl:k<l.length:=by rw[HL.out.1];exact hlt
  obtain⟨Kx,⟨eK,hK,hx⟩,hs⟩:=HP.out.third.open;obtain⟨bx,cx,ev,fz,x0,x1,x2,x3⟩:=hx k hkl (qS _);obtain⟨b', off,ea,_,c0,c1,c2,c3⟩:=(HL.out.2.1.fr HP.out.frm) k hkl;generalize l[k]'hkl=r at *;obtain⟨u,v,wt,t⟩:=r;simp only at x0 x1 x2 x3 c0 c1 c2 c3;subst ea;simp only[qY]at ev;obtain⟨rfl,_,rfl⟩:=ev;have hrq:(!aRB u v u v wt t wt t)=false:=by rw[aAD];rfl
  have z0:=fz (k*4);have z1:=fz (k*4+1);have z2:=fz (k*4+2);have z3:=fz (k*4+3);have HX:=qB (show(thX (.slice (some ⟨bx,0,none⟩) len cv) l k).P wr Kx from⟨eK,hK,hx⟩);have HS:=qB (fun(w' :World) (t' :Th) (h:Stp wr w' Kx t')=>hs h);clear eK hK hx hs fz;go_wp2_with fail
  go_quiet (fail)
  go_wp2_with fail
  have HN:=qB (show Wd W (((((wr.drewN nq).setCell ⟨bx,k*4,none⟩ (.int .u64 0)).setCell ⟨bx,k*4+1,none⟩ (.int .u64 0)).setCell ⟨bx,k*4+2,none⟩ (.int .i64 0)).setCell ⟨bx,k*4+3,none⟩ (.int .i64 0)) [thN thO (.pointer pv) R,thN thF (.pointer pd) R,thX (.slice (some ⟨bx,0,none⟩) len cv) l (k+1)] from
    (HS.out _ _ ⟨Kx,bBI hkl ((thX _ l k).fr HX.out (Fr.of_drewN37 wr nq) (by simp)),((Fr.refl Kx wr).drewN nq).trans' (aKA rfl HX.out.1 k),fun q hq=>.inl hq⟩).back3)
  clear HX HS x0 x1 x2 x3 c0 c1 c2 c3 z0 z1 z2 z3;go_roundw
  case rel=>exact⟨k+1,by omega,by go_num,HN⟩
  case measure=>simp[intOf];omega}
  {
  obtain rfl:k=len:=by omega
  have H:=qB (aJY HP.out HP.out.qok 1 2 (by decide) (by decide));clear HP;go_wp2_with fail
  refine H.out.mono ?_;rintro _ w6 ⟨rfl,hW⟩;have H6:=qB (show Wd W w6 [thN thO (.pointer pv) R,thN thF (.pointer pd) R] from hW.drop3);clear hW H;go_wp2_with fail
  go_loopw [12,14,16,18] (fun x y r i wr=>∃(k:Nat) (so:Option Ob),k<=lm/\i=.int .i64 k/\r=.bool true/\Hid (Wd W wr [thN thO x so,thN thF y so])) (fun _ _ _ i _=>lm-(intOf i).toNat)
  case atStart=>exact⟨0,R,zB _,rfl,rfl,H6⟩
  case round=>
   clear H6;obtain⟨k,so,hk,rfl,rfl,HP⟩:=hrel;rename World=>wr
   by_cases hlt:k<lm
   {
   have hlt' :(k:Int)<lm:=by omega
   have hw1:IntKind.i64.wrap ((k:Int)+1)=((k+1:Nat):Int):=by rw[show(k:Int)+1=((k+1:Nat):Int) by omega];exact zP _ (by have:=HL.out;omega)
   have HQ:=qB (show ∀w', Fr [] W w' -> ∃b off,am=some ⟨b,off,none⟩/\w'.cell? ⟨b,off+k*5+1,none⟩=some (.int .u64 (z k).2.1)/\w'.cell? ⟨b,off+k*5+2,none⟩=some (.int .u64 (z k).2.2.1) from fun w' hF=>by
     obtain⟨b,off,e,_,_,q1,q2,_⟩:=(HZ.out.fr hF).2 k hlt;exact⟨b,off,e,q1,q2⟩)
   obtain⟨b,off,ea,hb,q0,q1,q2,q3,q4,x1,x2,x3,x4⟩:=(HZ.out.fr HP.out.frm).2 k hlt;subst ea;have HX:=qB (zR x1 x2);generalize z k=zk at *;obtain⟨dd,eu,ev,wt,t⟩:=zk;simp only at q0 q1 q2 q3 q4 x1 x2 x3 x4 HX HQ;have HA:=qB (bBF HP.out dd eu ev x1 x2 wt t x3 x4);clear HP x1 x2 x3 x4;go_wp2_with fail
   refine HA.out.mono ?_;rintro _ w3 ⟨x', y', so', rfl,hok,hW⟩;have HW:=qB (zR hok hW);clear hW hok HA q0 q1 q2 q3 q4;go_wp2_with fail
   refine dJ (fun w' =>Wd W w' [thN thO x' so', thN thF y' so']) (by kernel_rfl) (by kernel_rfl) (HW.out.2.fr0 (Fr.refl [] w3).drew) ?_;iterate 9 (refine aE (by kernel_rfl) (fun KK hK=>?_);go_simp;refine hK.out _ ?_;clear hK KK)
   refine aU (by kernel_rfl) (.int .u64 eu) (fun w' hw' =>?_) ?_
   {
   obtain⟨b', off', e,q1,q2⟩:=HQ.out _ hw'.frm;cases e;go_simp;first|exact hw' | exact⟨rfl,hw'⟩|skip};iterate 5 (refine aE (by kernel_rfl) (fun KK hK=>?_);go_simp;refine hK.out _ ?_;clear hK KK)
   refine aU (by kernel_rfl) (.int .u64 ev) (fun w' hw' =>?_) ?_
   {
   obtain⟨b', off', e,q1,q2⟩:=HQ.out _ hw'.frm;cases e;go_simp;first|exact hw' | exact⟨rfl,hw'⟩|skip};refine aU (by kernel_rfl) (.bool true) (fun w' hw' =>?_) ?_
   {
   go_simp;refine(aJY hw' HW.out.1 eu ev HX.out.1 HX.out.2).mono ?_;rintro _ w6 ⟨rfl,h1⟩;exact⟨rfl,h1⟩};iterate 2 (refine aE (by kernel_rfl) (fun KK hK=>?_);go_simp;refine hK.out _ ?_;clear hK KK)
   refine iJ ?_;intro w6 h6;have H6:=qB h6;clear HW h6;go_wp2_with fail
   go_roundw
   case rel=>exact⟨k+1,so', by omega,rfl,rfl,H6⟩
   case measure=>simp[intOf];omega}
   {
   obtain rfl:k=lm:=by omega
   have HF:=qB HP.out.frm;clear HP;go_wp2_with fail
   refine(HWk.out _).mono ?_;rintro _ w6 ⟨rfl,hB⟩;have HF:=qB (HF.out.trans' hB);clear hB;go_wp2_with fail
   go_ret;exact⟨rfl,HF.out.below (by simp)⟩}}
end Go.Proofs.YtgmnemndjjmgkaaGreat
namespace Go.Proofs.YtgmnemndjjmgkaaGreat.windowRestores
open Go.ChangeShapes Go.WideShapes Go.ChangeAt Go.RowKit
set_option linter.unusedVariables false
theorem own:ownKnob Tryz.prog.godebug=none:=by kernel_rfl
theorem laidOut:laidOutB Tryz.prog=true:=by kernel_rfl
set_option maxRecDepth 100000 in
theorem lifted(os:Os)(started:os.Started)(H:Type)(enc:TypeId×Value->H):
    ReturnsInHanded {} Tryz.checked os 11 .any (Rows.windowRestoresSpec.pre6 enc Tryz.prog Tryz.f11 Rows.windowRestoresRow.domain false) (Rows.windowRestoresSpec.post enc Tryz.prog Tryz.f11 false true false false):=by
 refine returnsInHanded_of_change (C := Tryz.checked) own started (by kernel_rfl) Tryz.func11
   (ChangeSpec.witness6 (enc:=enc) (C:=Tryz.checked) false ⟨#[],#[.agg #[.int .i64 0,.int .i64 0,.int .i64 0,.int .i64 0],.int .i64 0,.int .u64 0,.slice none 0 0,.slice none 0 0],[]⟩ 8 (by kernel_rfl) (by kernel_rfl) (by kernel_rfl) (by kernel_rfl)) ?_
 intro W base args ds gs before hval0 hW hcnd _;have hval:∀(j:Nat) t v,Tryz.f11.params[j]? =some t->args[j]? =some v->Value.okWide Tryz.prog W .any base t v:=hval0;have hW' :=hW;obtain⟨p,q,hA0,hV,rfl,hfz,hnd⟩:=hW;have hA:DataW.TrodAll enc Tryz.prog W 0 (fun _=>true) true Tryz.f11.params.toList args.toList ds p:=hA0;rw[Tryz.params11]at hA hval;obtain⟨v0,vs0,d0,ds0,p0,q0,hargs,rfl,rfl,h0,r0⟩:=trodAll_cons hA;obtain⟨v1,vs1,d1,ds1,p1,q1,rfl,rfl,rfl,h1,r1⟩:=trodAll_cons r0;obtain⟨v2,vs2,d2,ds2,p2,q2,rfl,rfl,rfl,h2,r2⟩:=trodAll_cons r1;obtain⟨v3,vs3,d3,ds3,p3,q3,rfl,rfl,rfl,h3,r3⟩:=trodAll_cons r2;obtain⟨v4,vs4,d4,ds4,p4,q4,rfl,rfl,rfl,h4,r4⟩:=trodAll_cons r3;obtain⟨rfl,rfl,rfl⟩:=trodAll_nil r4;obtain rfl:args=#[v0,v1,v2,v3,v4]:=by cases args;simp_all
 obtain⟨rfl,rfl⟩:=trodVars_none hV;have k0:=h0;have lt0:∀x∈p0,x.block<W.heap.size:=by obtain⟨m,hm⟩:=k0;exact DataW.trod_lt m _ _ _ hm
 obtain⟨z0,rfl,w0⟩:=aSQ (hval 0 55 v0 rfl rfl) h0;obtain⟨a1,rfl,rfl,rfl,w1⟩:=open_int Tryz.underlying2 (hval 1 2 v1 rfl rfl) h1;obtain⟨a2,rfl,rfl,rfl,w2⟩:=open_int Tryz.underlying26 (hval 2 26 v2 rfl rfl) h2;obtain⟨a3,len3,cap3,rfl⟩:=okWide_slice Tryz.underlying67 (hval 3 67 v3 rfl rfl);have k3:=h3;have lt3:∀x∈p3,x.block<W.heap.size:=by obtain⟨m,hm⟩:=k3;exact DataW.trod_lt m _ _ _ hm
 obtain⟨z3,w3⟩:=aMW h3;obtain⟨a4,len4,cap4,rfl⟩:=okWide_slice Tryz.underlying73 (hval 4 73 v4 rfl rfl);have k4:=h4;have lt4:∀x∈p4,x.block<W.heap.size:=by obtain⟨m,hm⟩:=k4;exact DataW.trod_lt m _ _ _ hm
 obtain⟨z4,w4⟩:=aFL h4;clear hA0 hval0;refine(walk_windowRestores W z0 w0 a1 w1 a2 w2 a3 len3 cap3 z3 w3 a4 len4 cap4 z4 w4).mono fun e W' ⟨he,bel⟩=>?_;subst he;exact⟨_,rfl,_,_,_,[],_,[],hW', trodAll_mk1 (shut_bool Tryz.underlying4 _),(trodAll_cons_mk (Below.trod laidOut (by kernel_rfl) (of_decide_eq_true (by kernel_rfl)) k0 bel lt0) (trodAll_cons_mk (shut_int Tryz.underlying2 w1) (trodAll_cons_mk (shut_int Tryz.underlying26 w2) (trodAll_cons_mk (Below.trod laidOut (by kernel_rfl) (of_decide_eq_true (by kernel_rfl)) k3 bel lt3) (trodAll_cons_mk (Below.trod laidOut (by kernel_rfl) (of_decide_eq_true (by kernel_rfl)) k4 bel lt4) trodAll_mk0))))),rfl,bel.frame _,fun h=>by cases h⟩
theorem over:Rows.windowRestoresRow.holds Tryz.pinned (OpenSpec.ofChange Rows.windowRestoresSpec):=
  OpenClaim.holds_of_wide 11 Tryz.f11 rfl rfl rfl rfl rfl rfl rfl ⟨rfl, rfl, rfl, rfl, rfl⟩ rfl rfl rfl rfl rfl (by kernel_rfl) Tryz.func11 (by kernel_rfl)
    (of_decide_eq_true (by kernel_rfl)) (by unfold Func.isWrapper;first|(rw[qI (by decide +kernel)];kernel_rfl)|(rw[qH (by decide +kernel)];exact⟨rfl,rfl⟩))
    (fun os started H enc _=>lifted os started H enc)
end Go.Proofs.YtgmnemndjjmgkaaGreat.windowRestores
namespace Go.Proofs.YtgmnemndjjmgkaaGreat
theorem windowRestores_holds:Rows.WindowRestoresSaid:=windowRestores.over
#print axioms windowRestores_holds
end Go.Proofs.YtgmnemndjjmgkaaGreat
