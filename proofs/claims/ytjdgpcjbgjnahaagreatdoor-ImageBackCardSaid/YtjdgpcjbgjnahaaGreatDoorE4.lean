/- store: Check. -/
import Derived.Sort.Walk13
import Derived.Sort.AssemblyPlain
import Derived.Deep.Cut
import Derived.Test.YtjdgpcjbgjnahaaGreatDoorE3
import Derived.Test.YtjdgpcjbgjnahaaGreatDoorE2
import Derived.Deep.RegionHeld3
import Derived.Shelf.SlGeneric
import Derived.Ground.SlgnProg
import Derived.Shelf.SlicesE.Clone
import Derived.Test.YtjdgpcjbgjnahaaGreatDoorE1
import Derived.Deep.Quiet
set_option maxRecDepth 100000
set_option maxHeartbeats 6400000
set_option linter.unusedSimpArgs false
set_option linter.unusedVariables false
/- slices.Sort at uint64: pdqsortOrdered. -/
namespace Go.Proofs.YtjdgpcjbgjnahaaGreatDoor
open Go.RowKit Go.Sort
structure PdqR (d:Array Int) (a b lim:Nat) (wb wp:Bool) (R:Rd Int):Prop where
  bal:wb=true->R.d1=d/\R.lim=lim
  unb:wb=false->R.d1=breakPatterns d a b/\R.lim=lim-1
  c:R.c=choosePivot ltInt R.d1 a b
  dec:R.c.2=.decreasing->R.d2=reverseRange R.d1 a b/\R.pivot=(b-1)-(R.c.1-a)/\R.hint=.increasing
  ndec:R.c.2≠.decreasing->R.d2=R.d1/\R.pivot=R.c.1/\R.hint=R.c.2
  yes:(wb&&wp&&decide (R.hint=.increasing))=true->R.pi=partialInsertionSort ltInt R.d2 a b
  no:(wb&&wp&&decide (R.hint=.increasing))=false->R.pi=(R.d2,false)
  s1:R.d1.size=d.size
  c1:a<=R.c.1/\R.c.1<b
  s2:R.d2.size=d.size
  pv:a<=R.pivot/\R.pivot<b
  s3:R.pi.1.size=d.size
  B3:Sort.Below ltInt a b R.pi.1
  lm:R.lim<=lim
  done:R.pi.2=true->pdq ltInt d a b lim wb wp=R.pi.1
  eq:R.pi.2=false->(decide (a>0)&&!ltInt R.pi.1[a-1]! R.pi.1[R.pivot]!)=true->∀mid d4,partitionEqual ltInt R.pi.1 a b R.pivot=(mid,d4)->a<mid/\mid<=b->pdq ltInt d a b lim wb wp=pdq ltInt d4 mid b R.lim wb wp
  left:R.pi.2=false->(decide (a>0)&&!ltInt R.pi.1[a-1]! R.pi.1[R.pivot]!)=false->∀mid ap d4,partition ltInt R.pi.1 a b R.pivot=(mid,ap,d4)->a<=mid/\mid<b->mid-a<b-mid ->
    pdq ltInt d a b lim wb wp=pdq ltInt (pdq ltInt d4 a mid R.lim true true) (mid+1) b R.lim (decide (mid-a≥(b-a)/8)) ap
  right:R.pi.2=false->(decide (a>0)&&!ltInt R.pi.1[a-1]! R.pi.1[R.pivot]!)=false->∀mid ap d4,partition ltInt R.pi.1 a b R.pivot=(mid,ap,d4)->a<=mid/\mid<b->¬mid-a<b-mid ->
    pdq ltInt d a b lim wb wp=pdq ltInt (pdq ltInt d4 (mid+1) b R.lim true true) a mid R.lim (decide (b-mid≥(b-a)/8)) ap
theorem aIQ{d:Array Int}{a b lim:Nat}(wb wp:Bool)(h12:¬b-a<=12)(hl:¬lim=0)(hb:b<=d.size)(hB:Sort.Below ltInt a b d):∃R,PdqR d a b lim wb wp R:=by
 obtain⟨s1,_,hc1,s2,_,hpv,s3,B3⟩:=rd_facts (limit:=lim) (wb:=wb) (wp:=wp) swo_ltInt partialInsertionSort_holds reverseRange_holds (show a<b by omega) hb hB;refine⟨rd ltInt d a b lim wb wp,?_,?_,rd_c,rd_dec,rd_not,rd_pi_yes,rd_pi_no,s1,hc1,s2,hpv,s3,B3,rd_lim_le,pdq_done h12 hl,?_,?_,?_⟩
 · rintro rfl;exact rd_true
 · rintro rfl;exact rd_false
 {
 intro h1 h2 mid d4 hx h3;have:=pdq_eq (wb:=wb) (wp:=wp) h12 hl h1 h2 (by rw[hx];exact h3);rw[hx]at this;exact this}
 {
 intro h1 h2 mid ap d4 hx h3 h4;have:=pdq_left (wb:=wb) (wp:=wp) h12 hl h1 h2 (by rw[hx];exact h3) (by rw[hx];exact h4);rw[hx]at this;exact this}
 {
 intro h1 h2 mid ap d4 hx h3 h4;have:=pdq_right (wb:=wb) (wp:=wp) h12 hl h1 h2 (by rw[hx];exact h3) (by rw[hx];exact h4);rw[hx]at this;exact this}
theorem aXC{w:World}{blk off cap n:Nat}(hsz:n<4611686018427387904):∀(N a b limit:Nat) (d:Array Int) (wr:World),b-a<N->SR w wr blk off d->d.size=n->a<=b->b<=n->limit<4611686018427387904->Sort.Below ltInt a b d ->
    Calls Tryz.prog 223 #[.slice (some ⟨blk,off,none⟩) n cap,.int .i64 a,.int .i64 b,.int .i64 limit] wr fun e w' =>e=.returned (.tuple #[])/\SR w w' blk off (pdq ltInt d a b limit true true):=by
 intro N;induction N with
 | zero=>intro _ _ _ _ _ h;exact absurd h (Nat.not_lt_zero _)
 | succ N ih=>{
 intro a b limit d wr hN hS hn hab hb hlimit hBel0;have IH:=qA ih;clear ih;have HS:=qA hS;clear hS;have HB:=qA hBel0;clear hBel0;obtain⟨res,hres⟩:∃res,pdq ltInt d a b limit true true=res:=⟨_,rfl⟩;rw[hres];have HR0:=qA hres;clear hres;go_enter Tryz.func223,Tryz.ntmps223
 go_wp2
 go_loopg [1,2,3,8,9] (b-a) (fun k s1 s2 s3 s8 s9 wr=>∃(x y lim:Nat) (wb wp:Bool) (dk:Array Int),s1=.int .i64 x/\s2=.int .i64 y/\s3=.int .i64 lim/\s8=.bool wb/\s9=.bool wp /\
   x<=y/\y<=n/\y-x<=k/\k<=b-a/\lim<=limit/\dk.size=n/\Hid (Sort.Below ltInt x y dk)/\Hid (SR w wr blk off dk)/\Hid (pdq ltInt dk x y lim wb wp=res))
 case atStart=>exact⟨a,b,limit,true,true,d,rfl,rfl,rfl,rfl,rfl,hab,hb,qK _,qK _,qK _,hn,HB,HS,HR0⟩
 case round=>
  clear HB HS HR0;obtain⟨x,y,lim,wb,wp,dk,rfl,rfl,rfl,rfl,rfl,hxy,hy,hk,hkN,hlim,hsk,HB,HS,HR⟩:=hrel;by_cases h12:y-x<=12
  {
  have h12z:(y:Int)-(x:Int)<=12:=by omega
  have HC:=aWY (cap:=cap) HS.out hxy (by omega) (by omega);rw[hsk]at HC;have HC:=qA HC;go_wp2_with (go_at_call 234;refine HC.out.mono ?_;rintro e w1 ⟨rfl,hw1⟩)
  (try simp only[Exit.inBlock,Exit.then]);refine bodyPost_ret (results_none rfl _ _ _) rfl ?_
  exact⟨rfl,by rw[<-HR.out,pdq_small h12];exact hw1⟩}
  {
  have h12z:¬((y:Int)-(x:Int)<=12):=by omega
  by_cases hl0:lim=0
  {
  subst hl0;have HC:=qA (aTT (cap:=cap) HS.out hsk hxy hy hsz);go_wp2_with (go_at_call 235;refine HC.out.mono ?_;rintro e w1 ⟨rfl,hw1⟩)
  (try simp only[Exit.inBlock,Exit.then]);refine bodyPost_ret (results_none rfl _ _ _) rfl ?_
  exact⟨rfl,by rw[<-HR.out,pdq_heap h12 rfl];exact hw1⟩}
  {
  have hl0z:¬((lim:Int)=0):=by omega
  obtain⟨R,hP⟩:=aIQ wb wp h12 hl0 (show y<=dk.size by omega) HB.out;have hc1:=hP.c1;have hpv:=hP.pv;have hlm:=hP.lm;have PR:=qA hP;clear hP;have hs1:R.d1.size=n:=by rw[PR.out.s1];exact hsk
  have hs2:R.d2.size=n:=by rw[PR.out.s2];exact hsk
  have hs3:R.pi.1.size=n:=by rw[PR.out.s3];exact hsk
  go_upto_if 35 with fail
  go_cut [3] from 19 (fun s3 wc=>s3=.int .i64 R.lim/\Hid (SR w wc blk off R.d1))
  case first=>
   cases wb
   {
   have HC:=qA (aQD (cap:=cap) HS.out hsk hxy hy hsz);go_wp2_with (go_at_call 236;refine HC.out.mono ?_;rintro e w1 ⟨rfl,hw1⟩)
   go_meet
   case rel=>
    obtain⟨e1,e2⟩:=PR.out.unb rfl;exact⟨by rw[e2];congr 1;omega,qA (by rw[e1];exact hw1)⟩}
   {
   go_wp2_with fail
   go_meet
   case rel=>
    obtain⟨e1,e2⟩:=PR.out.bal rfl;exact⟨by rw[e2],by rw[e1];exact HS⟩}
  case rest=>
   clear HS;obtain⟨rfl,HS1⟩:=hcut;have HC:=aQC (cap:=cap) HS1.out hs1 (show x<y by omega) hy hsz;rw[<-PR.out.c]at HC;have HC:=qA HC;go_upto_if 50 with(go_at_call 237;refine HC.out.mono ?_;rintro e w2 ⟨rfl,hw2⟩)
   have HS2:=qA hw2;clear hw2 HC HS1;go_cut [11,12] from 19 (fun s11 s12 wc=>s11=.int .i64 R.pivot/\s12=.int .i64 (hintCode R.hint)/\Hid (SR w wc blk off R.d2))
   case first=>
    by_cases hh:R.c.2=.decreasing
    {
    have hcode:hintCode R.c.2=2:=by rw[hh];rfl
    have HC:=qA (aWZ (cap:=cap) HS2.out hs1 hxy hy hsz);go_wp2_with (go_at_call 238;refine HC.out.mono ?_;rintro e w3 ⟨rfl,hw3⟩)
    go_meet
    case rel=>
     obtain⟨e1,e2,e3⟩:=PR.out.dec hh;exact⟨by rw[e2];congr 1;omega,by rw[e3];rfl,qA (by rw[e1];exact hw3)⟩}
    {
    have hcode:¬(hintCode R.c.2=2):=fun h=>hh (hintCode_two h);go_wp2_with fail
    go_meet
    case rel=>
     obtain⟨e1,e2,e3⟩:=PR.out.ndec hh;exact⟨by rw[e2],by rw[e3],by rw[e1];exact HS2⟩}
   case rest=>
    clear HS2;obtain⟨rfl,rfl,HS3⟩:=hcut;go_upto_region 15 with fail
    go_cut [12,68] from 19 (fun s12 s68 wx=>s12=.int .i64 (hintCode R.hint)/\s68=.bool (wb&&wp&&decide (R.hint=.increasing))/\wx=wc)
    case first=>
     cases wb <;> cases wp <;> cases hh3 : R.hint <;>
       (have hcode3 := congrArg hintCode hh3
        simp only[hintCode]at hcode3;go_wp2_with fail
        go_meet
        exact⟨by simp[hh3,hintCode],by simp[hh3,hintCode],rfl⟩)
    case rest=>
     obtain⟨rfl,rfl,rfl⟩:=hcut;go_upto_if 68 with fail
     go_cut [] from 19 (fun wx=>R.pi.2=false/\Hid (SR w wx blk off R.pi.1))
     case first=>
      cases h68:(wb&&wp&&decide (R.hint=.increasing))
      {
      go_wp2_with fail
      go_meet
      case rel=>
       have e1:=PR.out.no h68;exact⟨by rw[e1],by rw[e1];exact HS3⟩}
      {
      have HC:=aTW (cap:=cap) HS3.out hs2 (show x<y by omega) hy hsz;rw[<-PR.out.yes h68]at HC;have HC:=qA HC;cases hpi:R.pi.2 with
      | false=>{
      rw[hpi]at HC;go_wp2_with (go_at_call 239;refine HC.out.mono ?_;rintro e w4 ⟨rfl,hw4⟩)
      go_meet
      case rel=>exact⟨hpi,qA hw4⟩}
      | true=>{
      rw[hpi]at HC;go_wp2_with (go_at_call 239;refine HC.out.mono ?_;rintro e w4 ⟨rfl,hw4⟩)
      (try simp only[Exit.inBlock,Exit.then]);refine bodyPost_ret (results_none rfl _ _ _) rfl ?_
      exact⟨rfl,by rw[<-HR.out,PR.out.done hpi];exact hw4⟩}}
     case rest=>
      clear HS3;obtain⟨hp2,HS5⟩:=hcut;have Hp2:=qA hp2;clear hp2;obtain⟨G,hG⟩:∃G:Nat->Int,∀t,R.pi.1[t]! =G t:=⟨fun t=>R.pi.1[t]!,fun _=>rfl⟩;have HG:=qA hG;clear hG;obtain⟨x0,hx0⟩:∃x0:Nat,x0=x-1:=⟨_,rfl⟩;have Hx0:=qA hx0;clear hx0;go_upto_region 17 with fail
      go_cut [87] from 19 (fun s87 wx=>s87=.bool (decide (x>0)&&!ltInt (G x0) (G R.pivot))/\Hid (SR w wx blk off R.pi.1))
      case first=>
       rcases Nat.eq_zero_or_pos x with ha0|ha0
       {
       have ha0z:decide ((x:Int)>0)=false:=qF (by omega);go_big_quiet (first|(go_at_call 240;refine qJ (eC _ _ _)))
       go_wp2_with fail
       go_meet
       case rel=>exact⟨by simp[ha0],qA (HS5.out.drewN nq)⟩}
       {
       have ha0z:(x:Int)>0:=by omega
       have wx0:IntKind.i64.wrap ((x:Int)-1)=(x0:Int):=jF (by have:=Hx0.out;omega) (by have:=Hx0.out;omega);have c1:wc.cell? ⟨blk,off+x0,none⟩=some (.int .u64 (G x0)):=by rw[HS5.out.cell (by have:=Hx0.out;omega),HG.out]
       have c2:wc.cell? ⟨blk,off+R.pivot,none⟩=some (.int .u64 (G R.pivot)):=by rw[HS5.out.cell (by omega),HG.out]
       have n1:(x0:Int)<n:=by have:=Hx0.out;omega
       have n2:(R.pivot:Int)<n:=by omega
       go_big_quiet (first|(go_at_call 240;refine qJ (eC _ _ _)))
       go_wp2_with fail
       go_meet
       case rel=>exact⟨by simp[ha0],qA (HS5.out.drewN nq)⟩}
      case rest=>
       clear HS5;obtain⟨rfl,HS6⟩:=hcut;have h87e:(decide (x>0)&&!ltInt R.pi.1[x-1]! R.pi.1[R.pivot]!)=(decide (x>0)&&!ltInt (G x0) (G R.pivot)):=by rw[HG.out,HG.out,Hx0.out]
       have H87:=qA h87e;clear h87e;cases h87:(decide (x>0)&&!ltInt (G x0) (G R.pivot))
       {
       obtain⟨mid,ap,d4,hx⟩:∃mid ap d4,partition ltInt R.pi.1 x y R.pivot=(mid,ap,d4):=⟨_,_,_,rfl⟩;obtain⟨r1,r2,r3,r4,r5,r6,r7⟩:=round_part swo_ltInt (partition_holds ltInt) hpv.1 hpv.2 (show y<=R.pi.1.size by omega) PR.out.B3 hx;have HC:=aTV (cap:=cap) HS6.out hs3 hpv.1 hpv.2 hy hsz;rw[hx]at HC;have HC:=qA HC;have HX:=qA hx;clear hx;have hs4:d4.size=n:=by rw[r3];exact hs3
       go_upto_if 113 with(go_at_call 242;refine HC.out.mono ?_;rintro e w7 ⟨rfl,hw7⟩)
       have HS7:=qA hw7;clear hw7 HC HS6;by_cases h4:mid-x<y-mid
       {
       have h4z:(mid:Int)-(x:Int)<(y:Int)-(mid:Int):=by omega
       have HC:=qA (IH.out x mid R.lim d4 w7 (by omega) HS7.out hs4 (by omega) (by omega) (by omega) r4);obtain⟨pL,sL⟩:=pdq_sorts ltInt swo_ltInt d4 x mid R.lim true true (by omega) (by omega) r4;have HL:=qA (PR.out.left Hp2.out (H87.out.trans h87) mid ap d4 HX.out ⟨r1,r2⟩ h4);have HBn:=qA (r6 _ pL sL).1;have hsn:(pdq ltInt d4 x mid R.lim true true).size=n:=by rw[pL.1];exact hs4
       clear r4 r5 r6 r7 pL sL r3;generalize pdq ltInt d4 x mid R.lim true true=d5 at *;go_wp2_with (go_at_call 223;refine HC.out.mono ?_;rintro e w8 ⟨rfl,hw8⟩)
       go_roundg (y-(mid+1))
       case measure=>omega
       case rel=>
        refine⟨mid+1,y,R.lim,decide (mid-x≥(y-x)/8),ap,d5,by simp,rfl,rfl,?_,rfl,by omega,by omega,qK _,by omega,by omega,hsn,HBn,qA hw8,qA ?_⟩
        · exact congrArg Value.bool (eighth (by omega) (by omega))
        · rw[<-HR.out,HL.out]}
       {
       have h4z:¬((mid:Int)-(x:Int)<(y:Int)-(mid:Int)):=by omega
       have HC:=qA (IH.out (mid+1) y R.lim d4 w7 (by omega) HS7.out hs4 (by omega) (by omega) (by omega) r5);obtain⟨pL,sL⟩:=pdq_sorts ltInt swo_ltInt d4 (mid+1) y R.lim true true (by omega) (by omega) r5;have HL:=qA (PR.out.right Hp2.out (H87.out.trans h87) mid ap d4 HX.out ⟨r1,r2⟩ h4);have HBn:=qA (r7 _ pL sL).1;have hsn:(pdq ltInt d4 (mid+1) y R.lim true true).size=n:=by rw[pL.1];exact hs4
       clear r4 r5 r6 r7 pL sL r3;generalize pdq ltInt d4 (mid+1) y R.lim true true=d5 at *;go_wp2_with (go_at_call 223;refine HC.out.mono ?_;rintro e w8 ⟨rfl,hw8⟩)
       go_roundg (mid-x)
       case measure=>omega
       case rel=>
        refine⟨x,mid,R.lim,decide (y-mid≥(y-x)/8),ap,d5,rfl,rfl,rfl,?_,rfl,by omega,by omega,qK _,by omega,by omega,hsn,HBn,qA hw8,qA ?_⟩
        · exact congrArg Value.bool (eighth (by omega) (by omega))
        · rw[<-HR.out,HL.out]}}
       {
       have h87' :=H87.out.trans h87;have h87'' :=h87';simp only[qX,decide_eq_true_eq,Bool.not_eq_true']at h87';obtain⟨mid,d4,hx⟩:∃mid d4,partitionEqual ltInt R.pi.1 x y R.pivot=(mid,d4):=⟨_,_,rfl⟩;obtain⟨r1,r2,r3,r4,_⟩:=round_eq swo_ltInt (partitionEqual_holds ltInt) h87'.1 hpv.1 hpv.2 (show y<=R.pi.1.size by omega) PR.out.B3 h87'.2 hx;have HC:=aXB (cap:=cap) HS6.out hs3 hpv.1 hpv.2 hy hsz;rw[hx]at HC;have HC:=qA HC;have HL:=qA (PR.out.eq Hp2.out h87'' mid d4 hx ⟨r1,r2⟩);have HX:=qA hx;clear hx h87' h87'';have hs4:d4.size=n:=by rw[r3];exact hs3
       have HBn:=qA r4;clear r4 r3;go_wp2_with (go_at_call 241;refine HC.out.mono ?_;rintro e w7 ⟨rfl,hw7⟩)
       go_roundg (y-mid)
       case measure=>omega
       case rel=>exact⟨mid,y,R.lim,wb,wp,d4,rfl,rfl,rfl,rfl,rfl,r2,hy,qK _,by omega,by omega,hs4,HBn,qA hw7,qA (by rw[<-HR.out,HL.out])⟩}}}}
theorem aTX{w wr:World}{blk off cap n:Nat}{d:Array Int}(h:SR w wr blk off d)(hn:d.size=n)(hsz:n<4611686018427387904):
    Calls Tryz.prog 200 #[.slice (some ⟨blk,off,none⟩) n cap] wr fun e w' =>e=.returned (.tuple #[])/\SR w w' blk off (Sort.sort ltInt d):=by
 have hl:bitsLen n<4611686018427387904:=Nat.lt_of_le_of_lt ((bitsLen_le_iff n 62).2 (by omega)) (by decide);have HL:=qA (aSW n hsz wr);have HP:=aXC (cap:=cap) hsz (n-0+1) 0 n (bitsLen n) d wr (Nat.lt_succ_self _) h hn (qS _) (qK _) hl (.inl rfl);have e:pdq ltInt d 0 n (bitsLen n) true true=Sort.sort ltInt d:=by unfold Sort.sort;rw[hn]
 rw[e]at HP;have HP:=qA HP;clear h e;generalize bitsLen n=k at *;go_enter Tryz.func200,Tryz.ntmps200
 go_wp2_with fail
 refine HL.out.mono ?_;rintro _ _ ⟨rfl,rfl⟩;go_wp2_with fail
 refine HP.out.mono ?_;rintro _ w1 ⟨rfl,h1⟩;go_wp2
 go_end0
 exact⟨rfl,h1⟩
theorem aLH{w:World}{v:Value}{l:List Nat}(h:w.ownsRow 0 36 1 v l.length (l.map fun(x:Nat)=>Value.int .u64 x))(hv:v.ownBlock.isSome=true)(hbig:l.length<4611686018427387904):
    Calls Tryz.prog 200 #[v] w fun e w' =>e=.returned (.tuple #[])/\w'.ownsRow 0 36 1 v l.length ((l.mergeSort (fun x y=>decide (x<=y))).map fun(x:Nat)=>Value.int .u64 x)/\Fr v.ownBlock.toList w w' :=by
 rcases h.2 with⟨rfl,_⟩|⟨g,cap,cur,rfl,hg,hcur,hnc,hcm,hcs,htk⟩
 · cases hv
 {
 have hlen:(l.map fun(x:Nat)=>(x:Int)).toArray.size=l.length:=by simp
 have henc:sU (l.map fun(x:Nat)=>(x:Int)).toArray=l.map fun(x:Nat)=>Value.int .u64 x:=by simp[sU,Function.comp_def]
 have hsr:SR w w g 0 (l.map fun(x:Nat)=>(x:Int)).toArray:=by {
 refine⟨rfl,⟨cur.toList.drop l.length,?_,cur.toList,?_,?_⟩,Fr.refl _ _⟩
 {
 rw[henc,<-htk,Nat.mul_one,List.take_append_drop];unfold Blk;rw[hcur]}
 · unfold Blk;rw[hcur]
 · rw[hlen,List.length_drop];simp;omega}
 {
 refine(aTX (cap:=cap) hsr hlen hbig).mono ?_;rintro _ w' ⟨rfl,h1⟩;refine⟨rfl,?_,h1.fr⟩;obtain⟨rest,b1,l0,b2,b3⟩:=h1.row;have hso:=sortInt (l.map fun(x:Nat)=>(x:Int));have hms:(l.map fun(x:Nat)=>(x:Int)).mergeSort (fun x y=>decide (x<=y))=(l.mergeSort (fun x y=>decide (x<=y))).map fun(x:Nat)=>(x:Int):=by {
 rw[List.map_mergeSort];intro a _ b _;simp};have he:sU (Sort.sort ltInt (l.map fun(x:Nat)=>(x:Int)).toArray)=(l.mergeSort (fun x y=>decide (x<=y))).map fun(x:Nat)=>Value.int .u64 x:=by unfold sU;rw[hso,hms];simp[Function.comp_def]
 rw[he]at b1;have hl0:l0=cur.toList:=by {
 have:Blk w g 36 cur.toList:=by unfold Blk;rw[hcur]
 exact b2.eq this};have hms2:(Sort.sort ltInt (l.map fun(x:Nat)=>(x:Int)).toArray).size=l.length:=by {
 have:=congrArg List.length hso;simpa using this};refine⟨by simp,.inr ⟨g,cap,_,rfl,qS _,b1,hnc,hcm,?_,?_⟩⟩
 {
 rw[hl0,hms2]at b3;simp at b3 ⊢;omega}
 · rw[Nat.mul_one,List.take_append_of_le_length (by simp),List.take_of_length_le (by simp)]}}
end Go.Proofs.YtjdgpcjbgjnahaaGreatDoor
namespace Go.Proofs.YtjdgpcjbgjnahaaGreatDoor
open Go.RowKit
def oT(l:List Nat):List Value:=l.map fun(x:Nat)=>.int .u64 x
def jG(l:List Nat):List Nat:=l.mergeSort (fun x y=>decide (x<=y))
theorem aIR(l:List Nat):(jG l).length=l.length:=by simp[jG]
theorem aLI(n:Nat):madeCells (Value.int .u64 0).cells n=(bT n (idF (fun _=>0))).toArray:=by
 apply Array.ext
 · simp[madeCells,bT]
 {
 intro i h1 h2;simp[madeCells,bT,idF,Value.cells,Nat.mod_one]}
theorem aEJ(c:Nat)(w:World)(hn:c<=1048576):(Instr.makeSlice 104 (.int .i64 0) (.int .i64 c)).run Tryz.prog w=.ok (.slice (some ⟨w.heap.size,0,none⟩) 0 c) (w.alloc (.cells (bT c (idF (fun _=>0))).toArray 36)):=by
 obtain⟨i0,hi,hz0,hz1,hz2⟩:=info_parts Tryz.info36;have h:=run_make (P:=Tryz.prog) w 104 36 i0 (.int .u64 0) Tryz.underlying104 hi hz0 .i64 .i64 0 c (by omega) (by omega) (by rw[hz2];omega) (by omega);rw[hz1]at h;simp only[zD,Nat.mul_one]at h;rw[aLI]at h;exact h
theorem aEK{w:World}{pt:Nat}{T:Tb}{l:List Nat}(h:cB w pt T l):
    Calls Tryz.prog 164 #[ptr pt] w fun e w' =>∃v,e=.returned v/\w'.ownsRow 0 36 1 v (fJ T.A).length (oT (jG ((fJ T.A).map T.ids)))/\(∀q,v.ownBlock=some q->w.heap.size<=q)/\Fr [] w w' :=by
 have HT:=qA h;have hlt:=h.lt;obtain⟨cpc,rst,pa,gc,n,vi,C,la,h1,h2,h3,h4,rfl,hnd,hM,hs,hT,hinj,hb64⟩:=h;clear hT hinj hM hs h4 hnd;have hok:=h2.ok;have hs:=hok.hs;have hb:=hok.hb;have c0:=h1.cell 0;have c1:=h1.cell 1;have c2:=h1.cell 2;simp only[zJ,zK]at c0 c1 c2;have husd:T.A.used<=65536:=by unfold Ar.used;omega
 have hmk:=aEJ T.A.used w (by omega);have hown0:=wY (w:=w) (e:=36) (cs:=bT T.A.used (idF fun _=>0)) T.A.used (cN _ _) (by omega);have HO0:=qA hown0;clear hown0;have HF0:Hid (Fr [] w (w.alloc (.cells (bT T.A.used (idF fun _=>0)).toArray 36))):=qA ((Fr.refl [] w).alloc _);have d1:(w.alloc (.cells (bT T.A.used (idF fun _=>0)).toArray 36)).cell? ⟨pt,1,none⟩=some (ptr pa):=HF0.out.cell c1 (by simp);have HLen:=qA (mM h2);have HLi:=qA (tW (h2.fr HF0.out (by simp)));have H3:=qA (zI h3 h1);clear h3 h1 h2;have HLt:=qA hlt;clear hlt;have hul:(fJ T.A).length<=65536:=by rw[rG hok];exact husd
 have hum:∀i (hi:i<(fJ T.A).length),(fJ T.A)[i]<T.A.begun:=fun i hi=>(iG.1 (List.getElem_mem hi)).1;generalize fJ T.A=us at *;go_enter Tryz.func164,Tryz.ntmps164
 go_wp2_with (first|(go_at_call 143;refine(cY pt _ c0).mono ?_;rintro e w' ⟨rfl,rfl⟩)|(go_at_call 98;refine HLen.out.mono ?_;rintro e w' ⟨rfl,rfl⟩)|(go_at_call 103;refine HLi.out.mono ?_;rintro e w2 ⟨vl,rfl,hownl,hql,hF2⟩;obtain⟨al,cl,rfl⟩:=aO hownl))
 have HO0' :=qA (aL HO0.out (fun q hq=>hF2.keep q (HO0.out.lt q hq).2 (by simp)));have HF2:=qA (HF0.out.trans' hF2);have hpl:∀q,(Value.slice al us.length cl).ownBlock=some q->w.heap.size+1<=q:=fun q hq=>by have:=hql q hq;simpa using this
 have HQL:=qA hpl;clear hpl hql;have HOL:=qA hownl;clear hownl hF2;generalize w.alloc (.cells (bT T.A.used (idF fun _=>0)).toArray 36)=w1 at *;clear c0 c1 c2 hmk d1 HLen HLi HO0 HF0
 go_loopw [3,21] (fun v si wr=>∃i:Nat,i<=us.length/\si=.int .i64 i/\Hid (Fr [] w wr)/\Hid (wr.ownsRow 0 3 1 (.slice al us.length cl) us.length (fO us))/\wr.ownsRow 0 36 1 v i (oT ((us.take i).map T.ids)) /\
   Hid (v.ownBlock.isSome=true/\∀q,v.ownBlock=some q->w.heap.size<=q/\(Value.slice al us.length cl).ownBlock≠some q)) (fun _ si _=>us.length-(intOf si).toNat)
 case atStart=>
  refine⟨0,qS _,rfl,HF2,HOL,by simpa[oT] using HO0'.out,qA ⟨rfl,fun q e=>?_⟩⟩;simp only[Value.ownBlock,qI]at e;refine⟨by omega,fun e2=>?_⟩;have:=HQL.out q e2;omega
 case round=>
  clear HO0' HF2 HOL;obtain⟨i,hi,rfl,HF,HOL,hown,HQ⟩:=hrel;obtain⟨a8,c8,rfl⟩:=aO hown;by_cases hlt:i<us.length
  {
  have hil:(i:Int)<us.length:=by omega
  obtain⟨gl,cl', e,_,hgl,hcl,_⟩:=bW HOL.out hlt;simp only[qP,true_and]at e;obtain⟨rfl,rfl⟩:=e;have hx:(fO us)[i]? =some (.int .i64 (us[i]:Nat)):=by simp[fO,hlt]
  rw[hx]at hcl;have hxb:=hum i hlt;obtain⟨gi,ci,e,_,hgi,hci,_⟩:=bW H3.out.1 hxb;subst e;rw[eE hxb]at hci;simp only[idF]at hci;have c2:=(HF.out.blk H3.out.2 (by simp)).cell 2;simp only[zJ,zK]at c2;have hci' :=HF.out.cell hci (by simp);have Htk:=qA (show(us.take (i+1)).map T.ids=(us.take i).map T.ids++[T.ids us[i]] by rw[List.take_add_one,qL hlt,List.map_append];rfl);clear hx hci;generalize us[i]=x at *;have hxi:(x:Int)<T.A.begun:=by omega
  have hx0:(0:Int)<=x:=by omega
  generalize T.A.begun=bg at *;generalize T.ids x=y at *;go_wp2_with (at_builtin;refine aB rfl _ _ 104 rfl 36 (.int .u64 0) 8 Tryz.underlying104 Tryz.info36 rfl (.slice a8 i c8) i _ rfl (hown.alloc _) wr.heap.size (.int .u64 y) rfl (aC _ _ _ _ rfl) rfl (by omega) (by decide) ?_;intro g' cap' w4 hown4 hgrow4 hg4;have hF4:Fr (Value.slice a8 i c8).ownBlock.toList wr w4:=((Fr.refl _ _).alloc _).grown hgrow4 (fun q e=>.inl (by simp[e])))
  go_roundw
  case rel=>
   have hs4:=HF.out.size;simp only[World.size_alloc]at hg4;refine⟨i+1,by omega,by go_num,qA (HF.out.trans hF4 (fun q hq=>.inr (HQ.out.2 q (by simpa using hq)).1)),qA (aL HOL.out (fun q hq=>hF4.keep q (HOL.out.lt q hq).2 (fun hm=>(HQ.out.2 q (by simpa using hm)).2 hq))),?_,qA ⟨rfl,fun q e=>?_⟩⟩
   {
   rw[Htk.out];have:∀(l:List Nat) (y:Nat),oT (l++[y])=oT l++[.int .u64 y]:=fun l y=>by simp[oT]
   rw[this];exact hown4}
   {
   simp only[Value.ownBlock,qI]at e;subst e;rcases hg4 with e|e
   · exact HQ.out.2 _ e
   {
   refine⟨by omega,fun e2=>?_⟩;have:=(HOL.out.lt _ e2).2;omega}}
  case measure=>simp[intOf];omega}
  {
  obtain rfl:i=us.length:=by omega
  rw[List.take_of_length_le (qK _)]at hown;have hlm:(us.map T.ids).length=us.length:=by simp
  have hsr:=aLH (v:=.slice a8 us.length c8) (l:=us.map T.ids) (by rw[hlm];exact hown) HQ.out.1 (by rw[hlm];omega);rw[hlm]at hsr;have HSr:=qA hsr;clear hsr hown;go_wp2_with fail
  refine HSr.out.mono ?_;rintro _ w5 ⟨rfl,hown5,hF5⟩;have H5:=qA (zI hown5 hF5);clear hown5 hF5;go_wp2
  go_ret;exact⟨_,rfl,H5.out.1,fun q hq=>(HQ.out.2 q hq).1,HF.out.trans H5.out.2 (fun q hq=>.inr (HQ.out.2 q (by simpa using hq)).1)⟩}
def Tryz.laysCloneU_ren:Go.Shelf.Ren:=⟨fun|41=>158|n=>n,fun|22=>104|23=>36|4=>4|n=>n,fun|n=>n⟩
theorem Tryz.laysCloneU:Go.Proofs.SlLaysE0.n41 Tryz.prog Tryz.laysCloneU_ren:={
  mixed:=by kernel_rfl
  f41:=⟨Tryz.f158.name,by decide,Tryz.func158.trans (congrArg some (by kernel_rfl))⟩
  t4:=Tryz.underlying4
  a4:=Tryz.isAgg4
  z4:=Tryz.sizeOf4
  v4:=Tryz.zeroValue4
  t22:=Tryz.underlying104
  a22:=Tryz.isAgg104
  z22:=Tryz.sizeOf104
  v22:=Tryz.zeroValue104 }
def Tryz.laysCloneI_ren:Go.Shelf.Ren:=⟨fun|41=>119|n=>n,fun|22=>158|23=>3|4=>4|n=>n,fun|n=>n⟩
theorem Tryz.laysCloneI:Go.Proofs.SlLaysE0.n41 Tryz.prog Tryz.laysCloneI_ren:={
  mixed:=by kernel_rfl
  f41:=⟨Tryz.f119.name,by decide,Tryz.func119.trans (congrArg some (by kernel_rfl))⟩
  t4:=Tryz.underlying4
  a4:=Tryz.isAgg4
  z4:=Tryz.sizeOf4
  v4:=Tryz.zeroValue4
  t22:=Tryz.underlying158
  a22:=Tryz.isAgg158
  z22:=Tryz.sizeOf158
  v22:=Tryz.zeroValue158 }
theorem lD{w:World}{base:Nat}{e:TypeId}{size:Nat}{v:Value}{n:Nat}{xs:List Value}(h:w.ownsRow base e size v n xs):w.ownsRow 0 e size v n xs:=
  ⟨h.1,h.2.elim .inl (fun⟨g,cap,cur,k1,_,k3⟩=>.inr ⟨g,cap,cur,k1,qS _,k3⟩)⟩
theorem lE{w:World}{base:Nat}{e:TypeId}{size:Nat}{v:Value}{n:Nat}{xs:List Value}(h:w.ownsRow base e size v n xs):∀q,v.ownBlock=some q->base<=q:=by
 intro q hq;rcases h.2 with⟨rfl,_⟩|⟨g,cap,cur,rfl,hb,_⟩
 · cases hq
 · simp[Value.ownBlock]at hq;omega
theorem aIS{w:World}{v:Value}{n:Nat}{f:Nat->Nat}(h:w.ownsRow 0 36 1 v n (bT n (idF f)))(hn:n<=65536):
    Calls Tryz.prog 158 #[v] w fun e w' =>∃v', e=.returned v' /\ w'.ownsRow 0 36 1 v' n (bT n (idF f))/\(∀q,v'.ownBlock=some q->w.heap.size<=q)/\Fr [] w w' :=by
 obtain⟨i0,hi,hz0,hz1,hz2⟩:=info_parts Tryz.info36;rcases h.2 with⟨rfl,rfl⟩|⟨g,cap,cur,rfl,hg,hcur,hnc,hcm,hcs,htk⟩
 {
 refine(AnyE.slices_Clone_nil Tryz.laysCloneU 0 0 w).mono ?_;rintro _ _ ⟨rfl,rfl⟩;exact⟨_,rfl,h,fun q e=>(by cases e),Fr.refl _ _⟩}
 {
 refine(AnyE.slices_Clone Tryz.laysCloneU i0 (.int .u64 0) 1 8 hi hz0 hz1 hz2 rfl (by decide) Tryz.sizeOf36 g 0 n cap (bT n (idF f)) w (by rw[cN];omega) (by unfold maxLen;omega) (by omega) (fun j u hj=>?_) (fun u hu=>?_)).mono ?_
 · rw[Nat.zero_add,h.cellAt j (by have:=(qT.1 hj).1;rw[cN]at this;omega)];exact hj
 {
 simp only[bT,qW]at hu;obtain⟨k,_,rfl⟩:=hu;rfl}
 {
 rintro _ w' ⟨v', rfl,h1,_,hB⟩;exact⟨v', rfl,lD h1,lE h1,Fr.of_below hB⟩}}
theorem aBG{w:World}{g n cap:Nat}{C:Nat->Nat}{rst:List Value}(h:Blk w g 3 (iA n C rst))(h0:0<n)(hn:n<=131072):
    Calls Tryz.prog 119 #[.slice (some ⟨g,0,none⟩) n cap] w fun e w' =>∃g' cap' rst', e=.returned (.slice (some ⟨g', 0,none⟩) n cap')/\Blk w' g' 3 (iA n C rst')/\w.heap.size<=g' /\ Fr [] w w' :=by
 obtain⟨i0,hi,hz0,hz1,hz2⟩:=info_parts Tryz.info3;refine(AnyE.slices_Clone Tryz.laysCloneI i0 (.int .i64 0) 1 8 hi hz0 hz1 hz2 rfl (by decide) Tryz.sizeOf3 g 0 n cap (bT n (eP C)) w (by rw[cN];omega) (by unfold maxLen;omega) (by omega) (fun j u hj=>?_) (fun u hu=>?_)).mono ?_
 {
 have hjl:j<n:=by have:=(qT.1 hj).1;rwa[cN]at this
 rw[Nat.zero_add,h.cell,fQ hjl,<-hj,eE hjl]}
 {
 simp only[bT,qW]at hu;obtain⟨k,_,rfl⟩:=hu;rfl}
 {
 rintro _ w' ⟨v', rfl,h1,_,hB⟩;rcases h1.2 with⟨_,hz⟩|⟨g', cap', cur,rfl,hg', hcur,hnc,hcm,hcs,htk⟩
 · omega
 {
 refine⟨g', cap', cur.toList.drop n,rfl,?_,hg', Fr.of_below hB⟩;unfold iA;rw[<-htk,Nat.mul_one,List.take_append_drop];unfold Blk;rw[Array.toArray_toList];exact hcur}}
theorem aEL{w:World}{pt:Nat}{T:Tb}{l:List Nat}(h:cB w pt T l):
    Calls Tryz.prog 116 #[ptr pt] w fun e w' =>∃pt', e=.returned (ptr pt')/\∃l', cB w' pt' T l' /\ Fr [] w w' /\ ∀b∈l', w.heap.size<=b:=by
 obtain⟨cpc,rst,pa,gc,n,vi,C,la,h1,h2,h3,h4,rfl,hnd,hM,hs,hT,hinj,hb64⟩:=h;have hok:=h2.ok;have hs1:=hok.hs;have hs2:=hok.hb;have hn:=hM.pos;have hn2:=hM.le;have c0:=h1.cell 0;have c1:=h1.cell 1;have c2:=h1.cell 2;have c3:=h1.cell 3;simp only[zJ,zK]at c0 c1 c2 c3;have HR:=qA (zI hnd (zI hM (zI hs (zI hT (zI hinj hb64)))));clear hnd hM hs hT hinj hb64;have HA:=qA (uB (h2.same (w' :=w.drew) (fun _ _=>rfl)));have HI:=qA (fun(w' :World) (hf:Fr [] w w')=>aIS (aL (w' :=w') h3 (fun k hk=>hf.keep k (h3.lt k hk).2 (by simp))) (by omega));have HC:=qA (fun(w' :World) (hf:Fr [] w w')=>aBG (cap:=cpc) (hf.blk h4 (by simp)) (by omega) (by omega));have hF0:Fr [] w w.drew:=(Fr.refl [] w).drew;go_enter Tryz.func116,Tryz.ntmps116
 go_wp2_with (go_at_call 143;refine(cY pt _ c0).mono ?_;rintro e w' ⟨rfl,rfl⟩)
 go_region_held3 (fun w' => w'.cell? ⟨pt, 1, none⟩ = some (ptr pa) /\ w'.cell? ⟨pt, 2, none⟩ = some vi /\ w'.cell? ⟨pt, 3, none⟩ = some (.slice (some ⟨gc, 0, none⟩) n cpc))
   (first
     | go_keep
     | (exact⟨hF3.cell c1 (by simp),hF3.cell c2 (by simp),hF3.cell c3 (by simp)⟩)
     | (exact⟨hF4.cell c1 (by simp),hF4.cell c2 (by simp),hF4.cell c3 (by simp)⟩)
     | (exact⟨hF5.cell c1 (by simp),hF5.cell c2 (by simp),hF5.cell c3 (by simp)⟩)
     | (exact⟨(hF5.alloc _).cell c1 (by simp),(hF5.alloc _).cell c2 (by simp),(hF5.alloc _).cell c3 (by simp)⟩))
   (first
     | (go_at_call 115;refine HA.out.mono ?_;rintro e w3 ⟨pa', rfl,la', hA3,hF3,hl3⟩;have hla3:=hA3.lt;replace hF3:=hF0.trans' hF3)
     | (go_at_call 158;refine(HI.out _ hF3).mono ?_;rintro e w4 ⟨vi', rfl,hI4,hq4,hF4⟩;replace hA3:=hA3.fr hF4 (by simp);have hsz4:=hF3.size;have hF34:=hF4;replace hF4:=hF3.trans' hF4;obtain⟨ai,ci,rfl⟩:=aO hI4;have hil4:=fun q hq=>(hI4.lt q hq).2)
     | (go_at_call 119;refine(HC.out _ hF4).mono ?_;rintro e w5 ⟨gc', cpc', rst', rfl,hC5,hg5,hF5⟩;replace hA3:=hA3.fr hF5 (by simp);replace hI4:=aL (w' :=w5) hI4 (fun k hk=>hF5.keep k (hI4.lt k hk).2 (by simp));have hsz5:=hF4.size;replace hF5:=hF4.trans' hF5))
 have hb0:=Blk.new w5 [ptr w5.heap.size,ptr pa', .slice ai T.A.begun ci,.slice (some ⟨gc', 0,none⟩) n cpc'] 211;have H5:=qA (zI hA3 (zI hI4 (zI hC5 hF5)));clear hA3 hI4 hC5;have Hb1:=qA hb0;clear hb0;have hq4' :∀q,(Value.slice ai T.A.begun ci).ownBlock=some q->w3.heap.size<=q:=hq4;have hl3' :∀b∈la', w.heap.size<=b:=fun b hb=>by have:=hl3 b hb;simpa using this
 have hlt3:=H5.out.1.lt;go_wp2
 go_ret;have hFz:Fr [] w5 (w5.alloc (.cells #[ptr w5.heap.size,ptr pa', .slice ai T.A.begun ci,.slice (some ⟨gc', 0,none⟩) n cpc'] 211)):=(Fr.refl _ _).alloc _;have hila:∀q,(Value.slice ai T.A.begun ci).ownBlock=some q->q<w5.heap.size:=fun q hq=>(H5.out.2.1.lt q hq).2;have hgl:=H5.out.2.2.1.lt;obtain⟨hnd,hM,hs,hT,hinj,hb64⟩:=HR.out;refine⟨w5.heap.size,rfl,w5.heap.size::gc' :: ((Value.slice ai T.A.begun ci).ownBlock.toList++la'),⟨cpc', rst', pa', gc', n,.slice ai T.A.begun ci,C,la', Hb1.out,H5.out.1.fr hFz (by simp),aL H5.out.2.1 (fun k hk=>hFz.keep k (H5.out.2.1.lt k hk).2 (by simp)),hFz.blk H5.out.2.2.1 (by simp),rfl,?_,hM,hs,hT,hinj,hb64⟩,H5.out.2.2.2.trans' hFz,?_⟩
 {
 have hlan:la'.Nodup:=by obtain⟨_,_,_,_,_,_,_,_,hq,_⟩:=H5.out.1;exact hq
 rw[qO,qO,qN];refine⟨?_,?_,by cases (Value.slice ai T.A.begun ci).ownBlock<;>simp,hlan,?_⟩
 {
 simp only[qB,qE,Option.mem_toList,not_or];exact⟨by omega,fun e=>by have:=hila _ e;omega,fun hm=>by have:=hlt3 _ hm;omega⟩}
 {
 simp only[qE,Option.mem_toList,not_or];refine⟨fun e=>by have:=hil4 _ e;omega,fun hm=>?_⟩;have:=hla3 _ hm;have:=hF34.size;omega}
 {
 intro x hx y hy e;subst e;have h1:=hq4' x (by simpa using hx);have h2:=hla3 x hy;omega}}
 {
 intro b hb;simp only[qB,qE,Option.mem_toList]at hb;have:=H5.out.2.2.2.size;rcases hb with rfl|rfl|hb|hb
 · omega
 · omega
 · have:=hq4' b hb;omega
 · exact hl3' b hb}
section
variable {P:Program} {ops:Array Oper} {md:Region.Mode} (G:Nat->Sem Go.Next->Value->Prop)
def gOp(ops:Array Oper)(i:Nat)(K:Act->Prop)(a:Act):Prop:=
  match ops[i]? with
  | none=>K a
  | some o=>if Region.wanted o (yielded ops a.tmps) then ∃v,G i (execOp a.eval o) v/\K (a.put o.dst v) else K (a.put o.dst undef)
def dS(ops:Array Oper)(Q:Act->Prop):Nat->List Oper->Act->Prop
  | _,[],a=>Q a
  | k,o::rest,a=>if Region.wanted o (yielded ops a.tmps) then ∃v,G k (execOp a.eval o) v/\dS ops Q (k+1) rest (a.put o.dst v) else dS ops Q (k+1) rest (a.put o.dst undef)
def aBH(md:Region.Mode)(ops:Array Oper)(Q:Act->Prop):Nat->Array Bool->Act->Prop
  | 0,listed,a=>Region.ready md ops listed=[]/\Q a
  | fuel+1,listed,a=>
    (Region.ready md ops listed=[]->Q a)/\∀i∈Region.ready md ops listed,gOp G ops i (aBH md ops Q fuel (listed.setIfInBounds i true)) a
variable {G}
def fB(G:Nat->Sem Go.Next->Value->Prop)(ops:Array Oper)(i:Nat)(o:Oper)(v:Value)(a:Act):Prop:=
  (Region.wanted o (yielded ops a.tmps)=true/\G i (execOp a.eval o) v)∨(Region.wanted o (yielded ops a.tmps)=false/\v=undef)
theorem fB.op{i:Nat}{o:Oper}{v:Value}{a:Act}(hi:ops[i]? =some o)(hy:fB G ops i o v a){K:Act->Prop}(h:K (a.put o.dst v)):gOp G ops i K a:=by
 unfold gOp;simp only[hi];rcases hy with⟨hw,hv⟩|⟨hw,rfl⟩
 · rw[qD hw];exact⟨v,hv,h⟩
 · rw[qC (by simp[hw])];exact h
theorem fB.same{i:Nat}{o:Oper}{v:Value}{a a' :Act}(hy:fB G ops i o v a)(he:execOp a'.eval o=execOp a.eval o)
    (hw:Region.wanted o (yielded ops a'.tmps)=Region.wanted o (yielded ops a.tmps)):fB G ops i o v a' :=by
 unfold fB at *;rw[he,hw];exact hy
theorem aLJ{i:Nat}{a:Act}{K K' :Act->Prop}(h:∀a,K a->K' a)(hh:gOp G ops i K a):gOp G ops i K' a:=by
 unfold gOp at *;cases ho:ops[i]? with
 | none=>simp only[ho]at hh ⊢;exact h _ hh
 | some o=>{
 simp only[ho]at hh ⊢;by_cases hw:Region.wanted o (yielded ops a.tmps)=true
 · rw[qD hw]at *;obtain⟨v,h1,h2⟩:=hh;exact⟨v,h1,h _ h2⟩
 · rw[qC hw]at *;exact h _ hh}
theorem wE{i:Nat}{o:Oper}{a:Act}{K:Act->Prop}(hi:ops[i]? =some o)(h:gOp G ops i K a):∃v,fB G ops i o v a/\K (a.put o.dst v):=by
 unfold gOp at h;simp only[hi]at h;by_cases hw:Region.wanted o (yielded ops a.tmps)=true
 {
 rw[qD hw]at h;obtain⟨v,h1,h2⟩:=h;exact⟨v,.inl ⟨hw,h1⟩,h2⟩}
 {
 rw[qC hw]at h;exact⟨undef,.inr ⟨by simpa using hw,rfl⟩,h⟩}
theorem aQE{i j:Nat}{oi oj:Oper}{v:Value}(hj:ops[j]? =some oj)(hap:oi.apart ops oj=true)
    (hsi:∀cs b,oi.op≠.select cs b) (hsj:∀cs b,oj.op≠.select cs b) {K:Act->Prop} {a:Act}
    (hy:fB G ops i oi v a) (h:gOp G ops j K (a.put oi.dst v)):
    gOp G ops j (fun a' =>fB G ops i oi v a' /\ K (a'.put oi.dst v)) a:=by
 obtain⟨h1,h2,h3⟩:=Oper.apart_spec hap;have keep:∀(a:Act),fB G ops i oi v a->∀u,fB G ops i oi v (a.put oj.dst u):=fun a hy u=>
   hy.same (execOp_put oi hsi a oj.dst u h3) (wanted_put oi a oj.dst u h3)
 unfold gOp at *;simp only[hj]at *;rw[wanted_put oj a oi.dst v h1]at h;by_cases hw:Region.wanted oj (yielded ops a.tmps)=true
 {
 rw[qD hw]at *;obtain⟨u,hu,hn⟩:=h;rw[execOp_put oj hsj a oi.dst v h1]at hu;exact⟨u,hu,keep a hy u,by rw[<-Act.put_comm a v u h2];exact hn⟩}
 {
 rw[qC hw]at *;exact⟨keep a hy _,by rw[<-Act.put_comm a v undef h2];exact h⟩}
theorem aEM{Q:Act->Prop}{i:Nat}{oi:Oper}{v:Value}(hi:ops[i]? =some oi)(hsel:∀(j:Nat) (o:Oper) cs b,ops[j]? =some o->o.op≠.select cs b):
    ∀(fuel:Nat) (listed:Array Bool) (a:Act),
      (∀j oj,ops[j]? =some oj->j≠i->listed.getD j true=false->(∀e∈oj.after,Region.binds md e=true->e.on≠i)->oi.apart ops oj=true) ->
      i∈Region.ready md ops listed->fB G ops i oi v a ->
      aBH G md ops Q fuel (listed.setIfInBounds i true) (a.put oi.dst v)->aBH G md ops Q (fuel+1) listed a:=by
  intro fuel;induction fuel with
  | zero=>
    intro listed a _ hr hy H;refine⟨fun h=>(by rw[h]at hr;cases hr),fun j hj=>?_⟩;by_cases hji:j=i
    · subst hji;exact hy.op hi H
    · have := ready_mono hj hji
      rw[H.1]at this;cases this
  | succ fuel ih=>
    intro listed a hfree hr hy H;refine⟨fun h=>(by rw[h]at hr;cases hr),fun j hj=>?_⟩;by_cases hji:j=i
    · subst hji;exact hy.op hi H
    · have h1 := H.2 j (ready_mono hj hji)
      obtain⟨hjun,oj,hoj,hall⟩:=mem_ready.1 hj;have hnot:∀e∈oj.after,Region.binds md e=true->e.on≠i:=fun e he hb heq=>by
        have h1:=hall e he hb;have h0:=(mem_ready.1 hr).1;rw[heq]at h1;rcases Nat.lt_or_ge i listed.size with h' | h'
        · simp[h']at h0 h1;rw[h0]at h1;cases h1
        · simp[Array.getElem?_eq_none h']at h1
      have h2:=aQE hoj (hfree j oj hoj hji hjun hnot) (fun cs b=>hsel i oi cs b hi) (fun cs b=>hsel j oj cs b hoj) hy h1
      have hfree' :∀k ok,ops[k]? =some ok->k≠i->(listed.setIfInBounds j true).getD k true=false ->
          (∀e∈ok.after,Region.binds md e=true->e.on≠i)->oi.apart ops ok=true:=fun k ok hk hki hun hno=>by
        refine hfree k ok hk hki ?_ hno;by_cases hjk:j=k
        · subst hjk;exact hjun
        · rw[getD_set_ne true hjk]at hun;exact hun
      refine aLJ (fun a' h3=>ih (listed.setIfInBounds j true) a' hfree' (ready_mono hr (Ne.symm hji)) h3.1 ?_) h2;rw[Array.setIfInBounds_comm _ _ hji];exact h3.2
theorem uF{Q:Act->Prop}(hs:Region.noSelect ops=true):∀(l:List Oper) (k:Nat) (listed:Array Bool) (a:Act),(∀j,l[j]? =ops[k+j]?) ->
    Region.lexFrom md ops l.length k listed=true->dS G ops Q k l a->aBH G md ops Q l.length listed a
  | [],_,_,_,_,hB,h=>⟨by simpa[Region.lexFrom] using hB,h⟩
  | o::l,k,listed,a,hl,hB,h=>by
    have h0:ops[k]? =some o:=by simpa using (hl 0).symm
    simp only[qZ,Region.lexFrom,qX]at hB;obtain⟨⟨hr,hf⟩,hB'⟩:=hB;have hst:gOp G ops k (dS G ops Q (k+1) l) a:=by unfold gOp;simp only[h0];exact h
    obtain⟨v,hy,hK⟩:=wE h0 hst
    exact aEM h0 (Region.noSelect_spec hs) l.length listed a (Region.free_spec h0 hf) (by simpa using hr) hy
      (uF hs l (k+1) _ _ (fun j=>by have:=hl (j+1);simpa[Nat.add_assoc,Nat.add_comm 1 j] using this) hB' hK)
end
def dN(P:Program)(C1:World->Prop)(v:Value):Result Go.Next->Prop
  | .ok (.value u) w' =>u=v/\C1 w'
  | .ok .skip w' =>v=undef/\C1 w'
  | .ok (.enter f args) w' =>Calls P f args w' (fun e w'' =>e=.returned v/\C1 w'')
  | _=>False
def lF(w:World)(v:Value):Result Go.Next->Prop
  | .ok (.value u) w' =>w' =w/\u=v
  | .ok .skip w' =>w' =w/\v=undef
  | _=>False
def nF(P:Program)(c:Nat)(C0 C1:World->Prop)(i:Nat)(s:Sem Go.Next)(v:Value):Prop:=
  if i<c then ∀w,C0 w->Oper.quietUpon P C0 w v (s.run P w) else if i=c then ∀w,C0 w->dN P C1 v (s.run P w) else ∀w,lF w v (s.run P w)
theorem oA{P:Program}{o:Oper}{a:Act}{v:Value}{C:World->Prop}{w:World}{K' :Act->World->Prop}{Q' :Exit->Act->World->Prop}(hw:C w)(h:∀w', C w' -> K' (a.put o.dst v) w')
    {r:Result Go.Next} (h3:Oper.quietUpon P C w v r):o.upon P a K' Q' r:=by
 cases r with
 | halt x w' =>exact h3.elim
 | ok x w' =>{
 cases x with
 | value u=>obtain⟨rfl,rfl⟩:=h3;exact h _ hw
 | skip=>obtain⟨rfl,rfl⟩:=h3;exact h _ hw
 | enter f args=>{
 obtain⟨rfl,hc⟩:=h3;exact hc.mono fun e w'' ⟨he,hw''⟩=>by subst he;exact h _ hw''}
 | _=>exact h3.elim}
theorem oB{P:Program}{o:Oper}{a:Act}{v:Value}{C:World->Prop}{K' :Act->World->Prop}{Q' :Exit->Act->World->Prop}(h:∀w', C w' -> K' (a.put o.dst v) w')
    {r:Result Go.Next} (h3:dN P C v r):o.upon P a K' Q' r:=by
 cases r with
 | halt x w' =>exact h3.elim
 | ok x w' =>{
 cases x with
 | value u=>obtain⟨rfl,hc⟩:=h3;exact h _ hc
 | skip=>obtain⟨rfl,hc⟩:=h3;exact h _ hc
 | enter f args=>exact Calls.mono h3 fun e w'' ⟨he,hw''⟩=>by subst he;exact h _ hw''
 | _=>exact h3.elim}
theorem xA{P:Program}{o:Oper}{a:Act}{v:Value}{w:World}{K' :Act->World->Prop}{Q' :Exit->Act->World->Prop}(h:K' (a.put o.dst v) w)
    {r:Result Go.Next} (h3:lF w v r):o.upon P a K' Q' r:=by
 cases r with
 | halt x w' =>exact h3.elim
 | ok x w' =>{
 cases x with
 | value u=>obtain⟨rfl,rfl⟩:=h3;exact h
 | skip=>obtain⟨rfl,rfl⟩:=h3;exact h
 | _=>exact h3.elim}
section
variable {P:Program} {ops:Array Oper} {md:Region.Mode} {C0 C1:World->Prop} {c:Nat}
theorem fK(m j:Nat):(Array.replicate m false).getD j false=false:=by
 by_cases h:j<m<;>simp[h]
def uG(md:Region.Mode)(ops:Array Oper):Nat->Array Bool->Array Bool
  | 0,S=>S
  | j+1,S=>uG md ops j (if S.getD j false then(match ops[j]? with|some o=>o.after.toList.foldl (fun S e=>if Region.binds md e then S.setIfInBounds e.on true else S) S|none=>S) else S)
def rI(md:Region.Mode)(ops:Array Oper)(c:Nat):Bool:=(List.range c).all fun i=>(uG md ops (c+1) ((Array.replicate ops.size false).setIfInBounds c true)).getD i false
def uH(md:Region.Mode)(ops:Array Oper)(L:Array Bool):Prop:=∀j oj,ops[j]? =some oj->L.getD j false=true->∀e∈oj.after,Region.binds md e=true->L.getD e.on false=true
theorem mO{L:Array Bool}(hL:uH md ops L):∀(j:Nat) (S:Array Bool),(∀i,S.getD i false=true->L.getD i false=true)->∀i,(uG md ops j S).getD i false=true->L.getD i false=true
  | 0,S,h=>h
  | j+1,S,h=>by
    unfold uG;refine mO hL j _ ?_;by_cases hj:S.getD j false=true
    · rw [qD hj]
      cases ho:ops[j]? with
      | none=>exact h
      | some o=>
        have hcl:=hL j o ho (h j hj)
        have key:∀(es:List Edge) (T:Array Bool),(∀e∈es,e∈o.after.toList)->(∀i,T.getD i false=true->L.getD i false=true) ->
            ∀i,(es.foldl (fun S e=>if Region.binds md e then S.setIfInBounds e.on true else S) T).getD i false=true->L.getD i false=true:=by
          intro es;induction es with
          | nil=>intro T _ hT;exact hT
          | cons e es ih=>
            intro T hes hT;rw[List.foldl_cons];refine ih _ (fun e' he' =>hes e' (List.mem_cons_of_mem _ he')) ?_;by_cases hb:Region.binds md e=true
            · rw [qD hb]
              intro i hi;by_cases hei:e.on=i
              · rw[<-hei];exact hcl e (by simpa using hes e (by simp)) hb
              · rw[getD_set_ne false hei]at hi;exact hT i hi
            · rw[qC hb];exact hT
        exact key _ S (fun e he=>he) h
    · rw[qC hj];exact h
theorem wF{L:Array Bool}(hL:uH md ops L)(hB:rI md ops c=true)(hc:L.getD c false=true):∀i,i<c->L.getD i false=true:=by
 intro i hi;have h1:=List.all_eq_true.1 hB i (by simpa using hi);refine mO hL (c+1) _ ?_ i h1;intro j hj;by_cases e:c=j
 · rw[<-e];exact hc
 {
 rw[getD_set_ne false e,fK]at hj;cases hj}
theorem uH.set{L:Array Bool}{i:Nat}(h:uH md ops L)(hi:i∈Region.ready md ops L):uH md ops (L.setIfInBounds i true):=by
 obtain⟨_,oi,hoi,hall⟩:=mem_ready.1 hi;intro j oj hj hl e he hb;by_cases hij:i=j
 {
 subst hij;have:oj=oi:=Option.some.inj (hj.symm.trans hoi);subst this;exact getD_set_true (hall e he hb)}
 {
 rw[getD_set_ne false hij]at hl;exact getD_set_true (h j oj hj hl e he hb)}
def lG(c:Nat)(C0 C1:World->Prop)(listed:Array Bool)(w:World):Prop:=if listed.getD c false=true then C1 w else C0 w
def gC(md:Region.Mode)(ops:Array Oper):Bool:=(List.range ops.size).all fun j=>match ops[j]? with
  | some o=>o.after.all fun e=> !Region.binds md e||decide (e.on<j)
  | none=>true
theorem mP{listed:Array Bool}(hs:listed.size=ops.size)(hb:gC md ops=true)(h:Region.ready md ops listed=[]):∀j,j<ops.size->listed.getD j false=true:=by
 intro j;induction j using Nat.strongRecOn with
 | _ j ih=>{
 intro hj;apply qQ;intro hno;have hun:listed.getD j true=false:=by simp[hs,hj]at hno ⊢;exact hno
 obtain⟨o,ho⟩:∃o,ops[j]? =some o:=⟨_,Array.getElem?_eq_getElem hj⟩;have hin:j∈Region.ready md ops listed:=by {
 refine mem_ready.2 ⟨hun,o,ho,fun e he hbe=>?_⟩;have h1:=List.all_eq_true.1 hb j (by simpa using hj);simp only[ho]at h1;have h2:=Array.all_eq_true'.1 h1 e he;simp[hbe]at h2;exact ih e.on h2 (by omega)};rw[h]at hin;cases hin}
theorem sB(hc:c<ops.size)(hb:gC md ops=true)(hbf:rI md ops c=true)(hu:∀o,ops[c]? =some o->o.guard=none){Q:Act->Prop}{Q' :Exit->Act->World->Prop}(hQ:∀a w,C1 w->Q a->Q' .normal a w):∀(fuel:Nat) (listed:Array Bool) (a:Act) (w:World),listed.size=ops.size ->
    uH md ops listed->lG c C0 C1 listed w->aBH (nF P c C0 C1) md ops Q fuel listed a->wpAny P md ops Q' fuel listed a w
  | 0,listed,a,w,hs,_,hp,h=>⟨h.1,hQ _ _ (by unfold lG at hp;rw[qD (mP hs hb h.1 c hc)]at hp;exact hp) h.2⟩
  | fuel+1,listed,a,w,hs,hsh,hp,h=>by
    refine⟨fun h0=>hQ _ _ (by unfold lG at hp;rw[qD (mP hs hb h0 c hc)]at hp;exact hp) (h.1 h0),fun i hi=>?_⟩;have hg:=h.2 i hi;obtain⟨hun,oi,hoi,_⟩:=mem_ready.1 hi;have hil:i<ops.size:=(qM.1 hoi).1;have hs' :(listed.setIfInBounds i true).size=ops.size:=by simp[hs]
    have hl0:listed.getD i false=false:=by
      simp[hs,hil]at hun ⊢;exact hun
    have next:∀a' w', lG c C0 C1 (listed.setIfInBounds i true) w' -> aBH (nF P c C0 C1) md ops Q fuel (listed.setIfInBounds i true) a' -> wpAny P md ops Q' fuel (listed.setIfInBounds i true) a' w' :=
      fun a' w' hp' hg' =>sB hc hb hbf hu hQ fuel _ a' w' hs' (hsh.set hi) hp' hg'
    unfold gOp at hg;unfold wpOp;simp only[hoi]at hg ⊢;by_cases hic:i=c
    · subst hic
      have hl1:(listed.setIfInBounds i true).getD i false=true:=by simp[hs,hil]
      unfold lG at hp;rw[qC (by simp[hl0])]at hp;have hw:Region.wanted oi (yielded ops a.tmps)=true:=by simp[Region.wanted,hu oi hoi]
      rw[qD hw]at hg ⊢;obtain⟨v,hv,hk⟩:=hg;unfold nF at hv;rw[qC (Nat.lt_irrefl _),qD rfl]at hv;exact .inl (oB (fun w' hc' =>next _ w' (by unfold lG;rw[qD hl1];exact hc') hk) (hv w hp))
    · have hlc : (listed.setIfInBounds i true).getD c false = listed.getD c false := getD_set_ne false hic
      by_cases hw:Region.wanted oi (yielded ops a.tmps)=true
      · rw [qD hw] at hg ⊢
        obtain⟨v,hv,hk⟩:=hg;unfold nF at hv;left
        by_cases hlt:i<c
        · have hcl : ¬ listed.getD c false = true := fun hcl => by rw [wF hsh hbf hcl i hlt] at hl0; cases hl0
          rw[qD hlt]at hv;unfold lG at hp;rw[qC hcl]at hp;exact oA hp (fun w' hc' =>next _ w' (by unfold lG;rw[hlc,qC hcl];exact hc') hk) (hv w hp)
        · rw [qC hlt, qC hic] at hv
          exact xA (next _ w (by unfold lG at hp ⊢;rw[hlc];exact hp) hk) (hv w)
      · rw [qC hw] at hg ⊢
        exact next _ w (by unfold lG at hp ⊢;rw[hlc];exact hp) hg
theorem bF(c:Nat){id:Nat}{Q:Exit->Act->World->Prop}{a:Act}{w:World}{l:List Oper}(C1:World->Prop)(hm:P.follows .mixedOrders=true)(hB:Region.lexB .any l.toArray=true)
    (hk:((gC .any l.toArray&&rI .any l.toArray c)&&match l[c]? with|some o=>o.guard.isNone|none=>false)=true)
    (h:dS (nF P c (fun w' =>∃n,w' =w.drewN n) C1) l.toArray (fun a' =>∀w', C1 w' -> Q .normal a' w') 0 l a):(Code.region id l.toArray true).wp P Q a w:=by
 simp only[Region.lexB,qX]at hB;rw[qX,qX]at hk;obtain⟨⟨hk1,hk3⟩,hk2⟩:=hk;have hcl:c<l.length:=by {
 cases ho:l[c]? with
 | none=>rw[ho]at hk2;cases hk2
 | some o=>exact(qT.1 ho).1};have hg:∀o,l.toArray[c]? =some o->o.guard=none:=by {
 intro o ho;simp only[List.getElem?_toArray]at ho;rw[ho]at hk2;simpa using hk2};refine wp_region_any hm (sB (Q:=fun a' =>∀w', C1 w' -> Q .normal a' w') (C0:=fun w' =>∃n,w' =w.drewN n) (C1:=C1) (c:=c) (by simpa using hcl) hk1 hk3 hg (fun _ w' hw' h=>h w' hw') _ _ _ _ (by simp) ?_ ?_ ?_)
 · intro j oj _ hl;rw[fK]at hl;cases hl
 {
 unfold lG;rw[qC (by simp[hcl])];exact⟨1,rfl⟩}
 {
 have:=uF (G:=nF P c (fun w' =>∃n,w' =w.drewN n) C1) (md:=.any) hB.1 l 0 (Array.replicate l.toArray.size false) a (by simp) (by simpa using hB.2) h;simpa using this}
theorem bM{C0 C1:World->Prop}{Q:Act->Prop}{k:Nat}{o:Oper}{rest:List Oper}{a:Act}(hk:k<c)
    (h:∀K:Act->Prop,(∀a,dS (nF P c C0 C1) ops Q (k+1) rest a->K a)->if Region.wanted o (yielded ops a.tmps) then o.quiet P a C0 K else K (a.put o.dst undef)):dS (nF P c C0 C1) ops Q k (o::rest) a:=by
 have h:=h _ (fun _ h=>h);unfold dS;by_cases hw:Region.wanted o (yielded ops a.tmps)=true
 {
 rw[qD hw]at *;obtain⟨v,h1,h2⟩:=h;refine⟨v,?_,h2⟩;unfold nF;rw[qD hk];exact h1}
 · rw[qC hw]at *;exact h
theorem aU{C0 C1:World->Prop}{Q:Act->Prop}{o:Oper}{rest:List Oper}{a:Act}(hg:o.guard=none)(v:Value)
    (h0:∀w,C0 w->dN P C1 v ((execOp a.eval o).run P w)) (h:dS (nF P c C0 C1) ops Q (c+1) rest (a.put o.dst v)):dS (nF P c C0 C1) ops Q c (o::rest) a:=by
 unfold dS;rw[qD (by simp[Region.wanted,hg])];refine⟨v,?_,h⟩;unfold nF;rw[qC (Nat.lt_irrefl _),qD rfl];exact h0
def Oper.pure_(P:Program)(o:Oper)(a:Act)(next:Act->Prop):Prop:=∃v,(∀w,lF w v ((execOp a.eval o).run P w))/\next (a.put o.dst v)
theorem eF{C0 C1:World->Prop}{Q:Act->Prop}{k:Nat}{o:Oper}{rest:List Oper}{a:Act}(hk:c<k)
    (h:∀K:Act->Prop,(∀a,dS (nF P c C0 C1) ops Q (k+1) rest a->K a)->if Region.wanted o (yielded ops a.tmps) then Oper.pure_ P o a K else K (a.put o.dst undef)):dS (nF P c C0 C1) ops Q k (o::rest) a:=by
 have h:=h _ (fun _ h=>h);unfold dS;by_cases hw:Region.wanted o (yielded ops a.tmps)=true
 {
 rw[qD hw]at *;obtain⟨v,h1,h2⟩:=h;refine⟨v,?_,h2⟩;unfold nF;rw[qC (by omega),qC (by omega)];exact h1}
 · rw[qC hw]at *;exact h
theorem bN{C0 C1:World->Prop}{Q:Act->Prop}{k:Nat}{a:Act}(h:Q a):dS (nF P c C0 C1) ops Q k [] a:=h
attribute [go_sem] Oper.pure_ lF dN
end
def iB(P:Program)(cs ps:List Nat)(C:Nat->World->Prop)(i:Nat)(s:Sem Go.Next)(v:Value):Prop:=
  if i<cs.headD 0/\i∉ps then ∀w,C 0 w->Oper.quietUpon P (C 0) w v (s.run P w)
  else if i∈cs then ∀w,C (cs.idxOf i) w->dN P (C (cs.idxOf i+1)) v (s.run P w) else ∀w,lF w v (s.run P w)
section
variable {P:Program} {ops:Array Oper} {md:Region.Mode} {C:Nat->World->Prop} {cs ps:List Nat}
def rowB(md:Region.Mode)(ops:Array Oper):List Nat->Bool
  | []=>true
  | [c]=>decide (c<ops.size)
  | c::d::r=>decide (c<ops.size)&&decide (c<d)&&(uG md ops (d+1) ((Array.replicate ops.size false).setIfInBounds d true)).getD c false&&rowB md ops (d::r)
theorem yV{L:Array Bool}(hL:uH md ops L){c d:Nat}(hB:(uG md ops (d+1) ((Array.replicate ops.size false).setIfInBounds d true)).getD c false=true)(hd:L.getD d false=true):L.getD c false=true:=by
 refine mO hL (d+1) _ ?_ c hB;intro j hj;by_cases e:d=j
 · rw[<-e];exact hd
 {
 rw[getD_set_ne false e,fK]at hj;cases hj}
def cnt(cs:List Nat)(L:Array Bool):Nat:=cs.countP (fun c=>L.getD c false)
theorem aEN:∀{cs:List Nat},rowB md ops cs=true->∀c∈cs,c<ops.size
  | [],_,c,hc=>by cases hc
  | [d],h,c,hc=>by simp[rowB]at h;simp at hc;omega
  | d::e::r,h,c,hc=>by
    simp only[rowB,qX,decide_eq_true_eq]at h;rcases qB.1 hc with rfl|hc
    · exact h.1.1.1
    · exact aEN h.2 c hc
theorem jZ:∀{cs:List Nat},rowB md ops cs=true->cs.Pairwise (· < ·)
  | [],_=>.nil
  | [d],_=>by simp
  | d::e::r,h=>by
    simp only[rowB,qX,decide_eq_true_eq]at h;have ih:=jZ h.2;refine List.Pairwise.cons (fun x hx=>?_) ih;rcases qB.1 hx with rfl|hx
    · exact h.1.1.2
    · exact Nat.lt_trans h.1.1.2 (List.rel_of_pairwise_cons ih hx)
theorem gD{L:Array Bool}(hL:uH md ops L):∀{cs:List Nat},rowB md ops cs=true->∀q c,cs[q]? =some c->(L.getD c false=true↔q<cnt cs L)
  | [],_,q,c,h=>by simp at h
  | [d],_,q,c,h=>by
    cases q with
    | succ q=>simp at h
    | zero=>
      simp at h;subst h;simp only[cnt,List.countP_cons,List.countP_nil];by_cases hd:L.getD d false=true<;>simp[hd]
  | d::e::r,hB,q,c,h=>by
    simp only[rowB,qX]at hB;have ih:=gD hL hB.2;by_cases hd:L.getD d false=true
    · have hcnt : cnt (d :: e :: r) L = cnt (e :: r) L + 1 := by simp only [cnt, List.countP_cons, hd]; simp
      cases q with
      | zero=>simp at h;subst h;rw[hcnt];simp[hd]
      | succ q=>
        have:=ih q c (by simpa using h);rw[hcnt,this];omega
    · have he : ¬ L.getD e false = true := fun he => hd (yV hL hB.1.2 he)
      have h0:cnt (e::r) L=0:=by
        have:=ih 0 e (by simp);apply qQ;intro hne;exact he (this.2 (by omega))
      have hcnt:cnt (d::e::r) L=0:=by
        have:cnt (d::e::r) L=cnt (e::r) L:=by simp only[cnt,List.countP_cons];simp[hd]
        rw[this,h0]
      rw[hcnt];cases q with
      | zero=>simp at h;subst h;simp[hd]
      | succ q=>
        have:=ih q c (by simpa using h);rw[h0]at this;rw[this];omega
theorem aGN{L:Array Bool}{i:Nat}(hs:i<L.size)(hl:L.getD i false=false)(hnd:cs.Nodup)(hi:i∈cs):cnt cs (L.setIfInBounds i true)=cnt cs L+1:=by
 unfold cnt;induction cs with
 | nil=>cases hi
 | cons d r ih=>{
 simp only[qO]at hnd;simp only[List.countP_cons];by_cases e:d=i
 {
 subst e;have h1:r.countP (fun c=>(L.setIfInBounds d true).getD c false)=r.countP (fun c=>L.getD c false):=by {
 apply List.countP_congr;intro c hc;rw[getD_set_ne false (show d≠c by rintro rfl;exact hnd.1 hc)]};rw[h1];have h2:(L.setIfInBounds d true).getD d false=true:=by simp[hs]
 rw[h2,hl];simp}
 {
 rw[ih hnd.2 ((qB.1 hi).resolve_left (fun h=>e h.symm)),getD_set_ne false (fun h=>e h.symm)];omega}}
theorem xB{L:Array Bool}{i:Nat}(hi:i∉cs):cnt cs (L.setIfInBounds i true)=cnt cs L:=by
 unfold cnt;apply List.countP_congr;intro c hc;rw[getD_set_ne false (show i≠c by rintro rfl;exact hi hc)]
def allBefore' (md:Region.Mode)(ops:Array Oper)(c:Nat)(ps:List Nat):Bool:=(List.range c).all fun i=>ps.contains i||(uG md ops (c+1) ((Array.replicate ops.size false).setIfInBounds c true)).getD i false
theorem before_listed' {L:Array Bool}{c:Nat}(hL:uH md ops L)(hB:allBefore' md ops c ps=true)(hc:L.getD c false=true):∀i,i<c/\i∉ps->L.getD i false=true:=by
 intro i hi;have h1:=List.all_eq_true.1 hB i (by simpa using hi.1);simp only[Bool.or_eq_true,List.contains_iff_mem]at h1;refine mO hL (c+1) _ ?_ i (h1.resolve_left hi.2);intro j hj;by_cases e:c=j
 · rw[<-e];exact hc
 {
 rw[getD_set_ne false e,fK]at hj;cases hj}
theorem yW(hrow:rowB md ops cs=true)(hne:cs≠[])(hb:gC md ops=true)(hbf:allBefore' md ops (cs.headD 0) ps=true)(hu:∀c∈cs,∀o,ops[c]? =some o->o.guard=none){Q:Act->Prop}{Q' :Exit->Act->World->Prop}(hQ:∀a w,C cs.length w->Q a->Q' .normal a w):∀(fuel:Nat) (listed:Array Bool) (a:Act) (w:World),listed.size=ops.size ->
    uH md ops listed->C (cnt cs listed) w->aBH (iB P cs ps C) md ops Q fuel listed a->wpAny P md ops Q' fuel listed a w:=by
 have hend:∀listed:Array Bool,listed.size=ops.size->Region.ready md ops listed=[]->cnt cs listed=cs.length:=by {
 intro listed hs h0;unfold cnt;rw[List.countP_eq_length];intro c hc;exact mP hs hb h0 c (aEN hrow c hc)};have hnd:cs.Nodup:=(jZ hrow).imp (fun h=>Nat.ne_of_lt h);intro fuel;induction fuel with
 | zero=>{
 intro listed a w hs _ hp h;exact⟨h.1,hQ _ _ (by rw[hend listed hs h.1]at hp;exact hp) h.2⟩}
 | succ fuel ih=>{
 intro listed a w hs hsh hp h;refine⟨fun h0=>hQ _ _ (by rw[hend listed hs h0]at hp;exact hp) (h.1 h0),fun i hi=>?_⟩;have hg:=h.2 i hi;obtain⟨hun,oi,hoi,_⟩:=mem_ready.1 hi;have hil:i<ops.size:=(qM.1 hoi).1;have hs' :(listed.setIfInBounds i true).size=ops.size:=by simp[hs]
 have hl0:listed.getD i false=false:=by simp[hs,hil]at hun ⊢;exact hun
 have next:∀a' w', C (cnt cs (listed.setIfInBounds i true)) w' -> aBH (iB P cs ps C) md ops Q fuel (listed.setIfInBounds i true) a' -> wpAny P md ops Q' fuel (listed.setIfInBounds i true) a' w' :=
   fun a' w' hp' hg' =>ih _ a' w' hs' (hsh.set hi) hp' hg'
 unfold gOp at hg;unfold wpOp;simp only[hoi]at hg ⊢;by_cases hmem:i∈cs
 {
 have hcs:=aGN (L:=listed) (by omega) hl0 hnd hmem;have hhead:¬i<cs.headD 0:=by {
 cases hcc:cs with
 | nil=>exact absurd hcc hne
 | cons d r=>{
 rw[hcc]at hmem;have:=jZ hrow;rw[hcc]at this;rcases qB.1 hmem with rfl|hm
 · simp
 · have:=List.rel_of_pairwise_cons this hm;simp;omega}};have hidx:cs.idxOf i=cnt cs listed:=by {
 have hlt:=List.idxOf_lt_length_of_mem hmem;have hget:cs[cs.idxOf i]? =some i:=by rw[qL hlt,List.getElem_idxOf]
 have h1:=gD hsh hrow _ _ hget;rw[hl0]at h1;have hge:cnt cs listed<=cs.idxOf i:=by {
 apply qQ;intro hx;have:=h1.2 (by omega);cases this};have h2:=gD (hsh.set hi) hrow _ _ hget;rw[hcs]at h2;have h3:(listed.setIfInBounds i true).getD i false=true:=by simp[hs,hil]
 have:=h2.1 h3;omega};have hw:Region.wanted oi (yielded ops a.tmps)=true:=by simp[Region.wanted,hu i hmem oi hoi]
 rw[qD hw]at hg ⊢;obtain⟨v,hv,hk⟩:=hg;unfold iB at hv;rw[qC (fun hx=>hhead hx.1),qD hmem,hidx]at hv;exact .inl (oB (fun w' hc' =>next _ w' (by rw[hcs];exact hc') hk) (hv w hp))}
 {
 have hcs:=xB (L:=listed) hmem;by_cases hw:Region.wanted oi (yielded ops a.tmps)=true
 {
 rw[qD hw]at hg ⊢;obtain⟨v,hv,hk⟩:=hg;unfold iB at hv;left
 by_cases hlt:i<cs.headD 0/\i∉ps
 {
 have h0:cnt cs listed=0:=by {
 cases hcc:cs with
 | nil=>exact absurd hcc hne
 | cons d r=>{
 apply qQ;intro hx;have h1:=(gD hsh hrow 0 d (by rw[hcc];rfl)).2 (by rw[hcc];omega);rw[hcc]at hlt hbf;rw[before_listed' hsh hbf h1 i hlt]at hl0;cases hl0}};rw[qD hlt]at hv;rw[h0]at hp;exact oA hp (fun w' hc' =>next _ w' (by rw[hcs,h0];exact hc') hk) (hv w hp)}
 {
 rw[qC hlt,qC hmem]at hv;exact xA (next _ w (by rw[hcs];exact hp) hk) (hv w)}}
 {
 rw[qC hw]at hg ⊢;exact next _ w (by rw[hcs];exact hp) hg}}}
theorem sC(cs ps:List Nat){id:Nat}{Q:Exit->Act->World->Prop}{a:Act}{w:World}{l:List Oper}(C:Nat->World->Prop)(hC:∀w', C 0 w' ↔ ∃n,w' =w.drewN n)(hm:P.follows .mixedOrders=true)(hB:Region.lexB .any l.toArray=true)
    (hk:(((gC .any l.toArray&&allBefore' .any l.toArray (cs.headD 0) ps)&&(rowB .any l.toArray cs&&!cs.isEmpty))&&cs.all fun c=>match l[c]? with|some o=>o.guard.isNone|none=>false)=true)
    (h:dS (iB P cs ps C) l.toArray (fun a' =>∀w', C cs.length w' -> Q .normal a' w') 0 l a):(Code.region id l.toArray true).wp P Q a w:=by
 simp only[Region.lexB,qX]at hB;rw[qX,qX,qX,qX]at hk;obtain⟨⟨⟨hk1,hk3⟩,hk4,hk5⟩,hk2⟩:=hk;have hne:cs≠[]:=by rintro rfl;simp at hk5
 have hg:∀c∈cs,∀o,l.toArray[c]? =some o->o.guard=none:=by {
 intro c hc o ho;have h1:=List.all_eq_true.1 hk2 c hc;simp only[List.getElem?_toArray]at ho;rw[ho]at h1;simpa using h1};refine wp_region_any hm (yW (Q:=fun a' =>∀w', C cs.length w' -> Q .normal a' w') (C:=C) (cs:=cs) (ps:=ps) hk4 hne hk1 hk3 hg (fun _ w' hw' h=>h w' hw') _ _ _ _ (by simp) ?_ ?_ ?_)
 · intro j oj _ hl;rw[fK]at hl;cases hl
 {
 have:cnt cs (Array.replicate l.toArray.size false)=0:=by unfold cnt;rw[List.countP_eq_zero];intro c _;rw[fK];simp
 rw[this];exact(hC _).2 ⟨1,rfl⟩}
 {
 have:=uF (G:=iB P cs ps C) (md:=.any) hB.1 l 0 (Array.replicate l.toArray.size false) a (by simp) (by simpa using hB.2) h;simpa using this}
theorem mQ{Q:Act->Prop}{k:Nat}{o:Oper}{rest:List Oper}{a:Act}(hk:decide (k<cs.headD 0/\k∉ps)=true)
    (h:∀K:Act->Prop,(∀a,dS (iB P cs ps C) ops Q (k+1) rest a->K a)->if Region.wanted o (yielded ops a.tmps) then o.quiet P a (C 0) K else K (a.put o.dst undef)):dS (iB P cs ps C) ops Q k (o::rest) a:=by
 have h:=h _ (fun _ h=>h);unfold dS;by_cases hw:Region.wanted o (yielded ops a.tmps)=true
 {
 rw[qD hw]at *;obtain⟨v,h1,h2⟩:=h;refine⟨v,?_,h2⟩;unfold iB;rw[qD (of_decide_eq_true hk)];exact h1}
 · rw[qC hw]at *;exact h
theorem iX{Q:Act->Prop}{k q:Nat}{o:Oper}{rest:List Oper}{a:Act}(hk:(decide (¬(k<cs.headD 0/\k∉ps))&&decide (k∈cs)&&decide (cs.idxOf k=q))=true)(hg:o.guard=none)(v:Value)
    (h0:∀w,C q w->dN P (C (q+1)) v ((execOp a.eval o).run P w)) (h:dS (iB P cs ps C) ops Q (k+1) rest (a.put o.dst v)):dS (iB P cs ps C) ops Q k (o::rest) a:=by
 simp only[qX,decide_eq_true_eq]at hk;unfold dS;rw[qD (by simp[Region.wanted,hg])];refine⟨v,?_,h⟩;unfold iB;rw[qC hk.1.1,qD hk.1.2,hk.2];exact h0
theorem kA{Q:Act->Prop}{k:Nat}{o:Oper}{rest:List Oper}{a:Act}(hk:(decide (¬(k<cs.headD 0/\k∉ps))&&decide (k∉cs))=true)
    (h:∀K:Act->Prop,(∀a,dS (iB P cs ps C) ops Q (k+1) rest a->K a)->if Region.wanted o (yielded ops a.tmps) then Oper.pure_ P o a K else K (a.put o.dst undef)):dS (iB P cs ps C) ops Q k (o::rest) a:=by
 simp only[qX,decide_eq_true_eq]at hk;have h:=h _ (fun _ h=>h);unfold dS;by_cases hw:Region.wanted o (yielded ops a.tmps)=true
 {
 rw[qD hw]at *;obtain⟨v,h1,h2⟩:=h;refine⟨v,?_,h2⟩;unfold iB;rw[qC hk.1,qC hk.2];exact h1}
 · rw[qC hw]at *;exact h
theorem xC{Q:Act->Prop}{k:Nat}{a:Act}(h:Q a):dS (iB P cs ps C) ops Q k [] a:=h
end
section
variable {P:Program} {ops:Array Oper} {C:World->Prop}
theorem yX{id:Nat}{Q:Exit->Act->World->Prop}{a:Act}{w:World}{l:List Oper}(C:World->Prop)(hm:P.follows .mixedOrders=true)(hB:Region.lexB .any l.toArray=true)(hC:C w.drew)
    (h:wpQuiet P l.toArray C (fun a' =>∀w', C w' -> Q .normal a' w') l a):(Code.region id l.toArray true).wp P Q a w:=
  wp_region_quiet hm hB hC (by simpa using h)
theorem aEO{Q:Act->Prop}{o:Oper}{rest:List Oper}{a:Act}
    (h:∀K:Act->Prop,(∀a,wpQuiet P ops C Q rest a->K a)->if Region.wanted o (yielded ops a.tmps) then Oper.pure_ P o a K else K (a.put o.dst undef)):wpQuiet P ops C Q (o::rest) a:=by
 have h:=h _ (fun _ h=>h);unfold wpQuiet;by_cases hw:Region.wanted o (yielded ops a.tmps)=true
 {
 rw[qD hw]at *;obtain⟨v,h1,h2⟩:=h;refine⟨v,fun w _=>?_,h2⟩;have:=h1 w;unfold Oper.quietAt;revert this;generalize (execOp a.eval o).run P w=r;intro this;cases r with
 | halt x w' =>exact this.elim
 | ok x w' =>{
 cases x with
 | value u=>exact⟨this.1,this.2⟩
 | skip=>exact⟨this.1,this.2⟩
 | _=>exact this.elim}}
 · rw[qC hw]at *;exact h
structure CW (P:Program) (ops:Array Oper) (C:World->Prop) (Q:Act->Prop) (l:List Oper) (a:Act):Prop where
  out:wpQuiet P ops C Q l a
theorem dB{id:Nat}{Q:Exit->Act->World->Prop}{a:Act}{w:World}{l:List Oper}(C:World->Prop)(hm:P.follows .mixedOrders=true)(hB:Region.lexB .any l.toArray=true)(hC:C w.drew)
    (h:CW P l.toArray C (fun a' =>∀w', C w' -> Q .normal a' w') l a):(Code.region id l.toArray true).wp P Q a w:=yX C hm hB hC h.out
theorem tA{Q:Act->Prop}{o:Oper}{rest:List Oper}{a:Act}(hw:Region.wanted o (yielded ops a.tmps)=false)(h:CW P ops C Q rest (a.put o.dst undef)):CW P ops C Q (o::rest) a:=by
 refine⟨?_⟩;unfold wpQuiet;rw[qC (by rw[hw];exact Bool.false_ne_true)];exact h.out
theorem aH{Q:Act->Prop}{o:Oper}{rest:List Oper}{a:Act}(hw:Region.wanted o (yielded ops a.tmps)=true)
    (h:∀K:Act->Prop,Hid (∀a,CW P ops C Q rest a->K a)->Oper.pure_ P o a K):CW P ops C Q (o::rest) a:=
  ⟨aEO fun K hK=>by rw[qD hw];exact h K (qA (fun a h=>hK a h.out))⟩
theorem bC{Q:Act->Prop}{o:Oper}{rest:List Oper}{a:Act}(hw:Region.wanted o (yielded ops a.tmps)=true)(v:Value)
    (h0:∀w,C w->Oper.quietUpon P C w v ((execOp a.eval o).run P w)) (h:CW P ops C Q rest (a.put o.dst v)):CW P ops C Q (o::rest) a:=by
 refine⟨?_⟩;unfold wpQuiet;rw[qD hw];exact⟨v,h0,h.out⟩
theorem gF{Q:Act->Prop}{a:Act}(h:Q a):CW P ops C Q [] a:=⟨h⟩
end
theorem wG{w:World}{base:Nat}{e:TypeId}{size:Nat}{v:Value}{n:Nat}{xs:List Value}(h:w.ownsRow base e size v n xs):w.ownsRow 0 e size v n xs:=
  ⟨h.1,h.2.elim .inl (fun⟨g,cap,cur,k1,_,k3⟩=>.inr ⟨g,cap,cur,k1,qS _,k3⟩)⟩
theorem aLK{P:Program}{w:World}{o:Oper}{a:Act}{K:Act->World->Prop}{Q:Exit->Act->World->Prop}(s x:Operand)(t:TypeId)
    (ho:o.op=.call { callee:=.builtin .append,args:=#[s,x],argTypes:=#[t,t] })
    (e:TypeId) (z:Value) (size bytes:Nat) (ht:P.underlying t=some (.slice e)) (hinfo:(P.info? e).map (fun i=>(i.zero,i.size,i.bytes))=some (some z,size,bytes)) (hzs:z.cells.size=size) (hsz:0<size)
    (v:Value) (n:Nat) (xs:List Value) (hs:a.eval s=v) (hown:w.ownsRow 0 e size v n xs)
    (b:Nat) (et:TypeId) (news:List Value) (hx:a.eval x=.slice (some ⟨b,0,none⟩) 1 1) (hb:Blk w b et news) (hl:news.length=size) (h1:∀u∈news,u.oneCell' =true)
    (hn:n+1<=4294967296) (hby:bytes<=1024)
    (h:∀g cap w', w'.ownsRow 0 e size (.slice (some ⟨g,0,none⟩) (n+1) cap) (n+1) (xs++news)->w.grownBy w' v.ownBlock->(v.ownBlock=some g∨w.heap.size<=g) ->
      K (a.put o.dst (.slice (some ⟨g,0,none⟩) (n+1) cap)) w'):o.wp P a w K Q:=by
 obtain⟨i0,hi,hz0,hz1,hz2⟩:=info_parts hinfo;have hbb:(n+1)*bytes<=140737488355328:=by {
 have:(n+1)*bytes<=4294967296*1024:=Nat.mul_le_mul hn hby;omega};obtain⟨g,cap,w', hr,h2,h3,h4⟩:=yJ (P:=P) w t o.type e i0 z size bytes ht hi hz0 hz1 hz2 hzs hsz v n xs hown ⟨b,0,none⟩ 1 1 news (by rw[Nat.one_mul];exact hl) (fun j u hj=>by rw[Addr.add_lit,Nat.zero_add,hb.cell];exact hj) h1 (by decide) (by unfold maxLen;omega) hbb;unfold Oper.wp execOp;simp only[ho,resolve,invoke,builtin,Sem.run_bind,Sem.run_pure,Result.andThen_ok,List.map_toArray,List.map_cons,List.map_nil,hs,hx,hr];exact h g cap w' h2 h3 h4
theorem lH{P:Program}{w:World}{ops:Array Oper}{rest:List Oper}{o:Oper}{a:Act}{Q:Exit->Act->World->Prop}(hgd:o.guard=none)(s x:Operand)(t:TypeId)
    (ho:o.op=.call { callee:=.builtin .append,args:=#[s,x],argTypes:=#[t,t] })
    (e:TypeId) (z:Value) (size bytes:Nat) (ht:P.underlying t=some (.slice e)) (hinfo:(P.info? e).map (fun i=>(i.zero,i.size,i.bytes))=some (some z,size,bytes)) (hzs:z.cells.size=size) (hsz:0<size)
    (v:Value) (n:Nat) (xs:List Value) (hs:a.eval s=v) (hown:w.ownsRow 0 e size v n xs)
    (b:Nat) (et:TypeId) (news:List Value) (hx:a.eval x=.slice (some ⟨b,0,none⟩) 1 1) (hb:Blk w b et news) (hl:news.length=size) (h1:∀u∈news,u.oneCell' =true)
    (hn:n+1<=4294967296) (hby:bytes<=1024)
    (h:∀g cap w', w'.ownsRow 0 e size (.slice (some ⟨g,0,none⟩) (n+1) cap) (n+1) (xs++news)->w.grownBy w' v.ownBlock->(v.ownBlock=some g∨w.heap.size<=g) ->
      wpList P ops Q rest (a.put o.dst (.slice (some ⟨g,0,none⟩) (n+1) cap)) w'):wpList P ops Q (o::rest) a w:=
  wpList_plain hgd fun _ hK=>aLK s x t ho e z size bytes ht hinfo hzs hsz v n xs hs hown b et news hx hb hl h1 hn hby fun g cap w' h2 h3 h4=>hK _ _ (h g cap w' h2 h3 h4)
theorem xD{P:Program}{w:World}{ops:Array Oper}{o:Oper}{a:Act}{K:Act->World->Prop}{Q:Exit->Act->World->Prop}{E:Prop}(hgd:o.guard=none)(s x:Operand)(t:TypeId)
    (ho:o.op=.call { callee:=.builtin .append,args:=#[s,x],argTypes:=#[t,t] })
    (e:TypeId) (z:Value) (size bytes:Nat) (ht:P.underlying t=some (.slice e)) (hinfo:(P.info? e).map (fun i=>(i.zero,i.size,i.bytes))=some (some z,size,bytes)) (hzs:z.cells.size=size) (hsz:0<size)
    (v:Value) (n:Nat) (xs:List Value) (hs:a.eval s=v) (hown:w.ownsRow 0 e size v n xs)
    (b:Nat) (et:TypeId) (news:List Value) (hx:a.eval x=.slice (some ⟨b,0,none⟩) 1 1) (hb:Blk w b et news) (hl:news.length=size) (h1:∀u∈news,u.oneCell' =true)
    (hn:n+1<=4294967296) (hby:bytes<=1024)
    (h:∀g cap w', w'.ownsRow 0 e size (.slice (some ⟨g,0,none⟩) (n+1) cap) (n+1) (xs++news)->w.grownBy w' v.ownBlock->(v.ownBlock=some g∨w.heap.size<=g) ->
      K (a.put o.dst (.slice (some ⟨g,0,none⟩) (n+1) cap)) w'):
    if Region.wanted o (yielded ops a.tmps)=true then Oper.wp P o a w K Q else E:=by
 rw[qD (by simp[Region.wanted,hgd])];exact aLK s x t ho e z size bytes ht hinfo hzs hsz v n xs hs hown b et news hx hb hl h1 hn hby h
def lvC(e:Lv):List Value:=[.int .i64 e.slot,.int .u64 e.seq,.int .u64 e.u,.int .u64 e.v,.int .i64 e.wt,.int .i64 e.t,.int .i64 e.x]
abbrev lvA(e:Lv):Value:=.agg #[.int .i64 e.slot,.int .u64 e.seq,.int .u64 e.u,.int .u64 e.v,.int .i64 e.wt,.int .i64 e.t,.int .i64 e.x]
def yY:Value:=.agg #[.int .i64 0,.int .u64 0,.int .u64 0,.int .u64 0,.int .i64 0,.int .i64 0,.int .i64 0]
theorem Tryz.info74:(Tryz.prog.info? 74).map (fun i=>(i.zero,i.size,i.bytes))=some (some yY,7,56):=by kernel_rfl
def rowV(l:List Lv):List Value:=l.flatMap lvC
theorem xE(l:List Lv)(e:Lv):rowV (l++[e])=rowV l++lvC e:=by simp[rowV]
theorem oU(l:List Lv):(rowV l).length=l.length*7:=by
 induction l with
 | nil=>rfl
 | cons a r ih=>simp only[rowV,List.flatMap_cons,zF,qZ]at *;rw[ih];simp[lvC];omega
theorem yZ:∀{l:List Lv} {i:Nat} (hi:i<l.length) (j:Nat),j<7->(rowV l)[i*7+j]? =(lvC l[i])[j]?
  | e::l,0,_,j,hj=>by
    show(lvC e++rowV l)[0*7+j]? =(lvC e)[j]?
    rw[List.getElem?_append_left (by simp[lvC];omega)];congr 1;omega
  | e::l,i+1,hi,j,hj=>by
    show(lvC e++rowV l)[(i+1)*7+j]? =_
    rw[List.getElem?_append_right (by simp[lvC];omega)];have:=yZ (l:=l) (i:=i) (by simpa using hi) j hj;rw[show(i+1)*7+j-(lvC e).length=i*7+j by simp[lvC];omega,this];simp
theorem aLL(l:List Lv):∀u∈rowV l,u.oneCell' =true:=by
 intro u hu;obtain⟨e,_,he⟩:=List.mem_flatMap.1 hu;simp[lvC]at he;rcases he with rfl|rfl|rfl|rfl|rfl|rfl|rfl<;>rfl
theorem dT{w:World}{base:Nat}{e:TypeId}{size:Nat}{v:Value}{n:Nat}{xs:List Value}(h:w.ownsRow base e size v n xs){q:Nat}(hq:v.ownBlock=some q):q<w.heap.size:=by
 rcases h.2 with⟨rfl,_⟩|⟨g,cap,cur,rfl,_,hh,_⟩
 · cases hq
 · simp[Value.ownBlock]at hq;subst hq;exact(qM.1 hh).1
def dF(w:World)(v:Value)(l:List Lv):Prop:=w.ownsRow 0 74 7 v l.length (rowV l)
section
variable {w w' :World} {v:Value} {l:List Lv}
theorem dF.fr{S:List Nat}(h:dF w v l)(hf:Fr S w w')(hs:∀q,v.ownBlock=some q->q∉S):dF w' v l:=
  aL h (fun q hq=>hf.keep q (dT h hq) (hs q hq))
theorem dF.fr0(h:dF w v l)(hf:Fr [] w w'):dF w' v l:=h.fr hf (by simp)
theorem dF.slice(h:dF w v l):∃a cap,v=.slice a l.length cap:=aO h
theorem dF.nil(w:World):dF w (.slice none 0 0) []:=⟨rfl,.inl ⟨rfl,rfl⟩⟩
theorem dF.lt(h:dF w v l){q:Nat}(hq:v.ownBlock=some q):q<w.heap.size:=dT h hq
def aIT(w:World)(b o:Nat)(e:Lv):Prop:=
  w.cell? ⟨b,o,none⟩=some (.int .i64 e.slot)/\w.cell? ⟨b,o+1,none⟩=some (.int .u64 e.seq)/\w.cell? ⟨b,o+2,none⟩=some (.int .u64 e.u)/\w.cell? ⟨b,o+3,none⟩=some (.int .u64 e.v) /\
    w.cell? ⟨b,o+4,none⟩=some (.int .i64 e.wt)/\w.cell? ⟨b,o+5,none⟩=some (.int .i64 e.t)/\w.cell? ⟨b,o+6,none⟩=some (.int .i64 e.x)
theorem dF.at(h:dF w v l){i:Nat}(hi:i<l.length):∃b cap,v=.slice (some ⟨b,0,none⟩) l.length cap/\l.length<=cap/\b<w.heap.size/\(∀j,w.frozen? ⟨b,j,none⟩=false)/\aIT w b (i*7) l[i]:=by
 obtain⟨h1,h2⟩:=h;rcases h2 with⟨rfl,h0⟩|⟨g,cap,cur,rfl,_,hh,hn,hm,hsz,hxs⟩
 · omega
 {
 have key:∀j,j<7->w.cell? ⟨g,i*7+j,none⟩=(lvC l[i])[j]? :=by {
 intro j hj;rw[<-yZ hi j hj,<-hxs,List.getElem?_take,qD (by omega)];simp[World.cell?,hh]};exact⟨g,cap,rfl,hn,(qM.1 hh).1,fun j=>by simp[World.frozen?,hh],key 0 (by omega),key 1 (by omega),key 2 (by omega),key 3 (by omega),key 4 (by omega),key 5 (by omega),key 6 (by omega)⟩}
theorem Blk.lvAt{b:Nat}{t:TypeId}{e:Lv}(h:Blk w b t (lvC e)):aIT w b 0 e:=⟨h.cell 0,h.cell 1,h.cell 2,h.cell 3,h.cell 4,h.cell 5,h.cell 6⟩
end
def put7(w:World)(b o:Nat)(e:Lv):World:=
  ((((((w.setCell ⟨b,o,none⟩ (.int .i64 e.slot)).setCell ⟨b,o+1,none⟩ (.int .u64 e.seq)).setCell ⟨b,o+2,none⟩ (.int .u64 e.u)).setCell ⟨b,o+3,none⟩ (.int .u64 e.v)).setCell ⟨b,o+4,none⟩ (.int .i64 e.wt)).setCell ⟨b,o+5,none⟩ (.int .i64 e.t)).setCell ⟨b,o+6,none⟩ (.int .i64 e.x)
theorem aBI:∀{l:List Lv} {i:Nat} (_:i<l.length) (e:Lv),
    ((((((((rowV l).set (i*7) (.int .i64 e.slot)).set (i*7+1) (.int .u64 e.seq)).set (i*7+2) (.int .u64 e.u)).set (i*7+3) (.int .u64 e.v)).set (i*7+4) (.int .i64 e.wt)).set (i*7+5) (.int .i64 e.t)).set (i*7+6) (.int .i64 e.x))=rowV (l.set i e)
  | a::l,0,_,e=>by simp[rowV,lvC,qU]
  | a::l,i+1,hi,e=>by
    have ih:=aBI (l:=l) (i:=i) (by simpa using hi) e;have hs:∀(xs:List Value) (k:Nat) (u:Value),(lvC a++xs).set (k+7) u=lvC a++xs.set k u:=fun xs k u=>by
      rw[List.set_append_right _ _ (by simp[lvC])];simp[lvC]
    show((((((((lvC a++rowV l).set _ _).set _ _).set _ _).set _ _).set _ _).set _ _).set _ _)=lvC a++rowV (l.set i e)
    rw[<-ih,show(i+1)*7=i*7+7 by omega,hs,show i*7+7+1=i*7+1+7 by omega,hs,show i*7+7+2=i*7+2+7 by omega,hs,show i*7+7+3=i*7+3+7 by omega,hs,
      show i*7+7+4=i*7+4+7 by omega,hs,show i*7+7+5=i*7+5+7 by omega,hs,show i*7+7+6=i*7+6+7 by omega,hs]
theorem dW{w:World}{e:TypeId}{size g n cap i:Nat}{xs:List Value}(h:w.ownsRow 0 e size (.slice (some ⟨g,0,none⟩) n cap) n xs)(u:Value):
    (w.setCell ⟨g,i,none⟩ u).ownsRow 0 e size (.slice (some ⟨g,0,none⟩) n cap) n (xs.set i u):=by
 obtain⟨h1,h2⟩:=h;refine⟨by simpa using h1,?_⟩;rcases h2 with⟨h2,_⟩|⟨g', cap', cur,e1,_,hh,hn,hm,hsz,hxs⟩
 · cases h2
 {
 simp only[qP,qI,Addr.mk.injEq,and_true,true_and]at e1;obtain⟨rfl,rfl⟩:=e1;refine .inr ⟨g,cap,cur.setIfInBounds i u,rfl,qS _,?_,hn,hm,by simpa using hsz,?_⟩
 {
 simp only[World.setCell,Array.getElem?_modify];simp[hh]}
 · rw[<-hxs,Array.toList_setIfInBounds,List.take_set]}
theorem dF.set{w:World}{g cap:Nat}{l:List Lv}(h:dF w (.slice (some ⟨g,0,none⟩) l.length cap) l){i:Nat}(hi:i<l.length)(e:Lv):dF (put7 w g (i*7) e) (.slice (some ⟨g,0,none⟩) l.length cap) (l.set i e):=by
 unfold dF at *;rw[List.length_set,<-aBI hi];exact dW (dW (dW (dW (dW (dW (dW h _) _) _) _) _) _) _
theorem Fr.put7{S:List Nat}{w w' :World}(h:Fr S w w')(b o:Nat)(e:Lv)(hb:b∈S∨w.heap.size<=b):Fr S w (put7 w' b o e):=
  ((((((h.setCell _ _ hb).setCell _ _ hb).setCell _ _ hb).setCell _ _ hb).setCell _ _ hb).setCell _ _ hb).setCell _ _ hb
def dO(w:World)(v:Value)(p:List Nat):Prop:=w.ownsRow 0 3 1 v p.length (fO p)
section
variable {w w' :World} {v:Value} {p:List Nat}
theorem dO.fr{S:List Nat}(h:dO w v p)(hf:Fr S w w')(hs:∀q,v.ownBlock=some q->q∉S):dO w' v p:=
  aL h (fun q hq=>hf.keep q (dT h hq) (hs q hq))
theorem dO.fr0(h:dO w v p)(hf:Fr [] w w'):dO w' v p:=h.fr hf (by simp)
theorem dO.slice(h:dO w v p):∃a cap,v=.slice a p.length cap:=aO h
theorem dO.nil(w:World):dO w (.slice none 0 0) []:=⟨rfl,.inl ⟨rfl,rfl⟩⟩
theorem dO.lt(h:dO w v p){q:Nat}(hq:v.ownBlock=some q):q<w.heap.size:=dT h hq
theorem dO.at(h:dO w v p){i:Nat}(hi:i<p.length):∃b cap,v=.slice (some ⟨b,0,none⟩) p.length cap/\b<w.heap.size/\w.cell? ⟨b,i,none⟩=some (.int .i64 (p[i]'hi)):=by
 obtain⟨b,cap,e,_,h2,h3,_⟩:=bW h hi;exact⟨b,cap,e,h2,h3.trans (by simp[fO,hi])⟩
end
def okS:Value->Bool
  | .slice _ _ _=>true
  | _=>false
abbrev gG:Value:=.slice none 0 0
def nG(f:Nat->List Nat)(a:Nat)(l:List Nat):Nat->List Nat:=fun x=>if x=a then l else f x
theorem jH(f:Nat->List Nat)(a:Nat)(l:List Nat):nG f a l a=l:=by simp[nG]
theorem eG{f:Nat->List Nat}{a x:Nat}{l:List Nat}(h:x≠a):nG f a l x=f x:=by simp[nG,h]
abbrev U64:Nat:=18446744073709551616
structure oC (w:World) (mb:Nat) (iv:Int->Option Value) (f:Nat->List Nat) (n:Nat) (lb:List Nat):Prop where
  im:dA Tryz.prog 36 .u64 okS w mb iv n
  nm:mb∉lb
  lt:∀b∈lb,b<w.heap.size
  row:∀id:Nat,id<U64->((iv id).isSome=true↔f id≠[])/\dO w ((iv id).getD gG) (f id)/\∀q,((iv id).getD gG).ownBlock=some q->q∈lb
  inj:∀(id id' q:Nat),id<U64->id' < U64->((iv id).getD gG).ownBlock=some q->((iv id').getD gG).ownBlock=some q->id=id'
def oV(w:World)(mb:Nat)(f:Nat->List Nat)(n:Nat)(lb:List Nat):Prop:=∃iv,oC w mb iv f n lb
theorem oC.fr{w w' :World}{mb n:Nat}{iv:Int->Option Value}{f:Nat->List Nat}{lb S:List Nat}(h:oC w mb iv f n lb)(hf:Fr S w w')(h1:mb∉S)(h2:∀b∈lb,b∉S):oC w' mb iv f n lb:=
  ⟨h.im.same (hf.keep mb h.im.lt h1),h.nm,fun b hb=>Nat.lt_of_lt_of_le (h.lt b hb) hf.size,fun id hid=>⟨(h.row id hid).1,(h.row id hid).2.1.fr hf (fun q hq=>h2 q ((h.row id hid).2.2 q hq)),(h.row id hid).2.2⟩,h.inj⟩
theorem oC.set{w w1 w2:World}{mb n n2:Nat}{iv:Int->Option Value}{f:Nat->List Nat}{lb:List Nat}(h:oC w mb iv f n lb){id:Nat}(hid:id<U64){v1:Value}{l1:List Nat}(h1:dO w1 v1 l1)(hne:l1≠[])
    (hF:Fr ((iv id).getD gG).ownBlock.toList w w1) (hq:∀q,v1.ownBlock=some q->((iv id).getD gG).ownBlock=some q∨w.heap.size<=q)
    (hI:dA Tryz.prog 36 .u64 okS w2 mb (jY iv id (some v1)) n2) (hF2:Fr [mb] w1 w2):oC w2 mb (jY iv id (some v1)) (nG f id l1) n2 (lb++v1.ownBlock.toList):=by
 have hml:=h.im.lt;have hs1:=hF.size;have hs2:=hF2.size;have hqm:∀q,v1.ownBlock=some q->q≠mb:=fun q hqq e=>by
   subst e;rcases hq q hqq with e|e
   · exact h.nm ((h.row id hid).2.2 q e)
   · omega
 have hother:∀(x:Nat),x<U64->x≠id->∀q,((iv x).getD gG).ownBlock=some q->q∉((iv id).getD gG).ownBlock.toList/\q≠mb:=fun x hx hxn q hqq=>
   ⟨fun hm=>hxn (h.inj x id q hx hid hqq (by simpa using hm)),fun e=>h.nm (e▸(h.row x hx).2.2 q hqq)⟩
 refine⟨hI,fun hm=>?_,fun b hb=>?_,fun x hx=>?_,fun x y q hx hy hxq hyq=>?_⟩
 {
 rcases qE.1 hm with hm|hm
 · exact h.nm hm
 · exact hqm mb (by simpa using hm) rfl}
 {
 rcases qE.1 hb with hb|hb
 · have:=h.lt b hb;omega
 · have:=h1.lt (by simpa using hb);omega}
 {
 by_cases e:x=id
 {
 subst e;rw[cO,jH];refine⟨by simp[hne],h1.fr hF2 (fun q hqq hm=>?_),fun q hqq=>qE.2 (.inr (by simpa using hqq))⟩;exact hqm q hqq (by simpa using hm)}
 {
 rw[bK (by omega),eG e];obtain⟨a1,a2,a3⟩:=h.row x hx;exact⟨a1,(a2.fr hF (fun q hqq=>(hother x hx e q hqq).1)).fr hF2 (fun q hqq hm=>(hother x hx e q hqq).2 (by simpa using hm)),fun q hqq=>qE.2 (.inl (a3 q hqq))⟩}}
 {
 by_cases ex:x=id
 {
 by_cases ey:y=id
 · rw[ex,ey]
 {
 subst ex;rw[cO]at hxq;rw[bK (by omega)]at hyq;rcases hq q hxq with e|e
 · exact(h.inj y x q hy hx hyq e).symm
 · have:=h.lt q ((h.row y hy).2.2 q hyq);omega}}
 {
 rw[bK (by omega)]at hxq;by_cases ey:y=id
 {
 subst ey;rw[cO]at hyq;rcases hq q hyq with e|e
 · exact h.inj x y q hx hy hxq e
 · have:=h.lt q ((h.row x hx).2.2 q hxq);omega}
 {
 rw[bK (by omega)]at hyq;exact h.inj x y q hx hy hxq hyq}}}
theorem oC.del{w w1 w2:World}{mb n n2:Nat}{iv:Int->Option Value}{f:Nat->List Nat}{lb:List Nat}(h:oC w mb iv f n lb){id:Nat}(hid:id<U64)
    (hF:Fr ((iv id).getD gG).ownBlock.toList w w1) (hI:dA Tryz.prog 36 .u64 okS w2 mb (jY iv id none) n2) (hF2:Fr [mb] w1 w2):oC w2 mb (jY iv id none) (nG f id []) n2 lb:=by
 have hs1:=hF.size;have hs2:=hF2.size;have hother:∀(x:Nat),x<U64->x≠id->∀q,((iv x).getD gG).ownBlock=some q->q∉((iv id).getD gG).ownBlock.toList/\q≠mb:=fun x hx hxn q hqq=>
   ⟨fun hm=>hxn (h.inj x id q hx hid hqq (by simpa using hm)),fun e=>h.nm (e▸(h.row x hx).2.2 q hqq)⟩
 refine⟨hI,h.nm,fun b hb=>?_,fun x hx=>?_,fun x y q hx hy hxq hyq=>?_⟩
 · have:=h.lt b hb;omega
 {
 by_cases e:x=id
 {
 subst e;rw[cO,jH];exact⟨by simp,dO.nil _,fun q hqq=>by cases hqq⟩}
 {
 rw[bK (by omega),eG e];obtain⟨a1,a2,a3⟩:=h.row x hx;exact⟨a1,(a2.fr hF (fun q hqq=>(hother x hx e q hqq).1)).fr hF2 (fun q hqq hm=>(hother x hx e q hqq).2 (by simpa using hm)),a3⟩}}
 {
 by_cases ex:x=id
 · subst ex;rw[cO]at hxq;cases hxq
 {
 rw[bK (by omega)]at hxq;by_cases ey:y=id
 · subst ey;rw[cO]at hyq;cases hyq
 {
 rw[bK (by omega)]at hyq;exact h.inj x y q hx hy hxq hyq}}}
theorem oV.fr{w w' :World}{mb n:Nat}{f:Nat->List Nat}{lb S:List Nat}(h:oV w mb f n lb)(hf:Fr S w w')(h1:mb∉S)(h2:∀b∈lb,b∉S):oV w' mb f n lb:=by
 obtain⟨iv,h⟩:=h;exact⟨iv,h.fr hf h1 h2⟩
theorem kB{id:Nat}(h:id<U64):(Lit.int .u64 (id:Int)).wf=true:=by
 show(decide ((0:Int)<=id)&&decide ((id:Int)<=18446744073709551615))=true
 have h:id<18446744073709551616:=h;simp;omega
theorem aIU{a:Int}(h:(Lit.int .u64 a).wf=true):∃id:Nat,a=id/\id<U64:=by
 have h:(decide ((0:Int)<=a)&&decide (a<=18446744073709551615))=true:=h;simp only[qX,decide_eq_true_eq]at h;exact⟨a.toNat,by omega,show a.toNat<18446744073709551616 by omega⟩
structure Cls (c:Nat->Nat) (ps mb:Nat) (vl:Value) (la lt lb:List Nat):Prop where
  p:c ps=0
  m:c mb=1
  a:∀b∈la,c b=2
  t:∀b∈lt,c b=3
  l:∀q,vl.ownBlock=some q->c q=4
  b:∀b∈lb,c b=5
structure StB (w:World) (ps pa pt mb n:Nat) (vl:Value) (s:Sm) (la lt lb:List Nat) (c:Nat->Nat):Prop where
  hd:Blk w ps 145 [.int .i64 s.V,.int .i64 s.E,.int .u64 s.last,ptr pa,ptr pt,vl,.map (some mb)]
  ar:aR w pa s.A la
  tb:gV w pt s.M lt
  lv:dF w vl ((List.range n).map (aF s.L))
  inc:oV w mb (bU s.L) s.M.L.length lb
  sn:∀e∈s.L,e.slot<n
  nE:n<=s.E
  ok:s.Ok
  cls:Cls c ps mb vl la lt lb
def stK(ps mb:Nat)(vl:Value)(la lt lb:List Nat):List Nat:=ps::mb::(la++lt++vl.ownBlock.toList++lb)
def bA(w:World)(ps:Nat)(s:Sm)(K:List Nat):Prop:=∃pa pt mb n vl la lt lb c,StB w ps pa pt mb n vl s la lt lb c/\K=stK ps mb vl la lt lb
theorem oV.ltm{w:World}{mb n:Nat}{f:Nat->List Nat}{lb:List Nat}(h:oV w mb f n lb):mb<w.heap.size:=by
 obtain⟨iv,h⟩:=h;exact h.im.lt
theorem oV.ltb{w:World}{mb n:Nat}{f:Nat->List Nat}{lb:List Nat}(h:oV w mb f n lb):∀b∈lb,b<w.heap.size:=by
 obtain⟨iv,h⟩:=h;exact h.lt
section
variable {w w' :World} {ps pa pt mb n:Nat} {vl:Value} {s:Sm} {la lT lb K S:List Nat} {c:Nat->Nat}
theorem StB.fr(h:StB w ps pa pt mb n vl s la lT lb c)(hf:Fr S w w')(hd:∀q∈stK ps mb vl la lT lb,q∉S):StB w' ps pa pt mb n vl s la lT lb c:=
  ⟨hf.blk h.hd (hd _ (by simp[stK])),h.ar.fr hf (fun q hq=>hd q (by simp[stK,hq])),h.tb.fr hf (fun q hq=>hd q (by simp[stK,hq])),h.lv.fr hf (fun q hq=>hd q (by simp[stK,hq])),
    h.inc.fr hf (hd _ (by simp[stK])) (fun q hq=>hd q (by simp[stK,hq])),h.sn,h.nE,h.ok,h.cls⟩
theorem StB.lt(h:StB w ps pa pt mb n vl s la lT lb c):∀q∈stK ps mb vl la lT lb,q<w.heap.size:=by
 intro q hq;simp only[stK,qB,qE,Option.mem_toList]at hq;rcases hq with rfl|rfl|((hq|hq)|hq)|hq
 · exact h.hd.lt
 · exact h.inc.ltm
 · exact h.ar.lt q hq
 · exact h.tb.lt q hq
 · exact h.lv.lt hq
 · exact h.inc.ltb q hq
theorem bA.fr(h:bA w ps s K)(hf:Fr S w w')(hd:∀q∈K,q∉S):bA w' ps s K:=by
 obtain⟨pa,pt,mb,n,vl,la,lt,lb,c,h,rfl⟩:=h;exact⟨pa,pt,mb,n,vl,la,lt,lb,c,h.fr hf hd,rfl⟩
theorem bA.fr0(h:bA w ps s K)(hf:Fr [] w w'):bA w' ps s K:=h.fr hf (by simp)
theorem bA.lt(h:bA w ps s K):∀q∈K,q<w.heap.size:=by
 obtain⟨pa,pt,mb,n,vl,la,lt,lb,c,h,rfl⟩:=h;exact h.lt
theorem bA.ok(h:bA w ps s K):s.Ok:=by
 obtain⟨pa,pt,mb,n,vl,la,lt,lb,c,h,rfl⟩:=h;exact h.ok
end
theorem iK(l:List Nat):(jG l).Perm l:=List.mergeSort_perm _ _
theorem uI(l:List Nat):(jG l).Pairwise (·<= ·):=by
 have:=List.pairwise_mergeSort (le:=fun x y:Nat=>decide (x<=y)) (fun a b c h1 h2=>by simp at *;omega) (fun a b=>by simp;omega) l;exact this.imp (fun h=>by simpa using h)
theorem aLM{l:List Nat}(h:l.Nodup):(jG l).Pairwise (· < ·):=by
 have h1:=uI l;have h2:(jG l).Nodup:=(iK l).nodup_iff.2 h;exact(h1.and h2).imp (fun h=>by omega)
theorem aIV{l:List Nat}{x:Nat}:x∈jG l↔x∈l:=(iK l).mem_iff
theorem aLN{l l' :List Nat}(h:l.Perm l'):jG l=jG l' :=
  ((iK l).trans (h.trans (iK l').symm)).eq_of_pairwise (le:=fun x y=>decide (x<=y)) (fun a b _ _ h1 h2=>by simp at *;omega) ((uI l).imp (fun h=>by simpa using h)) ((uI l').imp (fun h=>by simpa using h))
theorem aLO{M:Md}{T:Tb}(_hA:T.A=M.ar)(hok:M.Ok)(hiff:∀id i,(id,i)∈M.L↔(T.used i/\T.ids i=id)):(M.L.map (·.1)).Perm ((fJ T.A).map T.ids):=by
 have h1:M.L.Perm ((fJ T.A).map fun i=>(T.ids i,i)):=by {
 rw[List.perm_ext_iff_of_nodup ((List.pairwise_map.1 hok.ids).imp (fun h e=>h (congrArg Prod.fst e))) (List.pairwise_map.2 ((lA T.A).imp (fun h e=>h (congrArg Prod.snd e))))];rintro⟨id,i⟩;rw[hiff,qW];constructor
 · rintro⟨hu,rfl⟩;exact⟨i,iG.2 hu,rfl⟩
 {
 rintro⟨k,hk,e⟩;simp only[zE]at e;obtain⟨rfl,rfl⟩:=e;exact⟨iG.1 hk,rfl⟩}};have:=h1.map (·.1);rw[List.map_map]at this;exact this
theorem aLP{w:World}{pt:Nat}{M:Md}{l:List Nat}(h:gV w pt M l):
    Calls Tryz.prog 164 #[ptr pt] w fun e w' =>∃v,e=.returned v/\w'.ownsRow 0 36 1 v M.L.length (oT (jG (M.L.map (·.1))))/\(∀q,v.ownBlock=some q->w.heap.size<=q)/\Fr [] w w' :=by
 obtain⟨T,hT,hA,hok,hiff⟩:=h;have hp:=aLO hA hok hiff;have hl:(fJ T.A).length=M.L.length:=by simpa using hp.length_eq.symm
 refine(aEK hT).mono ?_;rintro e w' ⟨v,rfl,h1,h2,h3⟩;rw[hl,<-aLN hp]at h1;exact⟨v,rfl,h1,h2,h3⟩
theorem aLQ{w:World}{pt:Nat}{M:Md}{l:List Nat}(h:gV w pt M l):
    Calls Tryz.prog 116 #[ptr pt] w fun e w' =>∃pt', e=.returned (ptr pt')/\∃l', gV w' pt' M l' /\ Fr [] w w' /\ ∀b∈l', w.heap.size<=b:=by
 obtain⟨T,hT,r⟩:=h;refine(aEL hT).mono ?_;rintro e w' ⟨pt', rfl,l', h1,h2,h3⟩;exact⟨pt', rfl,l', ⟨T,h1,r⟩,h2,h3⟩
theorem Md.Ok.len{M:Md}(h:M.Ok):M.L.length<=65536:=by
 have h1:=h.cnt;have h2:=h.ar.hb;have h3:=h.ar.hs;simp only[Md.ar]at h2 h3;omega
@[go_sem] theorem aXD(w:World)(r:Option Nat):(binOp .neq 143 (.map r) (.map none)).run Tryz.prog w=.ok (.bool (!r.isNone)) w:=run_neq_map_nil w _ _ _ r Tryz.underlying143
abbrev fF(b:Nat):Value:=.pointer (some ⟨b,0,none⟩)
section
variable {w w' :World} {ps:Nat} {s:Sm} {K:List Nat}
theorem bA.open(h:bA w ps s K):∃pa pt mb n vl la lT lb c,StB w ps pa pt mb n vl s la lT lb c/\K=stK ps mb vl la lT lb /\
    w.cell? ⟨ps,0,none⟩=some (.int .i64 s.V)/\w.cell? ⟨ps,1,none⟩=some (.int .i64 s.E)/\w.cell? ⟨ps,2,none⟩=some (.int .u64 s.last)/\w.cell? ⟨ps,3,none⟩=some (ptr pa)/\w.cell? ⟨ps,4,none⟩=some (ptr pt)/\w.cell? ⟨ps,5,none⟩=some vl/\w.cell? ⟨ps,6,none⟩=some (.map (some mb)):=by
 obtain⟨pa,pt,mb,n,vl,la,lT,lb,c,h,rfl⟩:=h;exact⟨pa,pt,mb,n,vl,la,lT,lb,c,h,rfl,h.hd.cell 0,h.hd.cell 1,h.hd.cell 2,h.hd.cell 3,h.hd.cell 4,h.hd.cell 5,h.hd.cell 6⟩
theorem gS(h:bA w ps s K):Calls Tryz.prog 96 #[fF ps] w fun e w' =>e=.returned (.bool true)/\w' =w:=by
 obtain⟨pa,pt,mb,n,vl,la,lT,lb,c,hB,rfl,c0,c1,c2,c3,c4,c5,c6⟩:=h.open;clear h hB;go_enter Tryz.func96,Tryz.ntmps96
 go_wp2
 go_ret;exact⟨rfl,rfl⟩
theorem aTY(h:bA w ps s K):Calls Tryz.prog 60 #[fF ps] w fun e w' =>e=.returned (.int .i64 s.L.length)/\w' =w:=by
 have HV:=qA (gS h);obtain⟨pa,pt,mb,n,vl,la,lT,lb,c,hB,rfl,c0,c1,c2,c3,c4,c5,c6⟩:=h.open;have hl:=mM hB.ar;rw[Sm.len_used hB.ok]at hl;have HL:=qA hl;clear h hB hl;go_enter Tryz.func60,Tryz.ntmps60
 go_wp2_with fail
 refine HV.out.mono ?_;rintro _ w ⟨rfl,rfl⟩;go_wp2_with fail
 refine HL.out.mono ?_;rintro _ w1 ⟨rfl,rfl⟩;go_wp2
 go_ret;exact⟨rfl,rfl⟩
theorem aLR(h:bA w ps s K):Calls Tryz.prog 59 #[fF ps] w fun e w' =>e=.returned (.int .i64 s.M.L.length)/\w' =w:=by
 have HV:=qA (gS h);obtain⟨pa,pt,mb,n,vl,la,lT,lb,c,hB,rfl,c0,c1,c2,c3,c4,c5,c6⟩:=h.open;have HL:=qA (aGM hB.tb);clear h hB;go_enter Tryz.func59,Tryz.ntmps59
 go_wp2_with fail
 refine HV.out.mono ?_;rintro _ w ⟨rfl,rfl⟩;go_wp2_with fail
 refine HL.out.mono ?_;rintro _ w1 ⟨rfl,rfl⟩;go_wp2
 go_ret;exact⟨rfl,rfl⟩
theorem oW(h:bA w ps s K)(id:Nat)(hid:id<18446744073709551616):Calls Tryz.prog 136 #[fF ps,.int .u64 id] w fun e w' =>e=.returned (.tuple #[.int .i64 ((s.M.find id).getD 0),.bool (s.M.find id).isSome])/\Fr [] w w' :=by
 have HV:=qA (gS h);obtain⟨pa,pt,mb,n,vl,la,lT,lb,c,hB,rfl,c0,c1,c2,c3,c4,c5,c6⟩:=h.open;have HL:=qA (aGL id hid hB.tb);clear h hB;generalize (s.M.find id).getD 0=i at *;generalize (s.M.find id).isSome=b at *;go_enter Tryz.func136,Tryz.ntmps136
 go_wp2_with fail
 refine HV.out.mono ?_;rintro _ w ⟨rfl,rfl⟩;go_wp2_with fail
 refine HL.out.mono ?_;rintro _ w1 ⟨rfl,_,hb⟩;have HB:=qA (Fr.of_below hb);clear hb;go_wp2
 go_ret2;exact⟨rfl,HB.out⟩
def Sm.ids(s:Sm):List Nat:=jG (s.M.L.map (·.1))
def oX(w:World)(v:Value)(p:List Nat):Prop:=w.ownsRow 0 36 1 v p.length (oT p)
theorem oX.fr{v:Value}{p:List Nat}{S:List Nat}(h:oX w v p)(hf:Fr S w w')(hs:∀q,v.ownBlock=some q->q∉S):oX w' v p:=
  aL h (fun q hq=>hf.keep q (dT h hq) (hs q hq))
theorem oX.slice{v:Value}{p:List Nat}(h:oX w v p):∃a cap,v=.slice a p.length cap:=aO h
theorem oX.lt{v:Value}{p:List Nat}(h:oX w v p){q:Nat}(hq:v.ownBlock=some q):q<w.heap.size:=dT h hq
theorem oX.at{v:Value}{p:List Nat}(h:oX w v p){i:Nat}(hi:i<p.length):∃b cap,v=.slice (some ⟨b,0,none⟩) p.length cap/\b<w.heap.size/\w.cell? ⟨b,i,none⟩=some (.int .u64 (p[i]'hi)):=by
 obtain⟨b,cap,e,_,h2,h3,_⟩:=bW h hi;exact⟨b,cap,e,h2,h3.trans (by simp[oT,hi])⟩
theorem Sm.ids_len(s:Sm):s.ids.length=s.M.L.length:=by unfold Sm.ids;rw[aIR,List.length_map]
theorem aTZ(h:bA w ps s K):Calls Tryz.prog 124 #[fF ps] w fun e w' =>∃v,e=.returned v/\oX w' v s.ids/\(∀q,v.ownBlock=some q->w.heap.size<=q)/\Fr [] w w' :=by
 have HV:=qA (gS h);obtain⟨pa,pt,mb,n,vl,la,lT,lb,c,hB,rfl,c0,c1,c2,c3,c4,c5,c6⟩:=h.open;have HL:=qA (aLP hB.tb);clear h hB;go_enter Tryz.func124,Tryz.ntmps124
 go_wp2_with fail
 refine HV.out.mono ?_;rintro _ w ⟨rfl,rfl⟩;go_wp2_with fail
 refine HL.out.mono ?_;rintro _ w1 ⟨v,rfl,h1,h2,h3⟩;have HB:=qA (zI h1 (zI h2 h3));clear h1 h2 h3;go_wp2
 go_ret;exact⟨v,rfl,by unfold oX;rw[Sm.ids_len];exact HB.out.1,HB.out.2.1,HB.out.2.2⟩
end
abbrev rJ(u v:Nat)(wt t:Int):Value:=.agg #[.int .u64 u,.int .u64 v,.int .i64 wt,.int .i64 t]
@[go_sem] theorem aXE(a b:Value)(w:World):(Instr.index 199 (.agg #[a,b]) (.int .i64 0)).run Tryz.prog w=.ok a w:=by kernel_rfl
@[go_sem] theorem aXF(a b:Value)(w:World):(Instr.index 199 (.agg #[a,b]) (.int .i64 1)).run Tryz.prog w=.ok b w:=by kernel_rfl
def nf(b:Bool):Nat:=if b=true then 0 else 1
def uJ(a b:Bool)(k:Nat):Nat:=(if 0<k then nf a else 0)+if 1<k then nf b else 0
section
variable {w w' :World} {ps:Nat} {s:Sm} {K:List Nat}
theorem oY(h:bA w ps s K)(u v:Nat)(hu:u<18446744073709551616)(hv:v<18446744073709551616)(wt t:Int):
    Calls Tryz.prog 90 #[fF ps,rJ u v wt t] w fun e w' =>e=.returned (.int .i64 (s.chk u v))/\Fr [] w w' :=by
 have H:=qA h;have hok:=h.ok;have hE:=hok.leE;have hV4:=hok.leV;have hmn:=hok.md.cnt;have hmb:=hok.md.ar.hb;have hms:=hok.ms;simp only[Md.ar]at hmb;have hml:s.M.L.length<=4096:=by omega
 have hau:s.A.used<=16384:=by {
 have h1:=hok.ar.hb;have h2:=hok.sl;unfold Ar.used;omega};clear hmn hmb hms hok h;obtain⟨code,hcode⟩:∃code,code=s.chk u v:=⟨_,rfl⟩;rw[<-hcode];have HCD:=qA hcode;clear hcode;go_enter Tryz.func90,Tryz.ntmps90
 go_wp2_with fail
 have hf0:Fr [] w (w.alloc (.cells #[.int .u64 u,.int .u64 v,.int .i64 wt,.int .i64 t] 72)):=(Fr.refl [] w).alloc _;have hbx:Blk (w.alloc (.cells #[.int .u64 u,.int .u64 v,.int .i64 wt,.int .i64 t] 72)) w.heap.size 72 [.int .u64 u,.int .u64 v,.int .i64 wt,.int .i64 t]:=Blk.new w _ _;have hlt0:w.heap.size<(w.alloc (.cells #[.int .u64 u,.int .u64 v,.int .i64 wt,.int .i64 t] 72)).heap.size:=by simp
 generalize w.alloc (.cells #[.int .u64 u,.int .u64 v,.int .i64 wt,.int .i64 t] 72)=w1 at *;have r0:=hbx.cell 0;have r1:=hbx.cell 1;simp only[zJ,zK]at r0 r1;obtain⟨pa,pt,mb,n,vl,la,lT,lb,c,hB,hK,c0,c1,c2,c3,c4,c5,c6⟩:=(H.out.fr0 hf0).open;have HV:=qA (gS (H.out.fr0 hf0));have HF0:=qA hf0;have HA:=qA (fun(w' :World) (hf:Fr [] w1 w')=>mM (hB.fr hf (by simp)).ar);have HT:=qA (fun(w' :World) (hf:Fr [] w1 w')=>aGM (hB.fr hf (by simp)).tb);have HG:=qA (fun(w' :World) (hf:Fr [] w1 w') (id:Nat) (hid:id<18446744073709551616)=>aGL id hid (hB.fr hf (by simp)).tb);clear hf0 hbx hB hK c2 c5 c6 hlt0;refine HV.out.mono ?_;rintro _ w1 ⟨rfl,rfl⟩;clear HV;by_cases huv:u=v
 {
 subst huv;have HCD' :=qA (show code=9 by rw[HCD.out];unfold Sm.chk;rw[qD rfl]);go_wp2_with fail
 go_ret;exact⟨by rw[HCD'.out];rfl,HF0.out⟩}
 {
 have d1:((u:Int) == v)=false:=qR.2 (by omega);have HUV:=qA huv;clear huv;go_wp2_with fail
 obtain⟨au,hau2⟩:∃au,au=s.A.used:=⟨_,rfl⟩;rw[<-hau2]at HA hau;have HAU:=qA hau2;clear hau2;refine dB (fun w' =>Fr [] w1 w') (by kernel_rfl) (by kernel_rfl) ((Fr.refl [] w1).drew) ?_;iterate 3 (refine aH (by kernel_rfl) (fun KK hK=>?_);go_simp;refine hK.out _ ?_;clear hK KK)
 refine bC (by kernel_rfl) (ptr pa) (fun w' hw' =>?_) ?_
 {
 have c3:=hw'.cell c3 (by simp);go_simp;first|exact hw' | exact⟨rfl,hw'⟩|skip};refine bC (by kernel_rfl) (.int .i64 au) (fun w' hw' =>?_) ?_
 {
 go_simp;refine(HA.out w' hw').mono ?_;rintro _ w6 ⟨rfl,rfl⟩;exact⟨rfl,hw'⟩};iterate 3 (refine aH (by kernel_rfl) (fun KK hK=>?_);go_simp;refine hK.out _ ?_;clear hK KK)
 refine bC (by kernel_rfl) (.int .i64 s.E) (fun w' hw' =>?_) ?_
 {
 have c1:=hw'.cell c1 (by simp);go_simp;first|exact hw' | exact⟨rfl,hw'⟩|skip};iterate 1 (refine aH (by kernel_rfl) (fun KK hK=>?_);go_simp;refine hK.out _ ?_;clear hK KK)
 refine gF ?_;intro w2 hf2;have r0:=hf2.cell r0 (by simp);have r1:=hf2.cell r1 (by simp);have c0:=hf2.cell c0 (by simp);have c4:=hf2.cell c4 (by simp);have HT2:=qA (HT.out w2 hf2);have HF2:=qA hf2;clear hf2 HT HA c1 c3 d1;by_cases hfull:s.E<=au
 {
 have HCD' :=qA (show code=12 by rw[HCD.out];unfold Sm.chk;rw[qC HUV.out,<-HAU.out,qD hfull]);have d1:decide ((s.E:Int)<=au)=true:=qG (by omega);go_wp2_with fail
 go_ret;exact⟨by rw[HCD'.out];rfl,HF0.out.trans' HF2.out⟩}
 {
 have d1:decide ((s.E:Int)<=au)=false:=qF (by omega);have d2:decide (s.E<=au)=false:=qF (by omega);have HFU:=qA hfull;clear hfull;go_wp2_with fail
 refine HT2.out.mono ?_;rintro _ w2 ⟨rfl,rfl⟩;clear HT2 d1 d2;go_wp2_with fail
 have Hu:=qA hu;have Hv:=qA hv;clear r0 r1;go_loopw [5,38] (fun x y wr=>∃k m:Nat,k<=2/\y=.int .i64 k/\x=.int .i64 m/\m<=4096+k/\Hid (m=s.M.L.length+uJ (s.M.find u).isSome (s.M.find v).isSome k)/\Hid (Fr [] w2 wr)) (fun _ y _=>2-(intOf y).toNat)
 case atStart=>exact⟨0,s.M.L.length,by omega,rfl,rfl,by omega,qA (by simp[uJ]),qA (Fr.refl _ _)⟩
 case round=>
  obtain⟨k,m,hk,rfl,rfl,hm,HM,HF⟩:=hrel;by_cases hlt:k<2
  {
  have hk2:k=0∨k=1:=by omega
  clear hlt hk;rcases hk2 with rfl|rfl
  {
  have HGu:=qA (HG.out wr (HF2.out.trans' HF.out) u Hu.out);have c4:=HF.out.cell c4 (by simp);generalize hfu:(s.M.find u).isSome=fu at *;have HFU2:=qA hfu;clear hfu;generalize (s.M.find u).getD 0=iu at *;rename World=>wo
  go_wp2_with fail
  refine HGu.out.mono ?_;rintro _ w5 ⟨rfl,_,hb5⟩;have HF5:=qA (HF.out.trans' (Fr.of_below hb5));clear hb5 HGu c4;cases fu with
  | true=>{
  go_wp2_with fail
  go_roundw
  case rel=>exact⟨1,m,by omega,rfl,rfl,by omega,qA (by rw[HM.out];simp[uJ,nf]),HF5⟩
  case measure=>simp[intOf]}
  | false=>{
  go_wp2_with fail
  go_roundw
  case rel=>exact⟨1,m+1,by omega,rfl,by go_num,by omega,qA (by rw[HM.out];simp[uJ,nf];try omega),HF5⟩
  case measure=>simp[intOf]}}
  {
  have HGu:=qA (HG.out wr (HF2.out.trans' HF.out) v Hv.out);have c4:=HF.out.cell c4 (by simp);generalize hfu:(s.M.find v).isSome=fu at *;have HFU2:=qA hfu;clear hfu;generalize (s.M.find v).getD 0=iu at *;rename World=>wo
  go_wp2_with fail
  refine HGu.out.mono ?_;rintro _ w5 ⟨rfl,_,hb5⟩;have HF5:=qA (HF.out.trans' (Fr.of_below hb5));clear hb5 HGu c4;cases fu with
  | true=>{
  go_wp2_with fail
  go_roundw
  case rel=>exact⟨2,m,by omega,rfl,rfl,by omega,qA (by rw[HM.out];simp[uJ,nf]),HF5⟩
  case measure=>simp[intOf]}
  | false=>{
  go_wp2_with fail
  go_roundw
  case rel=>exact⟨2,m+1,by omega,rfl,by go_num,by omega,qA (by rw[HM.out];simp[uJ,nf];try omega),HF5⟩
  case measure=>simp[intOf]}}}
  {
  obtain rfl:k=2:=by omega
  have c0:=HF.out.cell c0 (by simp);have hmore:m=s.M.L.length+s.more u v:=by rw[HM.out];simp[uJ,nf,Sm.more]
  by_cases hov:s.V<m
  {
  have HCD' :=qA (show code=11 by rw[HCD.out];unfold Sm.chk;rw[qC HUV.out,<-HAU.out,qC HFU.out,<-hmore,qD hov]);have d1:decide ((m:Int)>s.V)=true:=qG (by omega);clear hmore;go_wp2_with fail
  go_ret;exact⟨by rw[HCD'.out];rfl,(HF0.out.trans' HF2.out).trans' HF.out⟩}
  {
  have HCD' :=qA (show code=0 by rw[HCD.out];unfold Sm.chk;rw[qC HUV.out,<-HAU.out,qC HFU.out,<-hmore,qC hov]);have d1:decide ((m:Int)>s.V)=false:=qF (by omega);have d2:decide (s.V<m)=false:=qF (by omega);clear hmore;go_wp2_with fail
  go_ret;exact⟨by rw[HCD'.out];rfl,(HF0.out.trans' HF2.out).trans' HF.out⟩}}}}
end
end Go.Proofs.YtjdgpcjbgjnahaaGreatDoor
