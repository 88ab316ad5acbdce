/- The fields of an image at their places; the plain law. -/
import Derived.Test.YtjdgpcjbgjnahaaGreatDoorG15
import Derived.Test.YtjdgpcjbgjnahaaGreatDoorG4
import Derived.Lib.SmallJoins
import Derived.Laws.BytesArg
import Derived.Test.YtjdgpcjbgjnahaaGreatDoorG14
import Derived.Test.YtjdgpcjbgjnahaaGreatDoorG1
import Derived.Test.YtjdgpcjbgjnahaaGreatDoorG13
import Derived.Test.YtjdgpcjbgjnahaaGreatDoorG3
import Derived.Test.YtjdgpcjbgjnahaaGreatDoorG11
import Derived.Laws.CopyRow
set_option maxRecDepth 10000
set_option maxHeartbeats 4000000
set_option linter.unusedSimpArgs false
set_option linter.unusedVariables false
/- The window of an image: the walk of Load. -/
namespace Go.Proofs.YtjdgpcjbgjnahaaGreatDoor
open Go.RowKit
def LdE(W w' :World)(ts:List Th)(R:Int×Option Ob)(e:Ending):Prop:=match R.2 with
  | none=>e=.returned (.tuple #[.pointer none,.int .i64 R.1])/\Wd W w' ts
  | some o=>∃p,e=.returned (.tuple #[eQ p,.int .i64 R.1])/\Wd W w' (thO p o::ts)
def hdB(a b c d e:Nat):Bool:=decide ([a,b,c,d,e]=fC)
theorem Tryz.infoy5:∃i,Tryz.prog.info? 5=some i:=qU.1 (by kernel_rfl)
@[go_sem] theorem aSH(a b c d e:Nat)(w:World):(Op.equalIn 10000 91 (.agg #[.int .u8 a,.int .u8 b,.int .u8 c,.int .u8 d,.int .u8 e]) (.agg #[.int .u8 83,.int .u8 69,.int .u8 69,.int .u8 80,.int .u8 1])).run Tryz.prog w=.ok (hdB a b c d e) w:=by
 obtain⟨i,hi⟩:=Tryz.infoy5;have u3:=Tryz.underlying5;have a3:=Tryz.isAgg5;have z3:=Tryz.sizeOf5;have hc:Tryz.prog.cellsOf 5=1:=by kernel_rfl
 rw[show(10000:Nat)=9999+1 from rfl,run_equalIn_array w 9999 _ _ Tryz.underlying91 hi,hc];have r2:List.range 5=[0,1,2,3,4]:=rfl;rw[r2];simp only[Op.eqItems];go_simp;have e1:∀(x y:Nat),((x:Int) == (y:Int))=(x == y):=fun x y=>by rw[Bool.eq_iff_iff];simp only[beq_iff_eq];omega
 have k1:=e1 a 83;have k2:=e1 b 69;have k3:=e1 c 69;have k4:=e1 d 80;have k5:=e1 e 1;unfold hdB fC;by_cases h1:a=83<;>by_cases h2:b=69<;>by_cases h3:c=69<;>by_cases h4:d=80<;>by_cases h5:e=1<;>simp_all<;>omega
@[go_sem] theorem aRU(op:BinOp)(x y:Operand)(xs ys:Array Value)(w:World):(eqGuard op 91 x y (.agg xs) (.agg ys)).run Tryz.prog w=.ok () w:=run_eqGuard_agg w op 91 x y xs ys (by kernel_rfl)
theorem aOQ{k q:Nat}(h:k<=1073741824)(hq:q=k/32):wrap64 ((k:Int)/32)=(q:Int):=by
 rw[show(k:Int)/32=(q:Int) by omega];exact IntWalk.wrap64_in _ ⟨by omega,by omega⟩
theorem aEY{q:Nat}(h:q<18446744073709551616):IntKind.u64.wrap (q:Int)=q:=by rw[IntKind.wrap_u64];omega
theorem yF{W w:World}{ts:List Th}{a:Option Addr}{l:List Nat}{n cap:Nat}(h:Wd W w ts)(hL:fD W)(hr:RdB w a l)(hb:Byt l)(hn:l.length=n)(hl:n<=1073741824)(hc:n<=cap):
    Calls Tryz.prog 21 #[.slice a n cap] w fun e w' =>LdE W w' ts (cX l) e:=by
  by_cases h65:n<65
  · rw [aBE (by omega)]
    have HW:=qA h;have d1:decide ((n:Int)<65)=true:=qG (by omega);have d2:decide (n<65)=true:=qG h65;clear h hL hr hb hn hl hc h65;go_enter Tryz.func21,Tryz.ntmps21
    go_wp2_with fail
    refine dU (fun w' =>Fr [] w w') (by kernel_rfl) (by kernel_rfl) ((Fr.refl [] w).drew) ?_;iterate 4 (refine aN (by kernel_rfl) (fun KK hK=>?_);go_simp;refine hK.out _ ?_;clear hK KK)
    iterate 5 (refine rT (by kernel_rfl) ?_)
    iterate 1 (refine aN (by kernel_rfl) (fun KK hK=>?_);go_simp;refine hK.out _ ?_;clear hK KK)
    refine iN ?_;intro w5 hf5;have HF5:=qA hf5;clear hf5;go_wp2_with fail
    go_ret2;exact⟨rfl,HW.out.fr0 HF5.out⟩
  · obtain ⟨m, hm⟩ : ∃ m, n = m + 4 := ⟨n - 4, by omega⟩
    have hm61:61<=m:=by omega
    obtain⟨b,off,rfl,hbl,hq⟩:=hr 0 (by omega);clear hq;have d1:decide ((n:Int)<65)=false:=qF (by omega);have d2:decide (n<65)=false:=qF h65;obtain⟨x0,hx0⟩:∃x,x=l[0]'(by omega):=⟨_,rfl⟩;obtain⟨x1,hx1⟩:∃x,x=l[1]'(by omega):=⟨_,rfl⟩;obtain⟨x2,hx2⟩:∃x,x=l[2]'(by omega):=⟨_,rfl⟩;obtain⟨x3,hx3⟩:∃x,x=l[3]'(by omega):=⟨_,rfl⟩;obtain⟨x4,hx4⟩:∃x,x=l[4]'(by omega):=⟨_,rfl⟩;have h5:l.take 5=[x0,x1,x2,x3,x4]:=by
      rw[hx0,hx1,hx2,hx3,hx4];match l,hn,hm,hm61 with
      | y0::y1::y2::y3::y4::l,_,_,_=>rfl
      | [],h,_,_=>simp at h;omega
      | [_],h,_,_=>simp at h;omega
      | [_,_],h,_,_=>simp at h;omega
      | [_,_,_],h,_,_=>simp at h;omega
      | [_,_,_,_],h,_,_=>simp at h;omega
    have cc:∀i (hi:i<l.length),w.cell? ⟨b,off+i,none⟩=some (.int .u8 (l[i]'hi:Nat)):=fun i hi=>by
      obtain⟨b', off', e,_,hc⟩:=hr i hi;simp only[qI,Addr.mk.injEq,and_true]at e;obtain⟨rfl,rfl⟩:=e;exact hc
    have c0:=cc 0 (by omega);have c1:=cc 1 (by omega);have c2:=cc 2 (by omega);have c3:=cc 3 (by omega);have c4:=cc 4 (by omega);rw[<-hx0,Nat.add_zero]at c0;rw[<-hx1]at c1;rw[<-hx2]at c2;rw[<-hx3]at c3;rw[<-hx4]at c4;clear cc hx0 hx1 hx2 hx3 hx4;have hat:∀w,(Instr.arrayAt 91 (.slice (some ⟨b,off,none⟩) n cap)).run Tryz.prog w=.ok (.pointer (some ⟨b,off,none⟩)) w:=fun w=>run_arrayAt w 91 _ 5 _ n cap Tryz.underlying91 (by omega);obtain⟨hd,hhd⟩:∃hd,hd=hdB x0 x1 x2 x3 x4:=⟨_,rfl⟩;have HHd:=qA (zH hhd h5);have HW:=qA h;have HR:=qA (zH hr (zH hb hn));have HL:=qA hL;have HC:=qA (zH hm (zH hl (zH hc hbl)));clear h hr hb hn hL hc hbl h65 hm hl h5 hhd;go_enter Tryz.func21,Tryz.ntmps21
    go_wp2_with fail
    refine dU (fun w' =>Fr [] w w') (by kernel_rfl) (by kernel_rfl) ((Fr.refl [] w).drew) ?_;iterate 6 (refine aN (by kernel_rfl) (fun KK hK=>?_);go_simp;(try simp only[hat]);go_simp;refine hK.out _ ?_;clear hK KK)
    refine bV (by kernel_rfl) (.agg #[.int .u8 x0,.int .u8 x1,.int .u8 x2,.int .u8 x3,.int .u8 x4]) (fun w' hw' =>?_) ?_
    · have c0 := hw'.cell c0 (by simp)
      have c1:=hw'.cell c1 (by simp);have c2:=hw'.cell c2 (by simp);have c3:=hw'.cell c3 (by simp);have c4:=hw'.cell c4 (by simp);go_simp;first|exact hw' | exact⟨rfl,hw'⟩|skip
    refine bV (by kernel_rfl) (.agg #[.int .u8 83,.int .u8 69,.int .u8 69,.int .u8 80,.int .u8 1]) (fun w' hw' =>?_) ?_
    · go_simp
      refine(aKR w').mono ?_;rintro _ w6 ⟨rfl,h1⟩;exact⟨rfl,hw'.trans' h1⟩
    iterate 2 (refine aN (by kernel_rfl) (fun KK hK=>?_);go_simp;refine hK.out _ ?_;clear hK KK)
    refine iN ?_;intro w5 hf5;have HF5:=qA hf5;rw[<-HHd.out.1];clear hf5 c0 c1 c2 c3 c4 hat d1 d2;cases hd with
    | false=>
      go_wp2_with fail
      go_ret2;rw[aBF (l:=l) (by rw[HHd.out.2];exact of_decide_eq_false HHd.out.1.symm)];exact⟨rfl,HW.out.fr0 HF5.out⟩
    | true=>
      have HSt:=qA (aBD (l:=l) (HR.out.2.2.trans HC.out.1) hm61 (by rw[HHd.out.2];exact of_decide_eq_true HHd.out.1.symm) rfl rfl);clear HHd;obtain⟨B,hB⟩:∃B,B=l.take m:=⟨_,rfl⟩;obtain⟨T,hT⟩:∃T,T=l.drop m:=⟨_,rfl⟩;rw[<-hB,<-hT]at HSt;have hBl:B.length=m:=by rw[hB,List.length_take,HR.out.2.2,HC.out.1];omega
      have hTl:T.length=4:=by rw[hT,List.length_drop,HR.out.2.2,HC.out.1];omega
      have hBr:RdB w (some ⟨b,off,none⟩) B:=by rw[hB];exact HR.out.1.take m
      have hTr:RdB w (some ⟨b,off+m,none⟩) T:=by rw[hT];exact HR.out.1.drop m
      have hBb:Byt B:=by rw[hB];exact HR.out.2.1.take m
      have hTb:Byt T:=by rw[hT];exact HR.out.2.1.drop m
      have HW5:=qA (HW.out.fr0 HF5.out);have hsum:=wC (cap:=cap) (hBr.fr HF5.out) hBb (by rw[hBl];have:=HC.out;omega);have hget:=aPJ (cap:=cap-m) (hTr.fr HF5.out) hTb (by omega);rw[hBl]at hsum;rw[hTl]at hget;have hv:=gB hTb;rw[hTl]at hv;have hcr:=oY hBb;have HSum:=qA hsum;have HGet:=qA hget;have HB:=qA (zH hBr (zH hBb hBl));generalize aI T=s1 at *;generalize crc B=s2 at *;have hw1:IntKind.i64.wrap ((n:Int)-4)=(m:Int):=by
        rw[show(n:Int)-4=(m:Int) by have:=HC.out;omega];exact zF _ (by have:=HC.out;omega)
      have hw2:IntKind.u64.wrap (s2:Int)=s2:=by rw[IntKind.wrap_u64];omega
      have e1:(0:Int)<=m:=by omega
      have e2:(m:Int)<=cap:=by have:=HC.out;omega
      have e3:(m:Int)<=n:=by have:=HC.out;omega
      have e4:(n:Int)<=cap:=by have:=HC.out;omega
      have e5:¬cap=m:=by have:=HC.out;omega
      have e6:n-m=4:=by have:=HC.out;omega
      have e7:¬cap=0:=by have:=HC.out;omega
      clear hsum hget hBr hTr hBb hTb hv hcr hB hT hBl hTl HW HR;go_wp2_with fail
      refine HGet.out.mono ?_;rintro _ w6 ⟨rfl,rfl⟩;clear HGet;go_wp2_with fail
      refine HSum.out.mono ?_;rintro _ w7 ⟨rfl,rfl⟩;clear HSum;by_cases hs:s1=s2
      · subst hs
        have f1:(37:Int)<=m:=by omega
        have f2:(37:Int)<=cap:=by omega
        have f3:¬cap=37:=by have:=HC.out;omega
        have HSt:Hid (cX l=_):=qA (HSt.out.trans (qC (fun h=>h rfl)));have hRb:=Blk.new w7 [.slice (some ⟨b,off+37,none⟩) (m-37) (cap-37)] 22;have HA:=qA ((Fr.refl [] w7).alloc (.cells #[.slice (some ⟨b,off+37,none⟩) (m-37) (cap-37)] 22));have hRst:Rst (w7.alloc (.cells #[.slice (some ⟨b,off+37,none⟩) (m-37) (cap-37)] 22)) w7.heap.size b (off+37) (m-37) (cap-37) (B.drop 37):=by
          have hc:=HC.out;have hs:=HW5.out;refine⟨hRb,(HB.out.1.drop 37).fr ?_,HB.out.2.1.drop 37,by rw[List.length_drop,HB.out.2.2],by omega,?_⟩
          · exact HF5.out.alloc _
          · have:=HF5.out.size;omega
        have HRs:=qA hRst;have HAl:=qA (((Fr.refl [] w7).alloc (.cells #[.slice (some ⟨b,off+37,none⟩) (m-37) (cap-37)] 22)));clear hRb hRst HA;have hb37:=HB.out.2.1.drop 37;have b1:=fV hb37;have b2:=fV (hb37.drop 8);have b3:=fV ((hb37.drop 8).drop 8);have z1:=(nT HRs.out (by omega));obtain⟨R,hR⟩:∃R,R=(((B.drop 37).drop 8).drop 8).drop 8:=⟨_,rfl⟩;rw[<-hR]at HSt;have HRb:=qA (show Byt R/\R.length=m-61 by
          rw[hR];exact⟨((hb37.drop 8).drop 8).drop 8,by simp only[List.length_drop,HB.out.2.2];omega⟩)
        have hR2:=qA hR;clear hR hb37;obtain⟨nv,hnv⟩:∃nv,nv=aI ((B.drop 37).take 8):=⟨_,rfl⟩;rw[<-hnv]at z1 b1 HSt;have hwn:=jL b1;have hnz:=gQ nv b1;generalize bJ nv=nz at *;have HN1:=qA z1;clear z1 hnv b1;go_wp2_with fail
        refine HN1.out.mono ?_;rintro _ w8 ⟨rfl,hr8,hf8⟩;clear HN1;have z2:=(nT hr8 (by omega));obtain⟨av,hav⟩:∃av,av=aI (((B.drop 37).drop 8).take 8):=⟨_,rfl⟩;rw[<-hav]at z2 b2 HSt;have HN2:=qA z2;have HF8:=qA (HAl.out.trans hf8 (fun q hq=>.inr (by simp only[qH]at hq;omega)));clear z2 hav hr8 hf8 HAl HRs;go_wp2_with fail
        refine HN2.out.mono ?_;rintro _ w9 ⟨rfl,hr9,hf9⟩;clear HN2;have z3:=(nT hr9 (by omega));obtain⟨gv,hgv⟩:∃gv,gv=aI ((((B.drop 37).drop 8).drop 8).take 8):=⟨_,rfl⟩;rw[<-hgv]at z3 b3 HSt;have HN3:=qA z3;have HF9:=qA (HF8.out.trans hf9 (fun q hq=>.inr (by simp only[qH]at hq;omega)));clear z3 hgv hr9 hf9 HF8;go_wp2_with fail
        refine HN3.out.mono ?_;rintro _ w10 ⟨rfl,hr10,hf10⟩;have HF10:=qA (HF9.out.trans hf10 (fun q hq=>.inr (by simp only[qH]at hq;omega)));obtain⟨k,hk⟩:∃k,k=m-61:=⟨_,rfl⟩;obtain⟨c3,hc3⟩:∃c3,c3=cap-61:=⟨_,rfl⟩;obtain⟨o3,ho3⟩:∃o3,o3=off+61:=⟨_,rfl⟩;rw[<-hR2.out,show m-37-8-8-8=k by omega,show cap-37-8-8-8=c3 by omega,show off+37+8+8+8=o3 by omega]at hr10;rw[<-hk]at HSt HRb;have hrc:=hr10.1.cell 0;simp only[zI]at hrc;have HR10:=qA hr10;have HK:=qA (zH hk (zH hc3 ho3));clear HN3 HF9 hr10 hf10 hR2 hk hc3 ho3 hwn;by_cases hag:av<gv
        · have d1 : decide ((av : Int) < gv) = true := qG (by omega)
          have d2:decide (av<gv)=true:=qG hag;rw[qD (.inl hag)]at HSt;go_wp2_with fail
          go_ret2;rw[HSt.out];exact⟨rfl,HW5.out.fr0 HF10.out⟩
        · have d1 : decide ((av : Int) < gv) = false := qF (by omega)
          have d2:decide (av<gv)=false:=qF hag;obtain⟨cnt,hcnt⟩:∃cnt,cnt=av-gv:=⟨_,rfl⟩;have hws:IntKind.u64.wrap ((av:Int)-gv)=(cnt:Int):=by rw[IntKind.wrap_u64];omega
          rw[<-hcnt]at HSt;have hcb:cnt<18446744073709551616:=by omega
          have HCn:=qA hcnt;clear hcnt;obtain⟨q,hq⟩:∃q,q=k/32:=⟨_,rfl⟩;have hkb:k<=1073741824:=by have:=HK.out.1;have:=HC.out;omega
          have hw7:=aEY (q:=q) (by omega);have HKd:=qA (aOQ hkb hq);rw[<-hq]at HSt;by_cases hm:k%32=0
          · have hm' : (k : Int) % 32 = 0 := by omega
            have hkq:k=32*q:=by omega
            have HKq:=qA (zH hkq hkb);clear hq hkb hkq;by_cases hqc:q=cnt
            · subst hqc
              have hx:((q:Int) != (q:Int))=false:=by simp
              rw[qC (by omega)]at HSt;have hFw:=HF5.out.trans' HF10.out;have hr5:=(HB.out.1.drop 5).fr hFw;have hb5:=HB.out.2.1.drop 5;have hl5:(B.drop 5).length=m-5:=by rw[List.length_drop,HB.out.2.2]
              have hLC:fD w10:=HL.out.fr (HW5.out.fr0 HF10.out).frm (by simp);have hv8:∀i,i+8<=32->aI (sub (B.drop 5) i 8)<18446744073709551616:=fun i hi=>by
                have h1:=gB (mJ hb5 i 8);rw[mI (by rw[hl5];omega)]at h1;exact h1
              have h0:=gQ _ (hv8 0 (by omega));have h1:=gQ _ (hv8 8 (by omega));have h2:=gQ _ (hv8 16 (by omega));have h3:=gQ _ (hv8 24 (by omega));have hgo:=aRR (cap:=cap-5) hr5 hb5 hl5 (by omega) (by omega) hLC;have hgn:=aRS (cap:=cap-5) hr5 hb5 hl5 (by omega) (by omega) hLC;generalize bJ (aI (sub (B.drop 5) 0 8))=m0 at *;generalize bJ (aI (sub (B.drop 5) 8 8))=E0 at *;generalize bJ (aI (sub (B.drop 5) 16 8))=V0 at *;generalize bJ (aI (sub (B.drop 5) 24 8))=D0 at *;clear hFw hr5 hb5 hl5 hLC hv8;cases hcf:lO m0 E0 V0 D0 with
              | false=>
                have HG:=qA (hgn (aHA hcf));rw[kI (.inr (.inl hcf))]at HSt;clear hgo hgn hcf;have hkd:=HKd.out;go_wp2_with fail
                clear hkd;refine HG.out.mono ?_;rintro _ w11 ⟨rfl,hF⟩;have HF11:=qA (HF10.out.trans' hF);clear hF;go_wp2_with fail
                go_ret2;rw[HSt.out];exact⟨rfl,HW5.out.fr0 (HF11.out.alloc _)⟩
              | true=>
                have HG:=qA (hgo (wB hcf));have HCf:=qA hcf;have hcc:=fJ.1 hcf;clear hgo hgn hcf;obtain⟨E,rfl⟩:=Int.eq_ofNat_of_zero_le (show 0<=E0 by omega);have hwE:=aEY (q:=E) (by omega);by_cases hqE:E<q
                · rw [kI (.inr (.inr (.inl (by rw [iB]; omega))))] at HSt
                  have g1:decide ((q:Int)>E)=true:=qG (by omega);have g2:decide (E<q)=true:=qG hqE;have hkd:=HKd.out;go_wp2_with fail
                  clear hkd;refine HG.out.mono ?_;rintro _ w11 ⟨rfl,hF⟩;have HF11:=qA (HF10.out.trans' hF);clear hF;have hbk:=Blk.new w11 [.int .i64 m0,.int .i64 E,.int .i64 V0,.int .i64 D0] 31;have r0:=hbk.cell 0;have r1:=hbk.cell 1;have r2:=hbk.cell 2;have r3:=hbk.cell 3;simp only[zI,zJ]at r0 r1 r2 r3;clear hbk;go_wp2_with fail
                  go_ret2;rw[HSt.out];exact⟨rfl,HW5.out.fr0 (HF11.out.alloc _)⟩
                · have g1 : decide ((q : Int) > E) = false := qF (by omega)
                  have g2:decide (E<q)=false:=qF hqE;have hq0:q<=16384:=by omega
                  have hmk:=fun w' =>uY q w' hq0;have hkd:=HKd.out;go_wp2_with fail
                  clear hkd;refine HG.out.mono ?_;rintro _ w11 ⟨rfl,hF⟩;have HF11:=qA (HF10.out.trans' hF);have hbk:=Blk.new w11 [.int .i64 m0,.int .i64 E,.int .i64 V0,.int .i64 D0] 31;have r0:=hbk.cell 0;have r1:=hbk.cell 1;have r2:=hbk.cell 2;have r3:=hbk.cell 3;simp only[zI,zJ]at r0 r1 r2 r3;have hrl:=HRb.out.2;have hkq:=HKq.out.1
                  have HP0:Hid (Fr [] w7 ((w11.alloc (.cells #[.int .i64 m0,.int .i64 E,.int .i64 V0,.int .i64 D0] 31)).alloc (.cells (lS q) 72)) /\
                      Blk ((w11.alloc (.cells #[.int .i64 m0,.int .i64 E,.int .i64 V0,.int .i64 D0] 31)).alloc (.cells (lS q) 72)) (w11.heap.size+1) 72 (eG (cR 0 R)++lR (q-0)) /\
                      Rst ((w11.alloc (.cells #[.int .i64 m0,.int .i64 E,.int .i64 V0,.int .i64 D0] 31)).alloc (.cells (lS q) 72)) w7.heap.size b (o3+32*0) (32*q-32*0) (c3-32*0) (R.drop (32*0)) /\
                      Blk ((w11.alloc (.cells #[.int .i64 m0,.int .i64 E,.int .i64 V0,.int .i64 D0] 31)).alloc (.cells (lS q) 72)) w11.heap.size 31 [.int .i64 m0,.int .i64 E,.int .i64 V0,.int .i64 D0]):=qA (by
                    have hF2:Fr [] w11 ((w11.alloc (.cells #[.int .i64 m0,.int .i64 E,.int .i64 V0,.int .i64 D0] 31)).alloc (.cells (lS q) 72)):=((Fr.refl [] w11).alloc _).alloc _;refine⟨HF11.out.trans' hF2,?_,?_,((Fr.refl [] _).alloc _).blk hbk (by simp)⟩
                    · have k1 := aKX (w11.alloc (.cells #[.int .i64 m0, .int .i64 E, .int .i64 V0, .int .i64 D0] 31)) q
                      rw[World.size_alloc]at k1;exact k1
                    · have k2 := HR10.out.fr (hF.trans' hF2) (by simp) (by simp)
                      rw[hkq]at k2;exact k2)
                  have hrb:w7.heap.size<w11.heap.size:=by
                    have e1:=HR10.out.1.lt;have e2:=hF.size;omega
                  have hbw:b<w11.heap.size:=by
                    have e1:=HF5.out.size;have e2:=HF11.out.size;have e3:=HC.out;omega
                  clear hbk hF HG;go_wp2_with fail
                  clear r0 r1 r2 r3;go_loopw [14,93] (fun c1 c2 wr=>∃i:Nat,i<=q/\c2=.int .i64 i/\Hid (Fr [] w7 wr/\Blk wr (w11.heap.size+1) 72 (eG (cR i R)++lR (q-i))/\Rst wr w7.heap.size b (o3+32*i) (32*q-32*i) (c3-32*i) (R.drop (32*i))/\Blk wr w11.heap.size 31 [.int .i64 m0,.int .i64 E,.int .i64 V0,.int .i64 D0])) (fun _ c _=>q-(intOf c).toNat)
                  case atStart=>exact⟨0,by omega,rfl,HP0⟩
                  case round=>
                    clear HP0;obtain⟨i,hi,rfl,HP⟩:=hrel;rename World=>wr
                    by_cases hlt:i<q
                    · have hi1 : (i : Int) < q := by omega
                      have hi0:(0:Int)<=i:=by omega
                      have hwi:IntKind.i64.wrap ((i:Int)+1)=((i+1:Nat):Int):=by rw[show(i:Int)+1=((i+1:Nat):Int) by omega];exact zF _ (by omega)
                      have hbd:=(HRb.out.1).drop (32*i);have b1:=fV hbd;have b2:=fV (hbd.drop 8);have b3:=fV ((hbd.drop 8).drop 8);have b4:=fV (((hbd.drop 8).drop 8).drop 8);have hsnoc:=rE i R;have hrl2:=iB i R;have hPr:=HP.out.2.2.1;have hz:q-i=(q-(i+1))+1:=by omega
                      have hS:=aKW (cR i R) (q-(i+1)) (iL (R.drop (32*i)));have hA:=fun j hj=>aOP (cR i R) (q-(i+1)) j hj;rw[<-hsnoc]at hS;simp only[iL]at hS;have hPb:=HP.out.2.1;rw[hz]at hPb;have hD:R.drop (32*(i+1))=(((((R.drop (32*i)).drop 8).drop 8).drop 8).drop 8):=by
                        simp only[List.drop_drop];congr 1
                      generalize eG (cR i R)++lR (q-(i+1)+1)=S at *;rw[hrl2]at hS hA;have HSt2:=qA hS;have HD:=qA hD;have HPf:=qA (zH HP.out.1 HP.out.2.2.2);clear hsnoc hrl2 hbd hS hD HP;have hlen1:8<=32*q-32*i:=by omega
                      have z1:=nT hPr hlen1;obtain⟨v1,hv1⟩:∃v,v=aI ((R.drop (32*i)).take 8):=⟨_,rfl⟩;rw[<-hv1]at z1 b1;have HN1:=qA z1;clear z1 hPr;have HV1:=qA hv1;clear hv1;go_wp2_with fail
                      refine HN1.out.mono ?_;rintro _ w12 ⟨rfl,hr12,hf12⟩;clear HN1;have z1:=nT hr12 (by omega);obtain⟨v2,hv2⟩:∃v,v=aI (((R.drop (32*i)).drop 8).take 8):=⟨_,rfl⟩;rw[<-hv2]at z1 b2;have HN1:=qA z1;have HF12:=qA hf12;have HV2:=qA hv2;clear z1 hr12 hf12 hv2;go_wp2_with fail
                      refine HN1.out.mono ?_;rintro _ w13 ⟨rfl,hr13,hf13⟩;clear HN1;have hrq:w7.heap.size≠w11.heap.size+1:=by omega
                      have hbq:b≠w11.heap.size+1:=by omega
                      have hb13:=hf13.blk (HF12.out.blk hPb (by simp only[qH];omega)) (by simp only[qH];omega);have hb14:=(hb13.set (i*4) (.int .u64 (v1:Nat))).set (i*4+1) (.int .u64 (v2:Nat));have hF14:Fr [w11.heap.size+1] w13 ((w13.setCell ⟨w11.heap.size+1,i*4,none⟩ (.int .u64 (v1:Nat))).setCell ⟨w11.heap.size+1,i*4+1,none⟩ (.int .u64 (v2:Nat))):=((Fr.refl _ _).setCell _ _ (.inl (by simp))).setCell _ _ (.inl (by simp));have hr14:=hr13.fr hF14 (by simpa using hrq) (by simpa using hbq);have k0:=(hb13.cell (i*4+0)).trans (hA 0 (by decide));have k1:=(hb13.cell (i*4+1)).trans (hA 1 (by decide));have z0:=hb13.frozen (i*4);have z1:=hb13.frozen (i*4+1);simp only[zI,zJ,Nat.add_zero]at k0 k1;have HB14:=qA hb14;have HF13:=qA (HF12.out.trans hf13 (fun q hq=>.inl (by simpa using hq)));have HF14:=qA hF14;have n1:=nT hr14 (by omega);obtain⟨v3,hv3⟩:∃v,v=aI ((((R.drop (32*i)).drop 8).drop 8).take 8):=⟨_,rfl⟩;rw[<-hv3]at n1 b3;have hwz:=jL b3;obtain⟨y3,hy3⟩:∃y,y=bJ v3:=⟨_,rfl⟩;rw[<-hy3]at hwz;have HN1:=qA n1;have HV3:=qA (zH hv3 hy3);clear n1 hv3 hy3 hr13 hr14 hf13 hF14 hb13 hb14 hPb HF12;go_wp2_with fail
                      refine HN1.out.mono ?_;rintro _ w15 ⟨rfl,hr15,hf15⟩;clear HN1 k0 k1 z0 z1;have n1:=nT hr15 (by omega);obtain⟨v4,hv4⟩:∃v,v=aI (((((R.drop (32*i)).drop 8).drop 8).drop 8).take 8):=⟨_,rfl⟩;rw[<-hv4]at n1 b4;have hwz4:=jL b4;obtain⟨y4,hy4⟩:∃y,y=bJ v4:=⟨_,rfl⟩;rw[<-hy4]at hwz4;have HN1:=qA n1;have HV4:=qA (zH hv4 hy4);have HF15:=qA hf15;clear n1 hv4 hy4 hr15 hf15;go_wp2_with fail
                      refine HN1.out.mono ?_;rintro _ w16 ⟨rfl,hr16,hf16⟩;clear HN1;have hb16:=hf16.blk (HF15.out.blk HB14.out (by simp only[qH];omega)) (by simp only[qH];omega);have hb17:=(hb16.set (i*4+2) (.int .i64 y3)).set (i*4+3) (.int .i64 y4);have hF17:Fr [w11.heap.size+1] w16 ((w16.setCell ⟨w11.heap.size+1,i*4+2,none⟩ (.int .i64 y3)).setCell ⟨w11.heap.size+1,i*4+3,none⟩ (.int .i64 y4)):=((Fr.refl _ _).setCell _ _ (.inl (by simp))).setCell _ _ (.inl (by simp));have hr17:=hr16.fr hF17 (by simpa using hrq) (by simpa using hbq);have hset:∀j,1<j->j<4->((S.set (i*4) (.int .u64 (v1:Nat))).set (i*4+1) (.int .u64 (v2:Nat)))[i*4+j]? =([.int .u64 0,.int .u64 0,.int .i64 0,.int .i64 0]:List Value)[j]? :=fun j h1 h4=>by
                        rw[List.getElem?_set_ne (by omega),List.getElem?_set_ne (by omega)];exact hA j h4
                      have k2:=(hb16.cell (i*4+2)).trans (hset 2 (by decide) (by decide));have k3:=(hb16.cell (i*4+3)).trans (hset 3 (by decide) (by decide));have z2:=hb16.frozen (i*4+2);have z3:=hb16.frozen (i*4+3);simp only[zI,zJ]at k2 k3;have HNew:=qA (show Fr [] w7 ((w16.setCell ⟨w11.heap.size+1,i*4+2,none⟩ (.int .i64 y3)).setCell ⟨w11.heap.size+1,i*4+3,none⟩ (.int .i64 y4))/\Blk ((w16.setCell ⟨w11.heap.size+1,i*4+2,none⟩ (.int .i64 y3)).setCell ⟨w11.heap.size+1,i*4+3,none⟩ (.int .i64 y4)) (w11.heap.size+1) 72 (eG (cR (i+1) R)++lR (q-(i+1)))/\Rst ((w16.setCell ⟨w11.heap.size+1,i*4+2,none⟩ (.int .i64 y3)).setCell ⟨w11.heap.size+1,i*4+3,none⟩ (.int .i64 y4)) w7.heap.size b (o3+32*(i+1)) (32*q-32*(i+1)) (c3-32*(i+1)) (R.drop (32*(i+1)))/\Blk ((w16.setCell ⟨w11.heap.size+1,i*4+2,none⟩ (.int .i64 y3)).setCell ⟨w11.heap.size+1,i*4+3,none⟩ (.int .i64 y4)) w11.heap.size 31 [.int .i64 m0,.int .i64 E,.int .i64 V0,.int .i64 D0] from by
                        have hF:=(((((HPf.out.1.trans HF13.out (fun x hx=>.inr (by simp only[qH]at hx;omega))).trans HF14.out (fun x hx=>.inr (by simp only[qH]at hx;omega))).trans HF15.out (fun x hx=>.inr (by simp only[qH]at hx;omega))).trans hf16 (fun x hx=>.inr (by simp only[qH]at hx;omega))).trans hF17 (fun x hx=>.inr (by simp only[qH]at hx;omega)));refine⟨hF,?_,?_,hF17.blk (hf16.blk (HF15.out.blk (HF14.out.blk (HF13.out.blk HPf.out.2 ?_) ?_) ?_) ?_) ?_⟩
                        · rw [<- HSt2.out, <- HV1.out, <- HV2.out, <- HV3.out.1, <- HV3.out.2, <- HV4.out.1, <- HV4.out.2]
                          exact hb17
                        · rw [HD.out, show o3 + 32 * (i + 1) = o3 + 32 * i + 8 + 8 + 8 + 8 by omega, show 32 * q - 32 * (i + 1) = 32 * q - 32 * i - 8 - 8 - 8 - 8 by omega, show c3 - 32 * (i + 1) = c3 - 32 * i - 8 - 8 - 8 - 8 by omega]
                          exact hr17
                        all_goals (simp only[qH];omega))
                      clear hb16 hb17 hF17 hr17 hset hr16 hf16 HB14 HF13 HF14 HF15 HPf HSt2 HD;go_wp2_with fail
                      go_roundw
                      case rel=>exact⟨i+1,by omega,by go_num,HNew⟩
                      case measure=>simp[intOf];omega
                    · obtain rfl : i = q := by omega
                      have hb:=HP.out.2.1;rw[Nat.sub_self,show lR 0=[] from rfl,List.append_nil]at hb;have hbc:=HP.out.2.2.2;have r0:=hbc.cell 0;have r1:=hbc.cell 1;have r2:=hbc.cell 2;have r3:=hbc.cell 3;simp only[zI,zJ]at r0 r1 r2 r3;have hres:=aRO (HW5.out.fr0 HP.out.1) m0 E V0 D0 nz gv (some ⟨w11.heap.size+1,0,none⟩) i (cR i R) b3 hnz.1 hnz.2 h0.2 (by rw[iB];omega) (aRT hb) (fun r hr=>by
                        have k:=uA i HRb.out.1 r hr;exact⟨k.1,k.2.1,k.2.2.2⟩)
                      rw[iB]at hres;have HRes:=qA hres;clear hres hb hbc HP;go_wp2_with fail
                      refine HRes.out.mono ?_;intro e w17 hre;cases hR:iD m0 E V0 D0 nz gv (cR i R) with
                      | none=>
                        rw[hR]at hre HSt;obtain⟨rfl,hW⟩:=hre;clear hR;go_wp2_with fail
                        go_ret2;rw[HSt.out];exact⟨rfl,hW⟩
                      | some o=>
                        rw[hR]at hre HSt;obtain⟨p,rfl,hW⟩:=hre;clear hR;go_wp2_with fail
                        go_ret2;rw[HSt.out];exact⟨p,rfl,hW⟩
            · have hx : ((q : Int) != (cnt : Int)) = true := by simp; omega
              have hx2:(q != cnt)=true:=by simp;omega
              rw[qD (.inr (.inr hqc))]at HSt;have hkd:=HKd.out;go_wp2_with fail
              go_ret2;rw[HSt.out];exact⟨rfl,HW5.out.fr0 HF10.out⟩
          · have hm' : ¬ (k : Int) % 32 = 0 := by omega
            clear hq;rw[qD (.inr (.inl hm))]at HSt;have hkd:=HKd.out;go_wp2_with fail
            go_ret2;rw[HSt.out];exact⟨rfl,HW5.out.fr0 HF10.out⟩
      · have f1 : ((s1 : Int) != (s2 : Int)) = true := by simp; omega
        have f2:(s1 != s2)=true:=by simp[hs]
        have HSt:Hid (cX l=_):=qA (HSt.out.trans (qD hs));go_wp2_with fail
        go_ret2;rw[HSt.out];exact⟨rfl,HW5.out⟩
theorem jM(x:Int):IntKind.u64.wrap x=((aD x:Nat):Int):=by rw[IntKind.wrap_u64];unfold aD;omega
theorem aHD{o:Ob}{l:List Lv}(h:aPI o l):l.map lvR=o.L.map lvR:=by
 rw[<-h.1,List.map_map];rfl
theorem aDG(l:List R4)(r:R4):aY (l++[r])=aY l++oT r:=by unfold aY;rw[List.flatMap_append];simp
theorem yG{W w:World}{ts:List Th}{p:Nat}{o:Ob}(h:Wd W w (thO p o::ts))(hL:fD W)(hp:o.Pc):
    Calls Tryz.prog 19 #[eQ p] w fun e w' =>∃v,e=.returned (.tuple #[v,.int .i64 0])/\Wd W w' (thY v o.img::thO p o::ts):=by
 have hok:=h.ob;have hle:=hok.leE;have hE:=hok.mE;have HO:=qA hok;have HW:=qA h;have HL:=qA hL;have HP:=qA hp;have hn0:=jM o.now;clear h hL hp hok;go_enter Tryz.func19,Tryz.ntmps19
 go_wp2_with fail
 refine(aGX HW.out).mono ?_;rintro _ w1 ⟨rfl,hF⟩;have HW1:=qA (HW.out.fr0 hF);clear hF HW;go_wp2_with fail
 refine(put_ok (HL.out.fr HW1.out.frm (by simp)) o.m o.E o.V o.D HO.out.m2 HP.out.cf).mono ?_;rintro _ w2 ⟨sv,rfl,hv,hn,hF⟩;have HW2:=qA (HW1.out.new (t:=thY sv (gY o.m o.E o.V o.D)) hF ⟨hv,rfl⟩ (fun q hq=>hn q (by simpa using hq)));clear hF hn HW1;obtain⟨sb,sc,rfl,_⟩:=hv.at (i:=0) (by rw[aA];decide);rw[aA];clear hv;go_wp2_with fail
 refine(aKR _).mono ?_;rintro _ w4 ⟨rfl,hF⟩;have hF4:=hF.alloc (.cells #[.int .u8 83,.int .u8 69,.int .u8 69,.int .u8 80,.int .u8 1] 91);have HW4:=qA (HW2.out.fr0 hF4);have hb:=Blk.new w4 [.int .u8 83,.int .u8 69,.int .u8 69,.int .u8 80,.int .u8 1] 91;have HC1:=qA (show ∀j u,(bG fC)[j]? =some u->(w4.alloc (.cells #[.int .u8 83,.int .u8 69,.int .u8 69,.int .u8 80,.int .u8 1] 91)).cell? ((⟨w4.heap.size,0,none⟩:Addr).add j)=some u from fun j u hj=>by
   rw[Addr.add_lit,Nat.zero_add,hb.cell j];exact hj)
 have HC2:=qA (HW4.out.rowB.rd.cells);clear hF hF4 hb HW2;go_wp2_with (first|(at_builtin;refine aBA rfl (.tmp 25) (.tmp 26) 22 rfl 5 (.int .u8 0) 1 Tryz.underlying22 Tryz.info5 rfl ⟨w4.heap.size,0,none⟩ 5 5 (bG fC) rfl rfl HC1.out ⟨sb,0,none⟩ 32 sc (bG (gY o.m o.E o.V o.D)) rfl (by rw[iS,aA]) HC2.out (by decide) (by decide) (by decide) ?_;intro v5 w5 hown hnew hF5)|fail)
 have HW5:=qA (HW4.out.drop.new (t:=thY v5 (fC++gY o.m o.E o.V o.D)) hF5 ⟨by unfold dS;rw[zE,aA,iT];exact hown,rfl⟩ (fun q hq=>hnew q (by simpa using hq)));clear HC1 HC2 HW4 hown hnew hF5;generalize hB0:fC++gY o.m o.E o.V o.D=B0 at *;have HB0:=qA hB0;have hl0:B0.length=37:=by rw[<-hB0,zE,aA];rfl
 clear hB0;have HA:=qA (tX HW5.out.swap);go_wp2_with fail
 refine HA.out.mono ?_;rintro _ w6 ⟨rfl,hF⟩;have HW6:=qA (HW5.out.fr0 hF);clear hF HA HW5;have HN:=qA (yB HW6.out.swap);go_wp2_with fail
 refine HN.out.mono ?_;rintro _ w7 ⟨rfl,rfl⟩;clear HN;have hlt:=HW6.out.rowB;have HPt:=qA (aDD (nb:=w7.heap.size) (ns:=[aD o.now,o.last,o.gone]) (sz:=8) (cn:=3) (HW6.out.fr0 ((Fr.refl [] w7).alloc (.cells #[.int .u64 (aD o.now:Nat),.int .u64 (o.last:Nat),.int .u64 (o.gone:Nat)] 36))) (Blk.new w7 [.int .u64 (aD o.now:Nat),.int .u64 (o.last:Nat),.int .u64 (o.gone:Nat)] 36) (fun e=>by have:=hlt.lt e;omega) (by decide) (by rw[hl0];simp));clear hlt;go_wp2_with fail
 refine HPt.out.mono ?_;rintro _ w8 ⟨v8,rfl,hW⟩;have HW8:=qA hW;clear hW HPt HW6;generalize hB1:B0++[aD o.now,o.last,o.gone].flatMap (beN 8)=B1 at *;have hl1:B1.length=61:=by rw[<-hB1,zE,hl0];simp[aH]
 have HB1:=qA hB1;clear hB1 hl0;have HV:=qA (yC HW8.out.swap);go_wp2_with fail
 refine HV.out.mono ?_;rintro _ w9 ⟨lv,l,rfl,hlv,hW⟩;clear HV HW8;obtain⟨la,lc,rfl⟩:=hW.rowV.slice;have hll:l.length=o.L.length:=by rw[<-hlv.1,List.length_map]
 have hl2:l.length<=16384:=by omega
 have HW9:=qA (show Wd W w9 (thY v8 (B1++aY ((l.take 0).map lvR))::thV (.slice la l.length lc) l::thO p o::ts) from by
   have:=hW.third;simpa[aY] using this)
 have HLv:=qA (zH hlv hll);clear hW hlv hll;go_wp2_with fail
 go_loopw [7,44] (fun c1 c2 wr=>∃i:Nat,i<=l.length/\Hid (Wd W wr (thY c1 (B1++aY ((l.take i).map lvR))::thV (.slice la l.length lc) l::thO p o::ts))/\c2=.int .i64 i) (fun _ c _=>l.length-(intOf c).toNat)
 case atStart=>exact⟨0,by omega,HW9,rfl⟩
 case round=>
  clear HW9;obtain⟨i,hi,HWr,rfl⟩:=hrel;rename_i bv wr;by_cases hlt:i<l.length
  {
  have hi1:(i:Int)<l.length:=by omega
  have hi0:(0:Int)<=i:=by omega
  have hw1:IntKind.i64.wrap ((i:Int)+1)=((i+1:Nat):Int):=by rw[show(i:Int)+1=((i+1:Nat):Int) by omega];exact zF _ (by omega)
  obtain⟨b1,c1', e1,_,_,_,r1⟩:=HWr.out.swap.rowV.at hlt;simp only[qO,true_and]at e1;obtain⟨rfl,rfl⟩:=e1;have hrec:(B1++aY ((l.take (i+1)).map lvR))=B1++aY ((l.take i).map lvR)++[(l[i]'hlt).u,(l[i]'hlt).v,aD (l[i]'hlt).wt,aD (l[i]'hlt).t].flatMap (beN 8):=by {
  have htk:l.take (i+1)=l.take i++[l[i]'hlt]:=by rw[List.take_add_one,qK hlt];rfl
  rw[htk,List.map_append,List.map_cons,List.map_nil,aDG,List.append_assoc];simp[oT,lvR]};have hlen:(B1++aY ((l.take i).map lvR)).length=61+32*i:=by rw[zE,hl1,mH,List.length_map,List.length_take,Nat.min_eq_left (Nat.le_of_lt hlt)]
  generalize l[i]'hlt=x at *;unfold aHX at r1;obtain⟨x0,x1,x2,x3,x4,x5,x6⟩:=r1;have hwt:=jM x.wt;have ht:=jM x.t;obtain⟨W1,hW1⟩:∃W1,wr.alloc (.cells (lvC x).toArray 74)=W1:=⟨_,rfl⟩;have hs1:W1.heap.size=wr.heap.size+1:=by rw[<-hW1];simp
  have hF1:Fr [] wr W1:=by rw[<-hW1];exact(Fr.refl [] wr).alloc _
  have hbl:=Blk.new W1 [.int .u64 (x.u:Nat),.int .u64 (x.v:Nat),.int .u64 (aD x.wt:Nat),.int .u64 (aD x.t:Nat)] 36;rw[hs1]at hbl;have HPt:=qA (aDD (nb:=wr.heap.size+1) (ns:=[x.u,x.v,aD x.wt,aD x.t]) (sz:=8) (cn:=4) (HWr.out.fr0 (hF1.alloc (.cells #[.int .u64 (x.u:Nat),.int .u64 (x.v:Nat),.int .u64 (aD x.wt:Nat),.int .u64 (aD x.t:Nat)] 36))) hbl (fun e=>by have:=HWr.out.rowB.lt e;omega) (by decide) (by rw[hlen];simp;omega));rw[<-hrec]at HPt;rw[<-hW1]at HPt;have HR:=qA hlen;clear hbl hF1 hs1 hW1 hlen hrec HWr;go_wp2_with fail
  refine HPt.out.mono ?_;rintro _ w8 ⟨v9,rfl,hW⟩;have HWn:=qA hW;clear hW HPt x0 x1 x2 x3 x4 x5 x6;go_wp2_with fail
  go_roundw
  case rel=>exact⟨i+1,by omega,HWn,by go_num⟩
  case measure=>simp[intOf];omega}
  {
  obtain rfl:i=l.length:=by omega
  have hbody:B1++aY ((l.take l.length).map lvR)=aO o.m o.E o.V o.D o.now o.last o.gone (o.L.map lvR):=by {
  rw[List.take_length,aHD HLv.out.1,<-HB1.out,<-HB0.out];unfold aO gZ;simp};have himg:o.img=aO o.m o.E o.V o.D o.now o.last o.gone (o.L.map lvR)++beN 4 (crc (aO o.m o.E o.V o.D o.now o.last o.gone (o.L.map lvR))):=rfl;have hbyt:Byt (aO o.m o.E o.V o.D o.now o.last o.gone (o.L.map lvR)):=gT _ _ _ _ _ _ _ _;have hbl:(aO o.m o.E o.V o.D o.now o.last o.gone (o.L.map lvR)).length=61+32*o.L.length:=by rw[dW,List.length_map]
  have HX:=HWr.out;rw[hbody]at HX;generalize aO o.m o.E o.V o.D o.now o.last o.gone (o.L.map lvR)=B at *;have hcl:=oY hbyt;have HS:=qA (aRP HX hbyt (by omega));have HIm:=qA himg;generalize crc B=c at *;have hcw:IntKind.u64.wrap (c:Int)=c:=by rw[IntKind.wrap_u64];omega
  have HPt:=qA (aDD (nb:=wr.heap.size) (ns:=[c]) (sz:=4) (cn:=1) (HX.fr0 ((Fr.refl [] wr).alloc (.cells #[.int .u64 (c:Nat)] 36))) (Blk.new wr [.int .u64 (c:Nat)] 36) (fun e=>by have:=HX.rowB.lt e;omega) (by decide) (by rw[hbl];simp;omega));clear HX hbody himg hbyt hbl HWr;go_wp2_with fail
  refine HS.out.mono ?_;rintro _ w8 ⟨rfl,rfl⟩;go_wp2_with fail
  refine HPt.out.mono ?_;rintro _ w9 ⟨v9,rfl,hW⟩;have HWn:=qA hW;clear hW HPt;go_wp2
  go_ret2;refine⟨v9,rfl,?_⟩;rw[HIm.out];have h1:=HWn.out;rw[show B++[c].flatMap (beN 4)=B++beN 4 c by simp]at h1;exact h1.drop2}
def mR:List Nat:=jJ (aO 10 2 2 0 0 0 0 [])
theorem cO:mR.length=65:=by decide +kernel
theorem uB:Byt mR:=aAY (gT _ _ _ _ _ _ _ _)
theorem aHE:mR.take 5=[83,69,69,80,1]:=by decide +kernel
theorem aOR:(cX mR).1=0:=by
 have h:=tZ (m:=10) (E:=2) (V:=2) (D:=0) (now:=0) (a:=0) (g:=0) (l:=[]) (by decide) (by decide) (by decide) (by decide) (by decide) (by decide) (by decide) (fun x hx=>by cases hx) rfl;unfold mR;rw[h];decide +kernel
theorem aHF:(cX (mR.set 64 (mR[64]'(by rw[cO];decide) ^^^ 1))).1=17:=by decide +kernel
theorem aHG:(cX ((mR.set 64 (mR[64]'(by rw[cO];decide) ^^^ 1)).set 4 2)).1=15:=by decide +kernel
theorem aLB:(cX []).1=15:=by decide +kernel
theorem aLC:crc [49,50,51,52,53,54,55,56,57]=3421780262:=by decide +kernel
theorem aOS:crc []=0:=by decide +kernel
section
variable {W w:World} {ts:List Th} {a:Option Addr} {l:List Nat} {n cap:Nat} {v:Value}
theorem oU(h:Wd W w ts)(hL:fD W)(hr:RdB w a l)(hb:Byt l)(hn:l.length=n)(hl:n<=1073741824)(hc:n<=cap):
    Calls Tryz.prog 23 #[.slice a n cap] w fun e w' =>e=.returned (.int .i64 (cX l).1)/\Wd W w' ts:=by
 have HD:=qA (yF h hL hr hb hn hl hc);clear h hL hr hb hn hl hc;go_enter Tryz.func23,Tryz.ntmps23
 go_wp2_with fail
 refine HD.out.mono ?_;intro e w1 hD;clear HD;unfold LdE at hD;obtain⟨R,hR⟩:∃R,R=cX l:=⟨_,rfl⟩;rw[<-hR]at hD;have HR:=qA hR;clear hR;obtain⟨c,o⟩:=R;cases o with
 | none=>{
 obtain⟨rfl,hW⟩:=hD;have HW:=qA hW;clear hW;go_wp2_with fail
 go_ret;rw[<-HR.out];exact⟨rfl,HW.out⟩}
 | some o=>{
 obtain⟨p,rfl,hW⟩:=hD;have HW:=qA hW;clear hW;go_wp2_with fail
 go_ret;rw[<-HR.out];exact⟨rfl,HW.out.drop⟩}
theorem dS.set{g:Nat}(h:dS w (.slice (some ⟨g,0,none⟩) l.length cap) l){i:Nat}(hi:i<l.length)(x:Nat):dS (w.setCell ⟨g,i,none⟩ (.int .u8 (x:Int))) (.slice (some ⟨g,0,none⟩) l.length cap) (l.set i x):=by
 unfold dS;rw[List.length_set,show bG (l.set i x)=(bG l).set i (.int .u8 (x:Int)) by unfold bG;rw[List.map_set]];exact iF h hi _
theorem Wd.setB{g:Nat}(h:Wd W w (thY (.slice (some ⟨g,0,none⟩) l.length cap) l::ts)){i:Nat}(hi:i<l.length)(x:Nat):Wd W (w.setCell ⟨g,i,none⟩ (.int .u8 (x:Int))) (thY (.slice (some ⟨g,0,none⟩) l.length cap) (l.set i x)::ts):=by
 obtain⟨K,⟨hv,rfl⟩,hs⟩:=h.open;exact hs ⟨_,⟨hv.set hi x,rfl⟩,(Fr.refl _ _).setCell _ _ (.inl (by simp[Value.ownBlock])),fun q hq=>.inl hq⟩
theorem aDH(h:Wd W w (thY v l::ts))(hL:fD W)(hb:Byt l)(hl:l.length<=1073741824):
    Calls Tryz.prog 23 #[v] w fun e w' =>e=.returned (.int .i64 (cX l).1)/\Wd W w' (thY v l::ts):=by
 have hr:=h.rowB;obtain⟨a,cap,rfl⟩:=hr.slice;have hc:l.length<=cap:=by {
 by_cases h0:0<l.length
 {
 obtain⟨b,c,e,hn,_⟩:=hr.at h0;simp only[qO,true_and]at e;omega}
 · omega};exact oU h hL hr.rd hb rfl hl hc
end
theorem xor8{a b:Nat}(ha:a<256)(hb:b<256):a ^^^ b<256:=Nat.xor_lt_two_pow (n:=8) ha hb
theorem aLD{a b:Nat}(ha:a<256)(hb:b<256):Go.bits .xor .u8 (a:Int) (b:Int)=((a ^^^ b:Nat):Int):=by
 have ha' :a%2 ^ IntKind.u8.bits=a:=Nat.mod_eq_of_lt ha;have hb' :b%2 ^ IntKind.u8.bits=b:=Nat.mod_eq_of_lt hb;have k:(BitVec.ofNat IntKind.u8.bits a ^^^ BitVec.ofNat IntKind.u8.bits b).toNat=a ^^^ b:=by rw[BitVec.toNat_xor,BitVec.toNat_ofNat,BitVec.toNat_ofNat,ha', hb']
 simp only[Go.bits,BitVec.ofInt_natCast];rw[k,IntKind.wrap_u8];have:=xor8 ha hb;omega
theorem Byt.set{l:List Nat}(h:Byt l){x:Nat}(hx:x<256){i:Nat}:Byt (l.set i x):=fun b hb=>by
 rcases List.mem_or_eq_of_mem_set hb with h1|rfl
 · exact h b h1
 · exact hx
theorem aLE:(Ob.new 10 2 2 0 0).img=mR:=by unfold Ob.img Ob.new mR;rfl
theorem aLF:strOfNums [83,69,69,80,1]={ data:=#[83,69,69,80,1] }:=by decide +kernel
def aDI:Array Value:=#[.int .u8 49,.int .u8 50,.int .u8 51,.int .u8 52,.int .u8 53,.int .u8 54,.int .u8 55,.int .u8 56,.int .u8 57]
theorem jN{W w:World}{ts:List Th}(h:Wd W w ts)(hL:fD W):Calls Tryz.prog 17 #[] w fun e w' =>e=.returned (.bool true)/\Wd W w' ts:=by
 have HL:=qA hL;have HN:=qA (aKM h 10 0 2 2 (by decide) (by decide) (by decide) (by decide) (by decide) (by decide) (by decide) (by decide));clear h hL;go_enter Tryz.func17,Tryz.ntmps17
 go_wp2_with fail
 refine HN.out.mono ?_;rintro _ w1 ⟨p,rfl,hW⟩;have hcv:=Go.Joins.run_convert_bytes_const_at (P:=Tryz.prog) w1 22 5 aDI 9 9 w1.heap.size rfl Tryz.underlying22 Tryz.underlying5;have hcell:=fun j=>Go.Joins.cell_alloc_mark_at w1 aDI 5 (9,10) w1.heap.size j rfl;have hF2:Fr [] w1 (w1.alloc (.cells aDI 5 (9,10))):=(Fr.refl [] w1).alloc _;have hrd:RdB (w1.alloc (.cells aDI 5 (9,10))) (some ⟨w1.heap.size,0,none⟩) [49,50,51,52,53,54,55,56,57]:=fun i hi=>by
   refine⟨w1.heap.size,0,rfl,by simp,?_⟩;rw[Nat.zero_add,hcell i];have:i=0∨i=1∨i=2∨i=3∨i=4∨i=5∨i=6∨i=7∨i=8:=by simp at hi;omega
   rcases this with rfl|rfl|rfl|rfl|rfl|rfl|rfl|rfl|rfl<;>rfl
 have hs9:=wC (cap:=9) hrd (by unfold Byt;decide) (by decide);rw[aLC]at hs9;have hs0:=wC (w:=w1.alloc (.cells aDI 5 (9,10))) (a:=none) (l:=[]) (cap:=0) (fun i hi=>absurd hi (Nat.not_lt_zero _)) (fun b hb=>by cases hb) (by decide);rw[aOS]at hs0;have HS9:=qA hs9;have HS0:=qA hs0;have HW2:=qA (hW.fr0 hF2);have hn9:aDI.size=9:=rfl;rw[hn9]at hcv;clear HN hW hs9 hs0 hrd hcell hF2;unfold aDI at *;go_wp2_with fail
 refine HS9.out.mono ?_;rintro _ w2 ⟨rfl,rfl⟩;go_wp2_with fail
 refine HS0.out.mono ?_;rintro _ w2 ⟨rfl,rfl⟩;clear HS0 HS9 hcv;generalize w1.alloc (.cells #[.int .u8 49,.int .u8 50,.int .u8 51,.int .u8 52,.int .u8 53,.int .u8 54,.int .u8 55,.int .u8 56,.int .u8 57] 5 (9,10))=w2 at *;have HSv:=qA (yG HW2.out HL.out (aKV (by decide)));rw[aLE]at HSv;go_wp2_with fail
 refine HSv.out.mono ?_;rintro _ w3 ⟨v,rfl,hW⟩;clear HSv HW2;have hr:=hW.rowB;have hW' :=hW.drop2;have hch:=aDH hW' HL.out uB (by rw[cO];decide);rw[aOR]at hch;obtain⟨b,cap,rfl,hcap,_,hz,_⟩:=hr.at (i:=0) (by rw[cO];decide);rw[cO]at hcap;have h5:=hr.rd.take 5;rw[aHE]at h5;have cc:∀i (hi:i<5),w3.cell? ⟨b,0+i,none⟩=some (.int .u8 (([83,69,69,80,1]:List Int).getD i 0)):=fun i hi=>by
   obtain⟨b', off', e,_,hc⟩:=h5 i (by simpa using hi);simp only[qI,Addr.mk.injEq,and_true]at e;obtain⟨rfl,rfl⟩:=e;rw[hc];have:i=0∨i=1∨i=2∨i=3∨i=4:=by omega
   rcases this with rfl|rfl|rfl|rfl|rfl<;>rfl
 have hst:=run_convert_bytes_arg (P:=Tryz.prog) w3 22 5 Tryz.underlying22 Tryz.underlying5 b 0 5 cap [83,69,69,80,1] rfl cc 9 Tryz.underlying9;rw[aLF]at hst;have HCh:=qA hch;have HB:=qA (zH hr hcap);have HW3:=qA hW';rw[cO];rw[cO]at HCh;have e1:(5:Int)<=cap:=by omega
 have e2:¬cap=0:=by omega
 clear hch hr hW hW' h5 cc hz;go_wp2_with fail
 refine HCh.out.mono ?_;rintro _ w4 ⟨rfl,hW⟩;clear HCh hst e1 e2 HB HW3;obtain⟨b', cap', ev,_,_,hz,hc⟩:=hW.rowB.at (i:=64) (by rw[cO];decide);simp only[qO,qI,Addr.mk.injEq,and_true]at ev;obtain⟨rfl,hlen,rfl⟩:=ev;clear hlen;have hlx:=uB _ (List.getElem_mem (l:=mR) (n:=64) (by rw[cO];decide));have hL1:=aHF;have hL2:=aHG;generalize mR[64]'(by rw[cO];decide)=x at *;have hxy:Go.bits .xor .u8 (x:Int) 1=((x ^^^ 1:Nat):Int):=aLD hlx (show 1<256 by decide);have hy:=xor8 hlx (show 1<256 by decide);generalize x ^^^ 1=y at *;have hW1:=Wd.setB (by rw[cO];exact hW) (i:=64) (by rw[cO];decide) y;have hb1:Byt (mR.set 64 y):=uB.set hy;have hch:=aDH hW1 HL.out hb1 (by rw[List.length_set,cO];decide);rw[hL1]at hch;rw[cO]at hch;have HCh:=qA hch;have hz64:=hz 64;clear hch hW1 hW hL1;have HL2:=qA hL2;clear hL2;have HB1:=qA hb1;clear hb1 hz hlx hy;go_wp2_with fail
 refine HCh.out.mono ?_;rintro _ w5 ⟨rfl,hW⟩;clear HCh hc hz64 hxy;obtain⟨b', cap', ev,_,_,hz,hc⟩:=hW.rowB.at (i:=4) (by rw[List.length_set,cO];decide);simp only[qO,qI,Addr.mk.injEq,and_true]at ev;obtain⟨rfl,hlen,rfl⟩:=ev;clear hlen;have hle:(mR.set 64 y).length=65:=by rw[List.length_set,cO]
 have hW1:=Wd.setB (by rw[hle];exact hW) (i:=4) (by rw[hle];decide) 2;have hch:=aDH hW1 HL.out (HB1.out.set (by decide)) (by rw[List.length_set,hle];decide);rw[HL2.out,hle]at hch;have HCh:=qA hch;have hz4:=hz 4;clear hch hW1 hW hle hz;generalize (mR.set 64 y)[4]'_=x4 at *;go_wp2_with fail
 refine HCh.out.mono ?_;rintro _ w6 ⟨rfl,hW⟩;clear HCh hc hz4;have hch:=oU (a:=none) (l:=[]) (n:=0) (cap:=0) hW.drop HL.out (fun i hi=>absurd hi (Nat.not_lt_zero _)) (fun b hb=>by cases hb) rfl (by decide) (by decide);rw[aLB]at hch;have HCh:=qA hch;clear hch hW;go_wp2_with fail
 refine HCh.out.mono ?_;rintro _ w7 ⟨rfl,hW⟩;clear HCh;go_wp2
 go_ret;exact⟨rfl,hW⟩
theorem aLG{P:Program}{W w:World}{ts:List Th}{v:Value}{l ns:List Nat}(h:Wd W w (thY v l::ts))(t ty:TypeId)(i:TypeInfo)(z:Value)(ht:P.underlying t=some (.slice 5))(hi:P.info? 5=some i)(hz:i.zero=some z)(hsize:i.size=1)(hby:i.bytes=1)(hzs:z.cells.size=1)
    (ax:Option Addr) (m c:Nat) (hr:RdB w ax ns) (hm:ns.length=m) (hc:ax=none->c=0) (hl:l.length+m<=1073741824):
    ∃v' w', (Builtin.append_ #[t,t] ty #[v,.slice ax m c]).run P w=.ok v' w' /\ Wd W w' (thY v' (l++ns)::ts):=by
 obtain⟨K,⟨hv,rfl⟩,hs⟩:=h.open;cases ax with
 | none=>{
 have hn:ns=[]:=by {
 cases ns with
 | nil=>rfl
 | cons x ns=>obtain⟨b,off,e,_⟩:=hr 0 (by simp);cases e};subst hn;rw[hc rfl,<-hm];refine⟨_,_,run_append_owned_none w 0 t ty 5 i 1 ht hi _ l.length (bG l) hv,?_⟩;rw[List.append_nil];exact hs ⟨_,⟨hv,rfl⟩,Fr.refl _ _,fun q hq=>.inl hq⟩}
 | some ad=>{
 obtain⟨v', w', hr2,h2,h3,_,h5⟩:=run_append_own_at (P:=P) w 0 t ty 5 i z 1 1 ht hi hz hsize hby hzs (by decide) v l.length (bG l) hv ad m c (bG ns) (by rw[iS,hm]) hr.cells (yJ ns) (by unfold maxLen;omega) (by omega) (qR _);refine⟨v', w', hr2,hs ⟨_,⟨?_,rfl⟩,⟨h3.os,h3.tape,h3.output,h3.size,fun k hk hn=>h3.block k hk (fun e=>hn (by simp[<-e]))⟩,fun q hq=>?_⟩⟩
 {
 unfold dS;rw[zE,hm,iT];exact h2}
 {
 rcases h5 with h5|h5
 · rw[h5]at hq;exact .inl hq
 · rw[h5]at hq;simp at hq;exact .inr (by omega)}}
theorem rG{P:Program}{W w:World}{ts:List Th}{v:Value}{l ns:List Nat}(h:Wd W w (thY v l::ts)){ops:Array Oper}{rest:List Oper}{o:Oper}{a:Act}{Q:Exit->Act->World->Prop}(hgd:o.guard=none)(s x:Operand)(t:TypeId)
    (ho:o.op=.call { callee:=.builtin .append,args:=#[s,x],argTypes:=#[t,t] }) (z:Value) (ht:P.underlying t=some (.slice 5)) (hinfo:(P.info? 5).map (fun i=>(i.zero,i.size,i.bytes))=some (some z,1,1)) (hzs:z.cells.size=1)
    (ax:Option Addr) (m c:Nat) (hsv:a.eval s=v) (hx:a.eval x=.slice ax m c) (hr:RdB w ax ns) (hm:ns.length=m) (hc:ax=none->c=0) (hl:l.length+m<=1073741824)
    (k:∀v' w', Wd W w' (thY v' (l++ns)::ts)->wpList P ops Q rest (a.put o.dst v') w'):wpList P ops Q (o::rest) a w:=by
 obtain⟨i0,hi,hz0,hz1,hz2⟩:=info_parts hinfo;refine wpList_plain hgd fun K hK=>?_;obtain⟨v', w', hr2,h2⟩:=aLG (P:=P) h t o.type i0 z ht hi hz0 hz1 hz2 hzs ax m c hr hm hc hl;unfold Oper.wp execOp;simp only[ho,resolve,invoke,builtin,Sem.run_bind,Sem.run_pure,Result.andThen_ok,List.map_toArray,List.map_cons,List.map_nil,hsv,hx,hr2];exact hK _ _ (k v' w' h2)
theorem dS.take{w:World}{g n cap:Nat}{l:List Nat}(h:dS w (.slice (some ⟨g,0,none⟩) n cap) l)(k:Nat)(hk:k<=l.length):dS w (.slice (some ⟨g,0,none⟩) k cap) (l.take k):=by
 obtain⟨h1,h2⟩:=h;have hlen:(l.take k).length=k:=by rw[List.length_take];omega
 refine⟨by rw[iS],?_⟩;rcases h2 with⟨e,_⟩|⟨g', cap', cur,e,_,hh,hn,hm,hsz,hxs⟩
 · cases e
 {
 simp only[qO,qI,Addr.mk.injEq,and_true]at e;obtain⟨rfl,rfl,rfl⟩:=e;refine .inr ⟨g,cap,cur,by rw[hlen],qR _,hh,by omega,hm,hsz,?_⟩;rw[hlen,Nat.mul_one,show bG (l.take k)=(bG l).take k by unfold bG;rw[List.map_take],<-hxs,Nat.mul_one,List.take_take,Nat.min_eq_left hk]}
theorem Wd.takeB{W w:World}{ts:List Th}{g n cap:Nat}{l:List Nat}(h:Wd W w (thY (.slice (some ⟨g,0,none⟩) n cap) l::ts))(k:Nat)(hk:k<=l.length):Wd W w (thY (.slice (some ⟨g,0,none⟩) k cap) (l.take k)::ts):=by
 obtain⟨K,⟨hv,rfl⟩,hs⟩:=h.open;exact hs ⟨_,⟨hv.take k hk,rfl⟩,Fr.refl _ _,fun q hq=>.inl hq⟩
theorem aBI:rJ Tryz.prog 88 [.i .u8,.i .u8,.i .u8,.i .i64]:=by
 refine rJ.struct Tryz.underlying88 (by kernel_rfl) (fun j k hj=>?_);have hi:rJ Tryz.prog 5 [.i .u8]:=rJ.int Tryz.underlying5 (by kernel_rfl);have hb:rJ Tryz.prog 2 [.i .i64]:=rJ.int Tryz.underlying2 (by kernel_rfl);match j,hj with
 | 0,hj=>exact⟨0,_,_,rfl,hi,by decide,hj⟩
 | 1,hj=>exact⟨1,_,_,rfl,hi,by decide,hj⟩
 | 2,hj=>exact⟨2,_,_,rfl,hi,by decide,hj⟩
 | 3,hj=>exact⟨3,_,_,rfl,hb,by decide,hj⟩
 | j+4,hj=>simp at hj
abbrev Mv:=Nat×Nat×Nat×Int
def Mv.ok(m:Mv):Prop:=m.1<256/\m.2.1<256/\m.2.2.1<256/\ -9223372036854775808<=m.2.2.2/\m.2.2.2<=9223372036854775807
def lU(w:World)(a:Option Addr)(len:Nat)(z:Nat->Mv):Prop:=
  len<=9223372036854775807/\∀i,i<len->∃b off,a=some ⟨b,off,none⟩/\b<w.heap.size/\w.cell? ⟨b,off+i*4,none⟩=some (.int .u8 (z i).1)/\w.cell? ⟨b,off+i*4+1,none⟩=some (.int .u8 (z i).2.1) /\
    w.cell? ⟨b,off+i*4+2,none⟩=some (.int .u8 (z i).2.2.1)/\w.cell? ⟨b,off+i*4+3,none⟩=some (.int .i64 (z i).2.2.2)/\(z i).ok
theorem aBJ{a:Int}(h:(Lit.int .u8 a).wf=true):∃n:Nat,a=n/\n<256:=by
 have h:(decide ((0:Int)<=a)&&decide (a<=255))=true:=h;simp only[qW,decide_eq_true_eq]at h;exact⟨a.toNat,by omega,by omega⟩
theorem aRV{a:Int}(h:(Lit.int .i64 a).wf=true):-9223372036854775808<=a/\a<=9223372036854775807:=by
 have h:(decide ((-9223372036854775808:Int)<=a)&&decide (a<=9223372036854775807))=true:=h;simp only[qW,decide_eq_true_eq]at h;exact h
theorem aOT{H:Type}{enc:TypeId×Value->H}{W:World}{a:Option Addr}{len cap:Nat}{d:DataW H}{p:List MemPlace}
    (h:DataW.Trod enc Tryz.prog W 0 (fun _=>true) true 67 (.slice a len cap) d p):∃z,lU W a len z:=by
 obtain⟨z,hz⟩:=aFD Tryz.underlying67 aBI (by decide) h;have key:∀i,∃u:Mv,i<len->z i 0=.int .u8 u.1/\z i 1=.int .u8 u.2.1/\z i 2=.int .u8 u.2.2.1/\z i 3=.int .i64 u.2.2.2/\u.ok:=by {
 intro i;by_cases hi:i<len
 {
 obtain⟨b,off,rfl,_,h1⟩:=hz.2 i hi;obtain⟨n0,e0,w0⟩:=(h1 0 _ rfl).2;obtain⟨n1,e1,w1⟩:=(h1 1 _ rfl).2;obtain⟨n2,e2,w2⟩:=(h1 2 _ rfl).2;obtain⟨n3,e3,w3⟩:=(h1 3 _ rfl).2;obtain⟨m0,rfl,k0⟩:=aBJ w0;obtain⟨m1,rfl,k1⟩:=aBJ w1;obtain⟨m2,rfl,k2⟩:=aBJ w2;have k3:=aRV w3;exact⟨(m0,m1,m2,n3),fun _=>⟨e0,e1,e2,e3,k0,k1,k2,k3.1,k3.2⟩⟩}
 · exact⟨(0,0,0,0),fun h=>absurd h hi⟩};obtain⟨F,hF⟩:=Classical.axiomOfChoice key;refine⟨F,hz.1,fun i hi=>?_⟩;obtain⟨b,off,rfl,hb,h1⟩:=hz.2 i hi;obtain⟨e0,e1,e2,e3,e4⟩:=hF i hi;refine⟨b,off,rfl,hb,?_,?_,?_,?_,e4⟩
 · rw[<-e0];exact(h1 0 _ rfl).1
 · rw[<-e1];exact(h1 1 _ rfl).1
 · rw[<-e2];exact(h1 2 _ rfl).1
 · rw[<-e3];exact(h1 3 _ rfl).1
def Ob.mvT(o:Ob)(m:Mv):Int:=o.now+(m.1%8:Nat)
def mS(x:Nat):Nat:=x*1099511627776
def Ob.mvO(o:Ob)(m:Mv):Ob:=if m.2.1%16=m.2.2.1%16 then o.tickS (o.mvT m) else o.add (mS (m.2.1%16)) (mS (m.2.2.1%16)) m.2.2.2 (o.mvT m)
def Ob.mvE(o:Ob)(m:Mv):Int:=if m.2.1%16=m.2.2.1%16 then dI o.m o.now (o.mvT m) else(o.addC (mS (m.2.1%16)) (mS (m.2.2.1%16)) (o.mvT m):Nat)
structure Bp (s k:Nat) (o:Ob):Prop where
  pc:o.Pc
  s256:s<256
  m:o.m=1+s
  E:o.E=12
  V:o.V=9
  D:o.D=5
  now0:0<=o.now
  now:o.now<=7*k
  last:o.last<=k
  gone:o.gone<=k
theorem Bp.new{s:Nat}(hs:s<256):Bp s 0 (Ob.new (1+s) 12 9 5 0):=
  ⟨aKV (fJ.2 (by omega)),hs,rfl,rfl,rfl,rfl,Int.le_refl _,Int.le_refl _,qJ _,qJ _⟩
theorem Bp.mono{s k j:Nat}{o:Ob}(h:Bp s k o)(hj:k<=j):Bp s j o:=⟨h.pc,h.s256,h.m,h.E,h.V,h.D,h.now0,by have:=h.now;omega,by have:=h.last;omega,by have:=h.gone;omega⟩
theorem Bp.tick{s k:Nat}{o:Ob}(h:Bp s k o)(ho:o.Ok){t:Int}(h0:0<=t)(ht:t<=7*(k+1:Nat)):Bp s (k+1) (o.tick t):=by
 refine⟨h.pc.tick t,h.s256,h.m,h.E,h.V,h.D,h0,ht,by have:=h.last;show o.last<=_;omega,?_⟩;show o.gone+(o.L.length-(o.left t).length)<=_
 have h1:=ho.last;have h2:=h.last;omega
theorem Bp.mv{s k:Nat}{o:Ob}(h:Bp s k o)(ho:o.Ok){m:Mv}(hm:m.ok):Bp s (k+1) (o.mvO m):=by
 have hd:m.1%8<8:=Nat.mod_lt _ (by decide);have h0:0<=o.mvT m:=by have:=h.now0;unfold Ob.mvT;omega
 have h1:o.mvT m<=7*(k+1:Nat):=by have:=h.now;unfold Ob.mvT;omega
 unfold Ob.mvO;split
 {
 unfold Ob.tickS;split
 · exact h.tick ho h0 h1
 · exact h.mono (Nat.le_succ k)}
 {
 have hp:=h.pc.add (mS (m.2.1%16)) (mS (m.2.2.1%16)) (wt:=m.2.2.2) ⟨hm.2.2.2.1,hm.2.2.2.2⟩ (o.mvT m);unfold Ob.add at hp ⊢;split
 {
 rename_i hc;rw[qD hc]at hp;have k1:=h.tick ho h0 h1;exact⟨hp,k1.s256,k1.m,k1.E,k1.V,k1.D,k1.now0,k1.now,by have:=h.last;show o.last+1<=_;omega,k1.gone⟩}
 · exact h.mono (Nat.le_succ k)}
theorem wF{x:Nat}(h:x<16):IntKind.u64.wrap ((x:Int)*1099511627776)=((mS x:Nat):Int):=by unfold mS;rw[IntKind.wrap_u64];omega
theorem aEZ{x:Nat}(h:x<16):mS x<18446744073709551616:=by unfold mS;omega
theorem aRW{W w:World}{ts:List Th}{p s k:Nat}{o:Ob}(h:Wd W w (thO p o::ts))(hB:Bp s k o)(hk:k<=100000)(m:Mv)(hm:m.ok):
    Calls Tryz.prog 45 #[eQ p,.agg #[.int .u8 m.1,.int .u8 m.2.1,.int .u8 m.2.2.1,.int .i64 m.2.2.2]] w fun e w' =>e=.returned (.int .i64 (o.mvE m))/\Wd W w' (thO p (o.mvO m)::ts):=by
 obtain⟨a,u,v,wt⟩:=m;obtain⟨ha,hu,hv,hw1,hw2⟩:=hm;simp only at ha hu hv hw1 hw2;have hW0:=(h.new (t:=thB w.heap.size 88 [.int .u8 (a:Nat),.int .u8 (u:Nat),.int .u8 (v:Nat),.int .i64 wt]) (K:=[w.heap.size]) ((Fr.refl [] w).alloc (.cells #[.int .u8 (a:Nat),.int .u8 (u:Nat),.int .u8 (v:Nat),.int .i64 wt] 88)) ⟨Blk.new w _ _,rfl⟩ (by simp)).swap;have HW0:=qA hW0;have hnow0:=hB.now0;have hnow:=hB.now;obtain⟨now,hnw⟩:∃now,now=o.now:=⟨_,rfl⟩;have HC:=qA (fun w' (h:Wd W w' (thO p o::thB w.heap.size 88 [.int .u8 (a:Nat),.int .u8 (u:Nat),.int .u8 (v:Nat),.int .i64 wt]::ts)) j=>h.swap.blk.cell j);rw[<-hnw]at hnow0 hnow;have hbw:IntKind.i64.wrap ((a:Int).tmod 8)=((a%8:Nat):Int):=by rw[Int.tmod_eq_emod_of_nonneg (by omega)];simp[IntKind.wrap,IntKind.bits,IntKind.signed];omega
 have hb4:((a:Int)%8)=((a%8:Nat):Int):=by omega
 have hb3:a%8<8:=Nat.mod_lt _ (by omega);have HT:Hid (o.mvT (a,u,v,wt)=now+(a%8:Nat)):=qA (by unfold Ob.mvT;rw[hnw]);generalize a%8=dt at *;have HN:=qA hnw;obtain⟨t,ht⟩:∃t,t=now+dt:=⟨_,rfl⟩;have hwt:IntKind.i64.wrap (now+dt)=t:=by rw[ht];exact zF _ (by omega)
 rw[<-ht]at HT;have ht0:0<=t:=by omega
 have ht1:t<=1000000:=by omega
 have Ht:=qA ht;clear hW0 hnw ht h hnow hnow0;go_enter Tryz.func45,Tryz.ntmps45
 go_wp2_with fail
 refine dU (fun w' =>Wd W w' (thO p o::thB w.heap.size 88 [.int .u8 (a:Nat),.int .u8 (u:Nat),.int .u8 (v:Nat),.int .i64 wt]::ts)) (by kernel_rfl) (by kernel_rfl) (HW0.out.fr0 ((Fr.refl [] _).drew)) ?_;iterate 1 (refine aN (by kernel_rfl) (fun KK hK=>?_);go_simp;refine hK.out _ ?_;clear hK KK)
 refine bV (by kernel_rfl) (.int .i64 now) (fun w' hw' =>?_) ?_
 {
 go_simp;refine(yB hw').mono ?_;rintro _ w6 ⟨rfl,rfl⟩;exact⟨by rw[HN.out],hw'⟩};iterate 1 (refine aN (by kernel_rfl) (fun KK hK=>?_);go_simp;refine hK.out _ ?_;clear hK KK)
 refine bV (by kernel_rfl) (.int .u8 (a:Nat)) (fun w' hw' =>?_) ?_
 {
 have c0:=HC.out w' hw' 0;simp only[zI]at c0;go_simp;first|exact hw' | exact⟨rfl,hw'⟩|skip};iterate 4 (refine aN (by kernel_rfl) (fun KK hK=>?_);go_simp;refine hK.out _ ?_;clear hK KK)
 refine iN ?_;intro w5 hf5;have n1:=HC.out w5 hf5 1;have n2:=HC.out w5 hf5 2;have n3:=HC.out w5 hf5 3;simp only[zI,zJ]at n1 n2 n3;have HW5:=qA hf5;clear hf5 hbw hb4 hwt;have hx16:u%16<16:=Nat.mod_lt _ (by decide);have hy16:v%16<16:=Nat.mod_lt _ (by decide);have htu:(u:Int).tmod 16=((u%16:Nat):Int):=by rw[Int.tmod_eq_emod_of_nonneg (by omega)];omega
 have htv:(v:Int).tmod 16=((v%16:Nat):Int):=by rw[Int.tmod_eq_emod_of_nonneg (by omega)];omega
 have htu2:(u:Int)%16=((u%16:Nat):Int):=by omega
 have htv2:(v:Int)%16=((v%16:Nat):Int):=by omega
 have hO:o.mvO (a,u,v,wt)=if u%16=v%16 then o.tickS t else o.add (mS (u%16)) (mS (v%16)) wt t:=by unfold Ob.mvO;rw[HT.out]
 have hE:o.mvE (a,u,v,wt)=if u%16=v%16 then dI o.m o.now t else(o.addC (mS (u%16)) (mS (v%16)) t:Nat):=by unfold Ob.mvE;rw[HT.out]
 generalize u%16=x at *;generalize v%16=y at *;have hwx:=wF hx16;have hwy:=wF hy16;have hwx1:IntKind.u64.wrap (x:Int)=x:=by rw[IntKind.wrap_u64];omega
 have hwy1:IntKind.u64.wrap (y:Int)=y:=by rw[IntKind.wrap_u64];omega
 have hxb:=aEZ hx16;have hyb:=aEZ hy16;by_cases hxy:x=y
 {
 subst hxy;rw[qD rfl]at hO hE;have d1:((x:Int) == (x:Int))=true:=by simp
 have HTk:=qA (aOJ HW5.out t (by omega) (by omega));have HOE:=qA (zH hO hE);clear hO hE hx16 hy16 hwx hwy hxb hyb;go_wp2_with fail
 refine HTk.out.mono ?_;rintro _ w6 ⟨rfl,hW⟩;have HW6:=qA hW;clear hW;go_wp2
 go_ret;rw[HOE.out.1,HOE.out.2];exact⟨rfl,HW6.out.drop2⟩}
 {
 rw[qC hxy]at hO hE;have d1:((x:Int) == (y:Int))=false:=by simp;omega
 have d2:(x == y)=false:=by simp;omega
 generalize mS x=X at *;generalize mS y=Y at *;have HTk:=qA (aRG HW5.out X Y hxb hyb wt t (by omega) (by omega));have HOE:=qA (zH hO hE);clear hO hE hx16 hy16 hxb hyb;go_wp2_with fail
 refine HTk.out.mono ?_;rintro _ w6 ⟨rfl,hW⟩;have HW6:=qA hW;clear hW;go_wp2
 go_ret;rw[HOE.out.1,HOE.out.2];exact⟨rfl,HW6.out.drop2⟩}
theorem lU.fr{W w:World}{a:Option Addr}{len:Nat}{z:Nat->Mv}(h:lU W a len z)(hf:Fr [] W w):lU w a len z:=⟨h.1,fun i hi=>by
 obtain⟨b,off,e,hb,h0,h1,h2,h3,h4⟩:=h.2 i hi;exact⟨b,off,e,Nat.lt_of_lt_of_le hb hf.size,hf.cell h0 (by simp),hf.cell h1 (by simp),hf.cell h2 (by simp),hf.cell h3 (by simp),h4⟩⟩
theorem aBK{W w:World}{ts:List Th}{s len cap:Nat}{a:Option Addr}{z:Nat->Mv}(h:Wd W w ts)(hs:s<256)(hz:lU W a len z):
    Calls Tryz.prog 38 #[.int .u8 (s:Nat),.slice a len cap] w fun e w' =>∃p o,e=.returned (eQ p)/\Wd W w' (thO p o::ts)/\Bp s 80 o:=by
 have HN:=qA (aKM h (1+s) 5 12 9 (by omega) (by omega) (by decide) (by decide) (by decide) (by decide) (by decide) (by decide));have hw1:IntKind.i64.wrap (s:Int)=s:=zF _ (by omega);have hw2:IntKind.i64.wrap (1+(s:Int))=1+s:=zF _ (by omega);have HS:=qA hs;have HZ:=qA hz;clear h hs hz;go_enter Tryz.func38,Tryz.ntmps38
 go_wp2_with fail
 refine HN.out.mono ?_;rintro _ w1 ⟨p,rfl,hW⟩;have HP0:=qA (show ∃o,Wd W w1 (thO p o::ts)/\Bp s 0 o from⟨_,hW,Bp.new HS.out⟩);clear hW HN hw1 hw2;go_wp2_with fail
 go_loopw [7] (fun c wr=>∃i:Nat,i<=len/\i<=80/\c=.int .i64 i/\Hid (∃o,Wd W wr (thO p o::ts)/\Bp s i o)) (fun c _=>80-(intOf c).toNat)
 case atStart=>exact⟨0,by omega,by omega,rfl,HP0⟩
 case round=>
  clear HP0;obtain⟨i,hi,hi8,rfl,HP⟩:=hrel;rename World=>wr
  by_cases hlt:i<len
  {
  by_cases h80:i<80
  {
  have e1:(i:Int)<len:=by omega
  have e2:(i:Int)<80:=by omega
  have e0:(0:Int)<=i:=by omega
  have d1:decide ((i:Int)<len)=true:=qG e1;have d2:decide ((i:Int)<80)=true:=qG e2;have hw1:IntKind.i64.wrap ((i:Int)+1)=((i+1:Nat):Int):=by rw[show(i:Int)+1=((i+1:Nat):Int) by omega];exact zF _ (by omega)
  obtain⟨o,hW,hB⟩:=HP.out;obtain⟨b,off,rfl,hb,m0,m1,m2,m3,hok⟩:=(HZ.out.fr hW.frm).2 i hlt;have HM:=qA (aRW hW hB (by omega) (z i) hok);have hnew:=hB.mv hW.ob hok;have HB:=qA hnew;clear hW hB hok hnew HP;generalize z i=mv at *;obtain⟨ma,mu,mvv,mw⟩:=mv;simp only at m0 m1 m2 m3;go_wp2_with fail
  refine HM.out.mono ?_;rintro _ w2 ⟨rfl,hW⟩;have HP2:=qA (show ∃o,Wd W w2 (thO p o::ts)/\Bp s (i+1) o from⟨_,hW,HB.out⟩);clear hW HM HB m0 m1 m2 m3;go_wp2_with fail
  go_roundw
  case rel=>exact⟨i+1,by omega,by omega,by go_num,HP2⟩
  case measure=>simp[intOf];omega}
  {
  have d1:decide ((i:Int)<len)=true:=qG (by omega);have d2:decide ((i:Int)<80)=false:=qF (by omega);have d3:(i:Int)<len:=by omega
  have d4:¬(i:Int)<80:=by omega
  go_wp2
  go_ret;obtain⟨o,hW,hB⟩:=HP.out;exact⟨p,rfl,o,hW,hB.mono (by omega)⟩}}
  {
  have d1:decide ((i:Int)<len)=false:=qF (by omega);have d3:¬(i:Int)<len:=by omega
  go_wp2
  go_ret;obtain⟨o,hW,hB⟩:=HP.out;exact⟨p,rfl,o,hW,hB.mono (by omega)⟩}
theorem aRX{a:Int}(h:(Lit.int .u16 a).wf=true):∃n:Nat,a=n/\n<65536:=by
 have h:(decide ((0:Int)<=a)&&decide (a<=65535))=true:=h;simp only[qW,decide_eq_true_eq]at h;exact⟨a.toNat,by omega,by omega⟩
theorem Wd.formB{W w:World}{ts:List Th}{v:Value}{l:List Nat}(h:Wd W w (thY v l::ts))(h0:0<l.length):∃b cap,v=.slice (some ⟨b,0,none⟩) l.length cap/\l.length<=cap/\RdB w (some ⟨b,0,none⟩) l:=by
 have hr:=h.rowB;obtain⟨b,cap,rfl,hc,_⟩:=hr.at h0;exact⟨b,cap,rfl,hc,hr.rd⟩
theorem dS.rd2{w:World}{a:Option Addr}{n cap:Nat}{l:List Nat}(h:dS w (.slice a n cap) l):RdB w a l:=by
 obtain⟨a', c', e⟩:=h.slice;simp only[qO]at e;obtain⟨rfl,rfl,rfl⟩:=e;exact h.rd
theorem oV{W w:World}{ts:List Th}{a:Option Addr}{l:List Nat}{n cap:Nat}(h:Wd W w ts)(hL:fD W)(hr:RdB w a l)(hb:Byt l)(hn:l.length=n)(hl:n<=1073741824)(hc:n<=cap)(hR:(cX l).2=none):
    Calls Tryz.prog 21 #[.slice a n cap] w fun e w' =>e=.returned (.tuple #[.pointer none,.int .i64 (cX l).1])/\Wd W w' ts:=
  (yF h hL hr hb hn hl hc).mono fun e w' k=>by
 unfold LdE at k;rw[hR]at k;exact k
theorem oW{W w:World}{ts:List Th}{a:Option Addr}{l:List Nat}{n cap:Nat}{o:Ob}(h:Wd W w ts)(hL:fD W)(hr:RdB w a l)(hb:Byt l)(hn:l.length=n)(hl:n<=1073741824)(hc:n<=cap)(hR:cX l=(0,some o)):
    Calls Tryz.prog 21 #[.slice a n cap] w fun e w' =>∃p,e=.returned (.tuple #[eQ p,.int .i64 0])/\Wd W w' (thO p o::ts):=
  (yF h hL hr hb hn hl hc).mono fun e w' k=>by
 unfold LdE at k;rw[hR]at k;exact k
def aLH(P:Program)(K:Value->World->Prop):Result Go.Next->Prop
  | .ok (.value u) w' =>K u w'
  | .ok .skip w' =>K undef w'
  | .ok (.enter f args) w' =>Calls P f args w' (fun e w'' =>∃v,e=.returned v/\K v w'')
  | _=>False
attribute [go_sem] aLH
section
variable {P:Program} {ops:Array Oper} {md:Region.Mode} {f:Nat->Value} {S S' :Nat->Bool} {a:Act}
end
section
variable {P:Program} {md:Region.Mode} {I:(Nat->Value)->(Nat->Bool)->World->Prop}
end
def rcEq(u v u' v' :Nat)(wt t wt' t' :Int):Bool:=(u == u')&&(v == v')&&(wt == wt')&&(t == t')
@[go_sem high] theorem aRY(u v u' v' :Nat)(wt t wt' t' :Int)(w:World):(Op.equalIn 10000 72 (.agg #[.int .u64 u,.int .u64 v,.int .i64 wt,.int .i64 t]) (.agg #[.int .u64 u', .int .u64 v', .int .i64 wt', .int .i64 t'])).run Tryz.prog w=.ok (rcEq u v u' v' wt t wt' t') w:=by
 have hc:∀(a b:Nat),((a:Int) == (b:Int))=(a == b):=fun a b=>by rw[Bool.eq_iff_iff];simp only[beq_iff_eq];omega
 rw[show(10000:Nat)=9999+1 from rfl,run_equalIn_struct w 9999 _ _ _ (by kernel_rfl) (by kernel_rfl)];unfold rcEq;simp only[Program.fieldsOf,Tryz.underlying72,Op.eqFields];go_simp;by_cases h1:u=u' <;> by_cases h2:v=v' <;> by_cases h3:wt=wt' <;> by_cases h4:t=t' <;> simp[h1,h2,h3,h4]
@[go_sem] theorem aPK(op:BinOp)(x y:Operand)(xs ys:Array Value)(w:World):(eqGuard op 72 x y (.agg xs) (.agg ys)).run Tryz.prog w=.ok () w:=run_eqGuard_agg w op 72 x y xs ys (by kernel_rfl)
section
variable {P:Program} {ops:Array Oper} {md:Region.Mode} (G:Nat->Sem Go.Next->Value->Prop) (must:Nat->Bool)
def aLI(ops:Array Oper)(Q:Act->Prop):Nat->List Oper->Act->Prop
  | _,[],a=>Q a
  | k,o::rest,a=>if Region.wanted o (yielded ops a.tmps) then ∃v,G k (execOp a.eval o) v/\aLI ops Q (k+1) rest (a.put o.dst v) else must k=false/\aLI ops Q (k+1) rest (a.put o.dst undef)
variable {G must}
end
def seqG(P:Program)(cs:List Nat)(C:Nat->World->Prop)(i:Nat)(s:Sem Go.Next)(v:Value):Prop:=
  if i∈cs then ∀w,C (cs.idxOf i) w->fO P (C (cs.idxOf i+1)) v (s.run P w) else ∀q w,C q w->Oper.quietUpon P (C q) w v (s.run P w)
section
variable {P:Program} {ops:Array Oper} {md:Region.Mode} {C:Nat->World->Prop} {cs:List Nat}
structure SW (P:Program) (ops:Array Oper) (cs:List Nat) (C:Nat->World->Prop) (Q:Act->Prop) (k:Nat) (l:List Oper) (a:Act):Prop where
  out:aLI (seqG P cs C) (fun i=>decide (i∈cs)) ops Q k l a
variable {Q:Act->Prop} {k:Nat} {o:Oper} {rest:List Oper} {a:Act}
end
section
variable {W wr w w' :World} {p:Nat} {o:Ob} {ts:List Th} {a:Option Addr} {c n:Nat}
end
section
variable {W wr w w' :World} {p:Nat} {o:Ob} {ts:List Th} {a:Option Addr} {c n:Nat}
end
section
variable {w0 w w' :World} {f:Nat->Value} {g g' :Nat->Option (List Lv)} {i:Nat} {v:Value} {c:List Lv}
end
section
variable {G:Nat->Value->Prop} {g:(Nat->Bool)->Nat->Option (List Lv)} {w0 w w' :World} {f:Nat->Value} {L:Nat->Bool} {i:Nat} {v:Value} {c:List Lv}
end
section
variable {W w:World} {ts:List Th}
end
section
variable {n i:Nat} {w0 w w' :World} {f:Nat->Value} {L:Nat->Bool} {v:Value}
end
section
variable {n i:Nat} {X Y Z:List Nat}
end
def dD(l:List Nat)(i x:Nat):List Nat:=l.take i++(beN 8 x++l.drop (i+8))
theorem gA{p q r:List Nat}{i:Nat}(x:Nat)(hp:p.length=i)(hq:q.length=8):dD (p++(q++r)) i x=p++(beN 8 x++r):=by
 unfold dD;rw[List.take_left' hp,show i+8=p.length+8 by rw[hp],List.drop_append,List.drop_eq_nil_of_le (show p.length<=p.length+8 by omega),List.nil_append,show p.length+8-p.length=8 by omega,List.drop_left' hq]
theorem jO{l:List Nat}{i:Nat}(x:Nat)(h:i+8<=l.length):(dD l i x).length=l.length:=by
 unfold dD;rw[zE,zE,List.length_take,aH,List.length_drop];omega
section
variable {m E V D now:Int} {a g:Nat} {l:List R4}
theorem cZ:aO m E V D now a g l=fC++(beN 8 (aD m)++(beN 8 (aD E)++(beN 8 (aD V)++(beN 8 (aD D)++(beN 8 (aD now)++(beN 8 a++(beN 8 g++aY l))))))):=by
 unfold aO gZ gY;simp only[List.append_assoc]
theorem aRZ(x:Int):dD (aO m E V D now a g l) 5 (aD x)=aO x E V D now a g l:=by
 rw[cZ,cZ];exact gA _ rfl (aH 8 _)
theorem aSA(x:Int):dD (aO m E V D now a g l) 13 (aD x)=aO m x V D now a g l:=by
 have l8:∀y,(beN 8 y).length=8:=aH 8;have e1:aO m E V D now a g l=(fC++beN 8 (aD m))++(beN 8 (aD E)++(beN 8 (aD V)++(beN 8 (aD D)++(beN 8 (aD now)++(beN 8 a++(beN 8 g++(aY l))))))):=by rw[cZ];simp only[List.append_assoc]
 have e2:aO m x V D now a g l=(fC++beN 8 (aD m))++(beN 8 (aD x)++(beN 8 (aD V)++(beN 8 (aD D)++(beN 8 (aD now)++(beN 8 a++(beN 8 g++(aY l))))))):=by rw[cZ];simp only[List.append_assoc]
 rw[e1,e2];exact gA _ (by simp only[zE,l8];rfl) (l8 _)
theorem aSB(x:Int):dD (aO m E V D now a g l) 29 (aD x)=aO m E V x now a g l:=by
 have l8:∀y,(beN 8 y).length=8:=aH 8;have e1:aO m E V D now a g l=(fC++beN 8 (aD m)++beN 8 (aD E)++beN 8 (aD V))++(beN 8 (aD D)++(beN 8 (aD now)++(beN 8 a++(beN 8 g++(aY l))))):=by rw[cZ];simp only[List.append_assoc]
 have e2:aO m E V x now a g l=(fC++beN 8 (aD m)++beN 8 (aD E)++beN 8 (aD V))++(beN 8 (aD x)++(beN 8 (aD now)++(beN 8 a++(beN 8 g++(aY l))))):=by rw[cZ];simp only[List.append_assoc]
 rw[e1,e2];exact gA _ (by simp only[zE,l8];rfl) (l8 _)
theorem aLJ(x:Int):dD (aO m E V D now a g l) 37 (aD x)=aO m E V D x a g l:=by
 have l8:∀y,(beN 8 y).length=8:=aH 8;have e1:aO m E V D now a g l=(fC++beN 8 (aD m)++beN 8 (aD E)++beN 8 (aD V)++beN 8 (aD D))++(beN 8 (aD now)++(beN 8 a++(beN 8 g++(aY l)))):=by rw[cZ];simp only[List.append_assoc]
 have e2:aO m E V D x a g l=(fC++beN 8 (aD m)++beN 8 (aD E)++beN 8 (aD V)++beN 8 (aD D))++(beN 8 (aD x)++(beN 8 a++(beN 8 g++(aY l)))):=by rw[cZ];simp only[List.append_assoc]
 rw[e1,e2];exact gA _ (by simp only[zE,l8];rfl) (l8 _)
theorem aDJ(x:Nat):dD (aO m E V D now a g l) 45 x=aO m E V D now x g l:=by
 have l8:∀y,(beN 8 y).length=8:=aH 8;have e1:aO m E V D now a g l=(fC++beN 8 (aD m)++beN 8 (aD E)++beN 8 (aD V)++beN 8 (aD D)++beN 8 (aD now))++(beN 8 a++(beN 8 g++(aY l))):=by rw[cZ];simp only[List.append_assoc]
 have e2:aO m E V D now x g l=(fC++beN 8 (aD m)++beN 8 (aD E)++beN 8 (aD V)++beN 8 (aD D)++beN 8 (aD now))++(beN 8 x++(beN 8 g++(aY l))):=by rw[cZ];simp only[List.append_assoc]
 rw[e1,e2];exact gA _ (by simp only[zE,l8];rfl) (l8 _)
theorem aDK(x:Nat):dD (aO m E V D now a g l) 53 x=aO m E V D now a x l:=by
 have l8:∀y,(beN 8 y).length=8:=aH 8;have e1:aO m E V D now a g l=(fC++beN 8 (aD m)++beN 8 (aD E)++beN 8 (aD V)++beN 8 (aD D)++beN 8 (aD now)++beN 8 a)++(beN 8 g++(aY l)):=by rw[cZ];simp only[List.append_assoc]
 have e2:aO m E V D now a x l=(fC++beN 8 (aD m)++beN 8 (aD E)++beN 8 (aD V)++beN 8 (aD D)++beN 8 (aD now)++beN 8 a)++(beN 8 x++(aY l)):=by rw[cZ];simp only[List.append_assoc]
 rw[e1,e2];exact gA _ (by simp only[zE,l8];rfl) (l8 _)
theorem wG(k r:List R4):aY (k++r)=aY k++aY r:=by unfold aY;rw[List.flatMap_append]
theorem aSC{k r:List R4}{u v:Nat}{wt t:Int}(x:Int):dD (aO m E V D now a g (k++(u,v,wt,t)::r)) (61+32*k.length+24) (aD x)=aO m E V D now a g (k++(u,v,wt,x)::r):=by
 have l8:∀y,(beN 8 y).length=8:=aH 8;have e:∀t:Int,aO m E V D now a g (k++(u,v,wt,t)::r)=(gZ m E V D now a g++aY k++(beN 8 u++beN 8 v++beN 8 (aD wt)))++(beN 8 (aD t)++aY r):=fun t=>by
   unfold aO;rw[wG,show aY ((u,v,wt,t)::r)=oT (u,v,wt,t)++aY r from rfl];unfold oT;simp only[List.append_assoc]
 rw[e,e];exact gA _ (by simp only[zE,l8,iA,mH]) (l8 _)
theorem aSD{k r:List R4}{u v:Nat}{wt t:Int}(x:Nat):dD (aO m E V D now a g (k++(u,v,wt,t)::r)) (61+32*k.length) x=aO m E V D now a g (k++(x,v,wt,t)::r):=by
 have l8:∀y,(beN 8 y).length=8:=aH 8;have e:∀u:Nat,aO m E V D now a g (k++(u,v,wt,t)::r)=(gZ m E V D now a g++aY k)++(beN 8 u++(beN 8 v++beN 8 (aD wt)++beN 8 (aD t)++aY r)):=fun u=>by
   unfold aO;rw[wG,show aY ((u,v,wt,t)::r)=oT (u,v,wt,t)++aY r from rfl];unfold oT;simp only[List.append_assoc]
 rw[e,e];exact gA _ (by simp only[zE,iA,mH]) (l8 _)
end
theorem wH:∀{n:Nat} {b:List Nat} {i:Nat},i<n->(cR n b)[i]? =some (iL (b.drop (32*i)))
  | n+1,b,0,_=>by rw[dC];rfl
  | n+1,b,i+1,h=>by
    rw[dC,zJ,wH (by omega),List.drop_drop,show 32+32*i=32*(i+1) by omega]
theorem aLK{b:List Nat}(hb:Byt b)(i:Nat):aI (sub b i 8)<18446744073709551616:=by
 have h1:=gB ((hb.drop i).take 8);have h2:256 ^ ((b.drop i).take 8).length<=256 ^ 8:=Nat.pow_le_pow_right (by decide) (by rw[List.length_take];omega);exact Nat.lt_of_lt_of_le h1 h2
theorem Ob.Pc.img_dec{o:Ob}(h:o.Pc)(k:o.Ok):aON o.img=(o.m,(o.E:Int),(o.V:Int),o.D,o.now,o.last,o.gone,o.L.map lvR):=by
 obtain⟨h1,h2,h3,h4,h5,h6,h7⟩:=h.ins k;exact aOO h1 h2 h3 h4 h5 h6 h7 (h.fit4 k) (beN 4 (crc (aO o.m o.E o.V o.D o.now o.last o.gone (o.L.map lvR)))) (aH 4 _)
theorem Ob.Pc.img_rec{o:Ob}(h:o.Pc)(k:o.Ok){i:Nat}(hi:i<o.L.length):aI (sub o.img (61+32*i) 8)=(o.L[i]).u/\aI (sub o.img (61+32*i+8) 8)=(o.L[i]).v/\aI (sub o.img (61+32*i+16) 8)=aD (o.L[i]).wt/\aI (sub o.img (61+32*i+24) 8)=aD (o.L[i]).t:=by
 have e:=h.img_dec k;unfold aON at e;simp only[zD]at e;have e2:=e.2.2.2.2.2.2.2;have hn:(o.img.length-65)/32=o.L.length:=by rw[o.img_len];omega
 rw[hn]at e2;have e3:(cR o.L.length (o.img.drop 61))[i]? =(o.L.map lvR)[i]? :=by rw[e2]
 rw[wH hi,List.getElem?_map,qK hi,List.drop_drop]at e3;have e4:=Option.some.inj e3;unfold iL lvR at e4;simp only[zD,List.drop_drop]at e4;have hv:=fun j=>aLK o.img_byt j;obtain⟨f1,f2,f3,f4⟩:=e4;refine⟨f1,?_,?_,?_⟩
 · rw[<-f2];rfl
 · rw[<-f3,show 61+32*i+8+8=61+32*i+16 by omega];exact(wA (hv _)).symm
 · rw[<-f4,show 61+32*i+8+8+8=61+32*i+24 by omega];exact(wA (hv _)).symm
end Go.Proofs.YtjdgpcjbgjnahaaGreatDoor
