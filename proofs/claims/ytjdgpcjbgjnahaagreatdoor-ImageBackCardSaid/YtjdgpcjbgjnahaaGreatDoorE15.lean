/- Windows that show the same: alike. -/
import Derived.Test.YtjdgpcjbgjnahaaGreatDoorE14
import Derived.Test.YtjdgpcjbgjnahaaGreatDoorE4
import Derived.Lib.SmallJoins
import Derived.Laws.BytesArg
import Derived.Test.YtjdgpcjbgjnahaaGreatDoorE1
import Derived.Test.YtjdgpcjbgjnahaaGreatDoorE13
import Derived.Test.YtjdgpcjbgjnahaaGreatDoorE11
set_option maxRecDepth 10000
set_option maxHeartbeats 4000000
set_option linter.unusedSimpArgs false
set_option linter.unusedVariables false
/- The window of an image: the walk of Load. -/
namespace Go.Proofs.YtjdgpcjbgjnahaaGreatDoor
open Go.RowKit
def LdE(W w' :World)(ts:List Th)(R:Int×Option Ob)(e:Ending):Prop:=match R.2 with
  | none=>e=.returned (.tuple #[.pointer none,.int .i64 R.1])/\Wd W w' ts
  | some o=>∃p,e=.returned (.tuple #[cJ p,.int .i64 R.1])/\Wd W w' (thO p o::ts)
def hdB(a b c d e:Nat):Bool:=decide ([a,b,c,d,e]=pV)
theorem Tryz.infoy5:∃i,Tryz.prog.info? 5=some i:=qV.1 (by kernel_rfl)
@[go_sem] theorem aWO(a b c d e:Nat)(w:World):(Op.equalIn 10000 91 (.agg #[.int .u8 a,.int .u8 b,.int .u8 c,.int .u8 d,.int .u8 e]) (.agg #[.int .u8 83,.int .u8 69,.int .u8 69,.int .u8 80,.int .u8 1])).run Tryz.prog w=.ok (hdB a b c d e) w:=by
 obtain⟨i,hi⟩:=Tryz.infoy5;have u3:=Tryz.underlying5;have a3:=Tryz.isAgg5;have z3:=Tryz.sizeOf5;have hc:Tryz.prog.cellsOf 5=1:=by kernel_rfl
 rw[show(10000:Nat)=9999+1 from rfl,run_equalIn_array w 9999 _ _ Tryz.underlying91 hi,hc];have r2:List.range 5=[0,1,2,3,4]:=rfl;rw[r2];simp only[Op.eqItems];go_simp;have e1:∀(x y:Nat),((x:Int) == (y:Int))=(x == y):=fun x y=>by rw[Bool.eq_iff_iff];simp only[beq_iff_eq];omega
 have k1:=e1 a 83;have k2:=e1 b 69;have k3:=e1 c 69;have k4:=e1 d 80;have k5:=e1 e 1;unfold hdB pV;by_cases h1:a=83<;>by_cases h2:b=69<;>by_cases h3:c=69<;>by_cases h4:d=80<;>by_cases h5:e=1<;>simp_all<;>omega
@[go_sem] theorem aWH(op:BinOp)(x y:Operand)(xs ys:Array Value)(w:World):(eqGuard op 91 x y (.agg xs) (.agg ys)).run Tryz.prog w=.ok () w:=run_eqGuard_agg w op 91 x y xs ys (by kernel_rfl)
theorem aSQ{k q:Nat}(h:k<=1073741824)(hq:q=k/32):wrap64 ((k:Int)/32)=(q:Int):=by
 rw[show(k:Int)/32=(q:Int) by omega];exact IntWalk.wrap64_in _ ⟨by omega,by omega⟩
theorem aHZ{q:Nat}(h:q<18446744073709551616):IntKind.u64.wrap (q:Int)=q:=by rw[IntKind.wrap_u64];omega
theorem aIA{W w:World}{ts:List Th}{a:Option Addr}{l:List Nat}{n cap:Nat}(h:Wd W w ts)(hL:fZ W)(hr:RdB w a l)(hb:Byt l)(hn:l.length=n)(hl:n<=1073741824)(hc:n<=cap):
    Calls Tryz.prog 21 #[.slice a n cap] w fun e w' =>LdE W w' ts (fN l) e:=by
  by_cases h65:n<65
  · rw [aDM (by omega)]
    have HW:=qA h;have d1:decide ((n:Int)<65)=true:=qG (by omega);have d2:decide (n<65)=true:=qG h65;clear h hL hr hb hn hl hc h65;go_enter Tryz.func21,Tryz.ntmps21
    go_wp2_with fail
    refine dB (fun w' =>Fr [] w w') (by kernel_rfl) (by kernel_rfl) ((Fr.refl [] w).drew) ?_;iterate 4 (refine aH (by kernel_rfl) (fun KK hK=>?_);go_simp;refine hK.out _ ?_;clear hK KK)
    iterate 5 (refine tA (by kernel_rfl) ?_)
    iterate 1 (refine aH (by kernel_rfl) (fun KK hK=>?_);go_simp;refine hK.out _ ?_;clear hK KK)
    refine gF ?_;intro w5 hf5;have HF5:=qA hf5;clear hf5;go_wp2_with fail
    go_ret2;exact⟨rfl,HW.out.fr0 HF5.out⟩
  · obtain ⟨m, hm⟩ : ∃ m, n = m + 4 := ⟨n - 4, by omega⟩
    have hm61:61<=m:=by omega
    obtain⟨b,off,rfl,hbl,hq⟩:=hr 0 (by omega);clear hq;have d1:decide ((n:Int)<65)=false:=qF (by omega);have d2:decide (n<65)=false:=qF h65;obtain⟨x0,hx0⟩:∃x,x=l[0]'(by omega):=⟨_,rfl⟩;obtain⟨x1,hx1⟩:∃x,x=l[1]'(by omega):=⟨_,rfl⟩;obtain⟨x2,hx2⟩:∃x,x=l[2]'(by omega):=⟨_,rfl⟩;obtain⟨x3,hx3⟩:∃x,x=l[3]'(by omega):=⟨_,rfl⟩;obtain⟨x4,hx4⟩:∃x,x=l[4]'(by omega):=⟨_,rfl⟩;have h5:l.take 5=[x0,x1,x2,x3,x4]:=by
      rw[hx0,hx1,hx2,hx3,hx4];match l,hn,hm,hm61 with
      | y0::y1::y2::y3::y4::l,_,_,_=>rfl
      | [],h,_,_=>simp at h;omega
      | [_],h,_,_=>simp at h;omega
      | [_,_],h,_,_=>simp at h;omega
      | [_,_,_],h,_,_=>simp at h;omega
      | [_,_,_,_],h,_,_=>simp at h;omega
    have cc:∀i (hi:i<l.length),w.cell? ⟨b,off+i,none⟩=some (.int .u8 (l[i]'hi:Nat)):=fun i hi=>by
      obtain⟨b', off', e,_,hc⟩:=hr i hi;simp only[qI,Addr.mk.injEq,and_true]at e;obtain⟨rfl,rfl⟩:=e;exact hc
    have c0:=cc 0 (by omega);have c1:=cc 1 (by omega);have c2:=cc 2 (by omega);have c3:=cc 3 (by omega);have c4:=cc 4 (by omega);rw[<-hx0,Nat.add_zero]at c0;rw[<-hx1]at c1;rw[<-hx2]at c2;rw[<-hx3]at c3;rw[<-hx4]at c4;clear cc hx0 hx1 hx2 hx3 hx4;have hat:∀w,(Instr.arrayAt 91 (.slice (some ⟨b,off,none⟩) n cap)).run Tryz.prog w=.ok (.pointer (some ⟨b,off,none⟩)) w:=fun w=>run_arrayAt w 91 _ 5 _ n cap Tryz.underlying91 (by omega);obtain⟨hd,hhd⟩:∃hd,hd=hdB x0 x1 x2 x3 x4:=⟨_,rfl⟩;have HHd:=qA (zI hhd h5);have HW:=qA h;have HR:=qA (zI hr (zI hb hn));have HL:=qA hL;have HC:=qA (zI hm (zI hl (zI hc hbl)));clear h hr hb hn hL hc hbl h65 hm hl h5 hhd;go_enter Tryz.func21,Tryz.ntmps21
    go_wp2_with fail
    refine dB (fun w' =>Fr [] w w') (by kernel_rfl) (by kernel_rfl) ((Fr.refl [] w).drew) ?_;iterate 6 (refine aH (by kernel_rfl) (fun KK hK=>?_);go_simp;(try simp only[hat]);go_simp;refine hK.out _ ?_;clear hK KK)
    refine bC (by kernel_rfl) (.agg #[.int .u8 x0,.int .u8 x1,.int .u8 x2,.int .u8 x3,.int .u8 x4]) (fun w' hw' =>?_) ?_
    · have c0 := hw'.cell c0 (by simp)
      have c1:=hw'.cell c1 (by simp);have c2:=hw'.cell c2 (by simp);have c3:=hw'.cell c3 (by simp);have c4:=hw'.cell c4 (by simp);go_simp;first|exact hw' | exact⟨rfl,hw'⟩|skip
    refine bC (by kernel_rfl) (.agg #[.int .u8 83,.int .u8 69,.int .u8 69,.int .u8 80,.int .u8 1]) (fun w' hw' =>?_) ?_
    · go_simp
      refine(aOT w').mono ?_;rintro _ w6 ⟨rfl,h1⟩;exact⟨rfl,hw'.trans' h1⟩
    iterate 2 (refine aH (by kernel_rfl) (fun KK hK=>?_);go_simp;refine hK.out _ ?_;clear hK KK)
    refine gF ?_;intro w5 hf5;have HF5:=qA hf5;rw[<-HHd.out.1];clear hf5 c0 c1 c2 c3 c4 hat d1 d2;cases hd with
    | false=>
      go_wp2_with fail
      go_ret2;rw[aDN (l:=l) (by rw[HHd.out.2];exact of_decide_eq_false HHd.out.1.symm)];exact⟨rfl,HW.out.fr0 HF5.out⟩
    | true=>
      have HSt:=qA (aDL (l:=l) (HR.out.2.2.trans HC.out.1) hm61 (by rw[HHd.out.2];exact of_decide_eq_true HHd.out.1.symm) rfl rfl);clear HHd;obtain⟨B,hB⟩:∃B,B=l.take m:=⟨_,rfl⟩;obtain⟨T,hT⟩:∃T,T=l.drop m:=⟨_,rfl⟩;rw[<-hB,<-hT]at HSt;have hBl:B.length=m:=by rw[hB,List.length_take,HR.out.2.2,HC.out.1];omega
      have hTl:T.length=4:=by rw[hT,List.length_drop,HR.out.2.2,HC.out.1];omega
      have hBr:RdB w (some ⟨b,off,none⟩) B:=by rw[hB];exact HR.out.1.take m
      have hTr:RdB w (some ⟨b,off+m,none⟩) T:=by rw[hT];exact HR.out.1.drop m
      have hBb:Byt B:=by rw[hB];exact HR.out.2.1.take m
      have hTb:Byt T:=by rw[hT];exact HR.out.2.1.drop m
      have HW5:=qA (HW.out.fr0 HF5.out);have hsum:=aHX (cap:=cap) (hBr.fr HF5.out) hBb (by rw[hBl];have:=HC.out;omega);have hget:=aTK (cap:=cap-m) (hTr.fr HF5.out) hTb (by omega);rw[hBl]at hsum;rw[hTl]at hget;have hv:=iZ hTb;rw[hTl]at hv;have hcr:=aDW hBb;have HSum:=qA hsum;have HGet:=qA hget;have HB:=qA (zI hBr (zI hBb hBl));generalize aN T=s1 at *;generalize crc B=s2 at *;have hw1:IntKind.i64.wrap ((n:Int)-4)=(m:Int):=by
        rw[show(n:Int)-4=(m:Int) by have:=HC.out;omega];exact zG _ (by have:=HC.out;omega)
      have hw2:IntKind.u64.wrap (s2:Int)=s2:=by rw[IntKind.wrap_u64];omega
      have e1:(0:Int)<=m:=by omega
      have e2:(m:Int)<=cap:=by have:=HC.out;omega
      have e3:(m:Int)<=n:=by have:=HC.out;omega
      have e4:(n:Int)<=cap:=by have:=HC.out;omega
      have e5:¬cap=m:=by have:=HC.out;omega
      have e6:n-m=4:=by have:=HC.out;omega
      have e7:¬cap=0:=by have:=HC.out;omega
      clear hsum hget hBr hTr hBb hTb hv hcr hB hT hBl hTl HW HR;go_wp2_with fail
      refine HGet.out.mono ?_;rintro _ w6 ⟨rfl,rfl⟩;clear HGet;go_wp2_with fail
      refine HSum.out.mono ?_;rintro _ w7 ⟨rfl,rfl⟩;clear HSum;by_cases hs:s1=s2
      · subst hs
        have f1:(37:Int)<=m:=by omega
        have f2:(37:Int)<=cap:=by omega
        have f3:¬cap=37:=by have:=HC.out;omega
        have HSt:Hid (fN l=_):=qA (HSt.out.trans (qC (fun h=>h rfl)));have hRb:=Blk.new w7 [.slice (some ⟨b,off+37,none⟩) (m-37) (cap-37)] 22;have HA:=qA ((Fr.refl [] w7).alloc (.cells #[.slice (some ⟨b,off+37,none⟩) (m-37) (cap-37)] 22));have hRst:Rst (w7.alloc (.cells #[.slice (some ⟨b,off+37,none⟩) (m-37) (cap-37)] 22)) w7.heap.size b (off+37) (m-37) (cap-37) (B.drop 37):=by
          have hc:=HC.out;have hs:=HW5.out;refine⟨hRb,(HB.out.1.drop 37).fr ?_,HB.out.2.1.drop 37,by rw[List.length_drop,HB.out.2.2],by omega,?_⟩
          · exact HF5.out.alloc _
          · have:=HF5.out.size;omega
        have HRs:=qA hRst;have HAl:=qA (((Fr.refl [] w7).alloc (.cells #[.slice (some ⟨b,off+37,none⟩) (m-37) (cap-37)] 22)));clear hRb hRst HA;have hb37:=HB.out.2.1.drop 37;have b1:=gO hb37;have b2:=gO (hb37.drop 8);have b3:=gO ((hb37.drop 8).drop 8);have z1:=(oO HRs.out (by omega));obtain⟨R,hR⟩:∃R,R=(((B.drop 37).drop 8).drop 8).drop 8:=⟨_,rfl⟩;rw[<-hR]at HSt;have HRb:=qA (show Byt R/\R.length=m-61 by
          rw[hR];exact⟨((hb37.drop 8).drop 8).drop 8,by simp only[List.length_drop,HB.out.2.2];omega⟩)
        have hR2:=qA hR;clear hR hb37;obtain⟨nv,hnv⟩:∃nv,nv=aN ((B.drop 37).take 8):=⟨_,rfl⟩;rw[<-hnv]at z1 b1 HSt;have hwn:=jU b1;have hnz:=iF nv b1;generalize bQ nv=nz at *;have HN1:=qA z1;clear z1 hnv b1;go_wp2_with fail
        refine HN1.out.mono ?_;rintro _ w8 ⟨rfl,hr8,hf8⟩;clear HN1;have z2:=(oO hr8 (by omega));obtain⟨av,hav⟩:∃av,av=aN (((B.drop 37).drop 8).take 8):=⟨_,rfl⟩;rw[<-hav]at z2 b2 HSt;have HN2:=qA z2;have HF8:=qA (HAl.out.trans hf8 (fun q hq=>.inr (by simp only[qH]at hq;omega)));clear z2 hav hr8 hf8 HAl HRs;go_wp2_with fail
        refine HN2.out.mono ?_;rintro _ w9 ⟨rfl,hr9,hf9⟩;clear HN2;have z3:=(oO hr9 (by omega));obtain⟨gv,hgv⟩:∃gv,gv=aN ((((B.drop 37).drop 8).drop 8).take 8):=⟨_,rfl⟩;rw[<-hgv]at z3 b3 HSt;have HN3:=qA z3;have HF9:=qA (HF8.out.trans hf9 (fun q hq=>.inr (by simp only[qH]at hq;omega)));clear z3 hgv hr9 hf9 HF8;go_wp2_with fail
        refine HN3.out.mono ?_;rintro _ w10 ⟨rfl,hr10,hf10⟩;have HF10:=qA (HF9.out.trans hf10 (fun q hq=>.inr (by simp only[qH]at hq;omega)));obtain⟨k,hk⟩:∃k,k=m-61:=⟨_,rfl⟩;obtain⟨c3,hc3⟩:∃c3,c3=cap-61:=⟨_,rfl⟩;obtain⟨o3,ho3⟩:∃o3,o3=off+61:=⟨_,rfl⟩;rw[<-hR2.out,show m-37-8-8-8=k by omega,show cap-37-8-8-8=c3 by omega,show off+37+8+8+8=o3 by omega]at hr10;rw[<-hk]at HSt HRb;have hrc:=hr10.1.cell 0;simp only[zJ]at hrc;have HR10:=qA hr10;have HK:=qA (zI hk (zI hc3 ho3));clear HN3 HF9 hr10 hf10 hR2 hk hc3 ho3 hwn;by_cases hag:av<gv
        · have d1 : decide ((av : Int) < gv) = true := qG (by omega)
          have d2:decide (av<gv)=true:=qG hag;rw[qD (.inl hag)]at HSt;go_wp2_with fail
          go_ret2;rw[HSt.out];exact⟨rfl,HW5.out.fr0 HF10.out⟩
        · have d1 : decide ((av : Int) < gv) = false := qF (by omega)
          have d2:decide (av<gv)=false:=qF hag;obtain⟨cnt,hcnt⟩:∃cnt,cnt=av-gv:=⟨_,rfl⟩;have hws:IntKind.u64.wrap ((av:Int)-gv)=(cnt:Int):=by rw[IntKind.wrap_u64];omega
          rw[<-hcnt]at HSt;have hcb:cnt<18446744073709551616:=by omega
          have HCn:=qA hcnt;clear hcnt;obtain⟨q,hq⟩:∃q,q=k/32:=⟨_,rfl⟩;have hkb:k<=1073741824:=by have:=HK.out.1;have:=HC.out;omega
          have hw7:=aHZ (q:=q) (by omega);have HKd:=qA (aSQ hkb hq);rw[<-hq]at HSt;by_cases hm:k%32=0
          · have hm' : (k : Int) % 32 = 0 := by omega
            have hkq:k=32*q:=by omega
            have HKq:=qA (zI hkq hkb);clear hq hkb hkq;by_cases hqc:q=cnt
            · subst hqc
              have hx:((q:Int) != (q:Int))=false:=by simp
              rw[qC (by omega)]at HSt;have hFw:=HF5.out.trans' HF10.out;have hr5:=(HB.out.1.drop 5).fr hFw;have hb5:=HB.out.2.1.drop 5;have hl5:(B.drop 5).length=m-5:=by rw[List.length_drop,HB.out.2.2]
              have hLC:fZ w10:=HL.out.fr (HW5.out.fr0 HF10.out).frm (by simp);have hv8:∀i,i+8<=32->aN (sub (B.drop 5) i 8)<18446744073709551616:=fun i hi=>by
                have h1:=iZ (pX hb5 i 8);rw[pW (by rw[hl5];omega)]at h1;exact h1
              have h0:=iF _ (hv8 0 (by omega));have h1:=iF _ (hv8 8 (by omega));have h2:=iF _ (hv8 16 (by omega));have h3:=iF _ (hv8 24 (by omega));have hgo:=aWE (cap:=cap-5) hr5 hb5 hl5 (by omega) (by omega) hLC;have hgn:=aWF (cap:=cap-5) hr5 hb5 hl5 (by omega) (by omega) hLC;generalize bQ (aN (sub (B.drop 5) 0 8))=m0 at *;generalize bQ (aN (sub (B.drop 5) 8 8))=E0 at *;generalize bQ (aN (sub (B.drop 5) 16 8))=V0 at *;generalize bQ (aN (sub (B.drop 5) 24 8))=D0 at *;clear hFw hr5 hb5 hl5 hLC hv8;cases hcf:nL m0 E0 V0 D0 with
              | false=>
                have HG:=qA (hgn (aKM hcf));rw[aHY (.inr (.inl hcf))]at HSt;clear hgo hgn hcf;have hkd:=HKd.out;go_wp2_with fail
                clear hkd;refine HG.out.mono ?_;rintro _ w11 ⟨rfl,hF⟩;have HF11:=qA (HF10.out.trans' hF);clear hF;go_wp2_with fail
                go_ret2;rw[HSt.out];exact⟨rfl,HW5.out.fr0 (HF11.out.alloc _)⟩
              | true=>
                have HG:=qA (hgo (yD hcf));have HCf:=qA hcf;have hcc:=iQ.1 hcf;clear hgo hgn hcf;obtain⟨E,rfl⟩:=Int.eq_ofNat_of_zero_le (show 0<=E0 by omega);have hwE:=aHZ (q:=E) (by omega);by_cases hqE:E<q
                · rw [aHY (.inr (.inr (.inl (by rw [iR]; omega))))] at HSt
                  have g1:decide ((q:Int)>E)=true:=qG (by omega);have g2:decide (E<q)=true:=qG hqE;have hkd:=HKd.out;go_wp2_with fail
                  clear hkd;refine HG.out.mono ?_;rintro _ w11 ⟨rfl,hF⟩;have HF11:=qA (HF10.out.trans' hF);clear hF;have hbk:=Blk.new w11 [.int .i64 m0,.int .i64 E,.int .i64 V0,.int .i64 D0] 31;have r0:=hbk.cell 0;have r1:=hbk.cell 1;have r2:=hbk.cell 2;have r3:=hbk.cell 3;simp only[zJ,zK]at r0 r1 r2 r3;clear hbk;go_wp2_with fail
                  go_ret2;rw[HSt.out];exact⟨rfl,HW5.out.fr0 (HF11.out.alloc _)⟩
                · have g1 : decide ((q : Int) > E) = false := qF (by omega)
                  have g2:decide (E<q)=false:=qF hqE;have hq0:q<=16384:=by omega
                  have hmk:=fun w' =>wS q w' hq0;have hkd:=HKd.out;go_wp2_with fail
                  clear hkd;refine HG.out.mono ?_;rintro _ w11 ⟨rfl,hF⟩;have HF11:=qA (HF10.out.trans' hF);have hbk:=Blk.new w11 [.int .i64 m0,.int .i64 E,.int .i64 V0,.int .i64 D0] 31;have r0:=hbk.cell 0;have r1:=hbk.cell 1;have r2:=hbk.cell 2;have r3:=hbk.cell 3;simp only[zJ,zK]at r0 r1 r2 r3;have hrl:=HRb.out.2;have hkq:=HKq.out.1
                  have HP0:Hid (Fr [] w7 ((w11.alloc (.cells #[.int .i64 m0,.int .i64 E,.int .i64 V0,.int .i64 D0] 31)).alloc (.cells (mK q) 72)) /\
                      Blk ((w11.alloc (.cells #[.int .i64 m0,.int .i64 E,.int .i64 V0,.int .i64 D0] 31)).alloc (.cells (mK q) 72)) (w11.heap.size+1) 72 (eS (dM 0 R)++mJ (q-0)) /\
                      Rst ((w11.alloc (.cells #[.int .i64 m0,.int .i64 E,.int .i64 V0,.int .i64 D0] 31)).alloc (.cells (mK q) 72)) w7.heap.size b (o3+32*0) (32*q-32*0) (c3-32*0) (R.drop (32*0)) /\
                      Blk ((w11.alloc (.cells #[.int .i64 m0,.int .i64 E,.int .i64 V0,.int .i64 D0] 31)).alloc (.cells (mK q) 72)) w11.heap.size 31 [.int .i64 m0,.int .i64 E,.int .i64 V0,.int .i64 D0]):=qA (by
                    have hF2:Fr [] w11 ((w11.alloc (.cells #[.int .i64 m0,.int .i64 E,.int .i64 V0,.int .i64 D0] 31)).alloc (.cells (mK q) 72)):=((Fr.refl [] w11).alloc _).alloc _;refine⟨HF11.out.trans' hF2,?_,?_,((Fr.refl [] _).alloc _).blk hbk (by simp)⟩
                    · have k1 := aOZ (w11.alloc (.cells #[.int .i64 m0, .int .i64 E, .int .i64 V0, .int .i64 D0] 31)) q
                      rw[World.size_alloc]at k1;exact k1
                    · have k2 := HR10.out.fr (hF.trans' hF2) (by simp) (by simp)
                      rw[hkq]at k2;exact k2)
                  have hrb:w7.heap.size<w11.heap.size:=by
                    have e1:=HR10.out.1.lt;have e2:=hF.size;omega
                  have hbw:b<w11.heap.size:=by
                    have e1:=HF5.out.size;have e2:=HF11.out.size;have e3:=HC.out;omega
                  clear hbk hF HG;go_wp2_with fail
                  clear r0 r1 r2 r3;go_loopw [14,93] (fun c1 c2 wr=>∃i:Nat,i<=q/\c2=.int .i64 i/\Hid (Fr [] w7 wr/\Blk wr (w11.heap.size+1) 72 (eS (dM i R)++mJ (q-i))/\Rst wr w7.heap.size b (o3+32*i) (32*q-32*i) (c3-32*i) (R.drop (32*i))/\Blk wr w11.heap.size 31 [.int .i64 m0,.int .i64 E,.int .i64 V0,.int .i64 D0])) (fun _ c _=>q-(intOf c).toNat)
                  case atStart=>exact⟨0,by omega,rfl,HP0⟩
                  case round=>
                    clear HP0;obtain⟨i,hi,rfl,HP⟩:=hrel;rename World=>wr
                    by_cases hlt:i<q
                    · have hi1 : (i : Int) < q := by omega
                      have hi0:(0:Int)<=i:=by omega
                      have hwi:IntKind.i64.wrap ((i:Int)+1)=((i+1:Nat):Int):=by rw[show(i:Int)+1=((i+1:Nat):Int) by omega];exact zG _ (by omega)
                      have hbd:=(HRb.out.1).drop (32*i);have b1:=gO hbd;have b2:=gO (hbd.drop 8);have b3:=gO ((hbd.drop 8).drop 8);have b4:=gO (((hbd.drop 8).drop 8).drop 8);have hsnoc:=sK i R;have hrl2:=iR i R;have hPr:=HP.out.2.2.1;have hz:q-i=(q-(i+1))+1:=by omega
                      have hS:=aOY (dM i R) (q-(i+1)) (kV (R.drop (32*i)));have hA:=fun j hj=>aSP (dM i R) (q-(i+1)) j hj;rw[<-hsnoc]at hS;simp only[kV]at hS;have hPb:=HP.out.2.1;rw[hz]at hPb;have hD:R.drop (32*(i+1))=(((((R.drop (32*i)).drop 8).drop 8).drop 8).drop 8):=by
                        simp only[List.drop_drop];congr 1
                      generalize eS (dM i R)++mJ (q-(i+1)+1)=S at *;rw[hrl2]at hS hA;have HSt2:=qA hS;have HD:=qA hD;have HPf:=qA (zI HP.out.1 HP.out.2.2.2);clear hsnoc hrl2 hbd hS hD HP;have hlen1:8<=32*q-32*i:=by omega
                      have z1:=oO hPr hlen1;obtain⟨v1,hv1⟩:∃v,v=aN ((R.drop (32*i)).take 8):=⟨_,rfl⟩;rw[<-hv1]at z1 b1;have HN1:=qA z1;clear z1 hPr;have HV1:=qA hv1;clear hv1;go_wp2_with fail
                      refine HN1.out.mono ?_;rintro _ w12 ⟨rfl,hr12,hf12⟩;clear HN1;have z1:=oO hr12 (by omega);obtain⟨v2,hv2⟩:∃v,v=aN (((R.drop (32*i)).drop 8).take 8):=⟨_,rfl⟩;rw[<-hv2]at z1 b2;have HN1:=qA z1;have HF12:=qA hf12;have HV2:=qA hv2;clear z1 hr12 hf12 hv2;go_wp2_with fail
                      refine HN1.out.mono ?_;rintro _ w13 ⟨rfl,hr13,hf13⟩;clear HN1;have hrq:w7.heap.size≠w11.heap.size+1:=by omega
                      have hbq:b≠w11.heap.size+1:=by omega
                      have hb13:=hf13.blk (HF12.out.blk hPb (by simp only[qH];omega)) (by simp only[qH];omega);have hb14:=(hb13.set (i*4) (.int .u64 (v1:Nat))).set (i*4+1) (.int .u64 (v2:Nat));have hF14:Fr [w11.heap.size+1] w13 ((w13.setCell ⟨w11.heap.size+1,i*4,none⟩ (.int .u64 (v1:Nat))).setCell ⟨w11.heap.size+1,i*4+1,none⟩ (.int .u64 (v2:Nat))):=((Fr.refl _ _).setCell _ _ (.inl (by simp))).setCell _ _ (.inl (by simp));have hr14:=hr13.fr hF14 (by simpa using hrq) (by simpa using hbq);have k0:=(hb13.cell (i*4+0)).trans (hA 0 (by decide));have k1:=(hb13.cell (i*4+1)).trans (hA 1 (by decide));have z0:=hb13.frozen (i*4);have z1:=hb13.frozen (i*4+1);simp only[zJ,zK,Nat.add_zero]at k0 k1;have HB14:=qA hb14;have HF13:=qA (HF12.out.trans hf13 (fun q hq=>.inl (by simpa using hq)));have HF14:=qA hF14;have n1:=oO hr14 (by omega);obtain⟨v3,hv3⟩:∃v,v=aN ((((R.drop (32*i)).drop 8).drop 8).take 8):=⟨_,rfl⟩;rw[<-hv3]at n1 b3;have hwz:=jU b3;obtain⟨y3,hy3⟩:∃y,y=bQ v3:=⟨_,rfl⟩;rw[<-hy3]at hwz;have HN1:=qA n1;have HV3:=qA (zI hv3 hy3);clear n1 hv3 hy3 hr13 hr14 hf13 hF14 hb13 hb14 hPb HF12;go_wp2_with fail
                      refine HN1.out.mono ?_;rintro _ w15 ⟨rfl,hr15,hf15⟩;clear HN1 k0 k1 z0 z1;have n1:=oO hr15 (by omega);obtain⟨v4,hv4⟩:∃v,v=aN (((((R.drop (32*i)).drop 8).drop 8).drop 8).take 8):=⟨_,rfl⟩;rw[<-hv4]at n1 b4;have hwz4:=jU b4;obtain⟨y4,hy4⟩:∃y,y=bQ v4:=⟨_,rfl⟩;rw[<-hy4]at hwz4;have HN1:=qA n1;have HV4:=qA (zI hv4 hy4);have HF15:=qA hf15;clear n1 hv4 hy4 hr15 hf15;go_wp2_with fail
                      refine HN1.out.mono ?_;rintro _ w16 ⟨rfl,hr16,hf16⟩;clear HN1;have hb16:=hf16.blk (HF15.out.blk HB14.out (by simp only[qH];omega)) (by simp only[qH];omega);have hb17:=(hb16.set (i*4+2) (.int .i64 y3)).set (i*4+3) (.int .i64 y4);have hF17:Fr [w11.heap.size+1] w16 ((w16.setCell ⟨w11.heap.size+1,i*4+2,none⟩ (.int .i64 y3)).setCell ⟨w11.heap.size+1,i*4+3,none⟩ (.int .i64 y4)):=((Fr.refl _ _).setCell _ _ (.inl (by simp))).setCell _ _ (.inl (by simp));have hr17:=hr16.fr hF17 (by simpa using hrq) (by simpa using hbq);have hset:∀j,1<j->j<4->((S.set (i*4) (.int .u64 (v1:Nat))).set (i*4+1) (.int .u64 (v2:Nat)))[i*4+j]? =([.int .u64 0,.int .u64 0,.int .i64 0,.int .i64 0]:List Value)[j]? :=fun j h1 h4=>by
                        rw[List.getElem?_set_ne (by omega),List.getElem?_set_ne (by omega)];exact hA j h4
                      have k2:=(hb16.cell (i*4+2)).trans (hset 2 (by decide) (by decide));have k3:=(hb16.cell (i*4+3)).trans (hset 3 (by decide) (by decide));have z2:=hb16.frozen (i*4+2);have z3:=hb16.frozen (i*4+3);simp only[zJ,zK]at k2 k3;have HNew:=qA (show Fr [] w7 ((w16.setCell ⟨w11.heap.size+1,i*4+2,none⟩ (.int .i64 y3)).setCell ⟨w11.heap.size+1,i*4+3,none⟩ (.int .i64 y4))/\Blk ((w16.setCell ⟨w11.heap.size+1,i*4+2,none⟩ (.int .i64 y3)).setCell ⟨w11.heap.size+1,i*4+3,none⟩ (.int .i64 y4)) (w11.heap.size+1) 72 (eS (dM (i+1) R)++mJ (q-(i+1)))/\Rst ((w16.setCell ⟨w11.heap.size+1,i*4+2,none⟩ (.int .i64 y3)).setCell ⟨w11.heap.size+1,i*4+3,none⟩ (.int .i64 y4)) w7.heap.size b (o3+32*(i+1)) (32*q-32*(i+1)) (c3-32*(i+1)) (R.drop (32*(i+1)))/\Blk ((w16.setCell ⟨w11.heap.size+1,i*4+2,none⟩ (.int .i64 y3)).setCell ⟨w11.heap.size+1,i*4+3,none⟩ (.int .i64 y4)) w11.heap.size 31 [.int .i64 m0,.int .i64 E,.int .i64 V0,.int .i64 D0] from by
                        have hF:=(((((HPf.out.1.trans HF13.out (fun x hx=>.inr (by simp only[qH]at hx;omega))).trans HF14.out (fun x hx=>.inr (by simp only[qH]at hx;omega))).trans HF15.out (fun x hx=>.inr (by simp only[qH]at hx;omega))).trans hf16 (fun x hx=>.inr (by simp only[qH]at hx;omega))).trans hF17 (fun x hx=>.inr (by simp only[qH]at hx;omega)));refine⟨hF,?_,?_,hF17.blk (hf16.blk (HF15.out.blk (HF14.out.blk (HF13.out.blk HPf.out.2 ?_) ?_) ?_) ?_) ?_⟩
                        · rw [<- HSt2.out, <- HV1.out, <- HV2.out, <- HV3.out.1, <- HV3.out.2, <- HV4.out.1, <- HV4.out.2]
                          exact hb17
                        · rw [HD.out, show o3 + 32 * (i + 1) = o3 + 32 * i + 8 + 8 + 8 + 8 by omega, show 32 * q - 32 * (i + 1) = 32 * q - 32 * i - 8 - 8 - 8 - 8 by omega, show c3 - 32 * (i + 1) = c3 - 32 * i - 8 - 8 - 8 - 8 by omega]
                          exact hr17
                        all_goals (simp only[qH];omega))
                      clear hb16 hb17 hF17 hr17 hset hr16 hf16 HB14 HF13 HF14 HF15 HPf HSt2 HD;go_wp2_with fail
                      go_roundw
                      case rel=>exact⟨i+1,by omega,by go_num,HNew⟩
                      case measure=>simp[intOf];omega
                    · obtain rfl : i = q := by omega
                      have hb:=HP.out.2.1;rw[Nat.sub_self,show mJ 0=[] from rfl,List.append_nil]at hb;have hbc:=HP.out.2.2.2;have r0:=hbc.cell 0;have r1:=hbc.cell 1;have r2:=hbc.cell 2;have r3:=hbc.cell 3;simp only[zJ,zK]at r0 r1 r2 r3;have hres:=aWB (HW5.out.fr0 HP.out.1) m0 E V0 D0 nz gv (some ⟨w11.heap.size+1,0,none⟩) i (dM i R) b3 hnz.1 hnz.2 h0.2 (by rw[iR];omega) (aWG hb) (fun r hr=>by
                        have k:=vT i HRb.out.1 r hr;exact⟨k.1,k.2.1,k.2.2.2⟩)
                      rw[iR]at hres;have HRes:=qA hres;clear hres hb hbc HP;go_wp2_with fail
                      refine HRes.out.mono ?_;intro e w17 hre;cases hR:kX m0 E V0 D0 nz gv (dM i R) with
                      | none=>
                        rw[hR]at hre HSt;obtain⟨rfl,hW⟩:=hre;clear hR;go_wp2_with fail
                        go_ret2;rw[HSt.out];exact⟨rfl,hW⟩
                      | some o=>
                        rw[hR]at hre HSt;obtain⟨p,rfl,hW⟩:=hre;clear hR;go_wp2_with fail
                        go_ret2;rw[HSt.out];exact⟨p,rfl,hW⟩
            · have hx : ((q : Int) != (cnt : Int)) = true := by simp; omega
              have hx2:(q != cnt)=true:=by simp;omega
              rw[qD (.inr (.inr hqc))]at HSt;have hkd:=HKd.out;go_wp2_with fail
              go_ret2;rw[HSt.out];exact⟨rfl,HW5.out.fr0 HF10.out⟩
          · have hm' : ¬ (k : Int) % 32 = 0 := by omega
            clear hq;rw[qD (.inr (.inl hm))]at HSt;have hkd:=HKd.out;go_wp2_with fail
            go_ret2;rw[HSt.out];exact⟨rfl,HW5.out.fr0 HF10.out⟩
      · have f1 : ((s1 : Int) != (s2 : Int)) = true := by simp; omega
        have f2:(s1 != s2)=true:=by simp[hs]
        have HSt:Hid (fN l=_):=qA (HSt.out.trans (qD hs));go_wp2_with fail
        go_ret2;rw[HSt.out];exact⟨rfl,HW5.out⟩
theorem rX(x:Int):IntKind.u64.wrap x=((bJ x:Nat):Int):=by rw[IntKind.wrap_u64];unfold bJ;omega
theorem aKO{o:Ob}{l:List Lv}(h:aTJ o l):l.map lvR=o.L.map lvR:=by
 rw[<-h.1,List.map_map];rfl
theorem aFY(l:List R4)(r:R4):cV (l++[r])=cV l++wQ r:=by unfold cV;rw[List.flatMap_append];simp
theorem nC{W w:World}{ts:List Th}{p:Nat}{o:Ob}(h:Wd W w (thO p o::ts))(hL:fZ W)(hp:o.Pc):
    Calls Tryz.prog 19 #[cJ p] w fun e w' =>∃v,e=.returned (.tuple #[v,.int .i64 0])/\Wd W w' (thY v o.img::thO p o::ts):=by
 have hok:=h.ob;have hle:=hok.leE;have hE:=hok.mE;have HO:=qA hok;have HW:=qA h;have HL:=qA hL;have HP:=qA hp;have hn0:=rX o.now;clear h hL hp hok;go_enter Tryz.func19,Tryz.ntmps19
 go_wp2_with fail
 refine(jS HW.out).mono ?_;rintro _ w1 ⟨rfl,hF⟩;have HW1:=qA (HW.out.fr0 hF);clear hF HW;go_wp2_with fail
 refine(put_ok (HL.out.fr HW1.out.frm (by simp)) o.m o.E o.V o.D HO.out.m2 HP.out.cf).mono ?_;rintro _ w2 ⟨sv,rfl,hv,hn,hF⟩;have HW2:=qA (HW1.out.new (t:=thY sv (kU o.m o.E o.V o.D)) hF ⟨hv,rfl⟩ (fun q hq=>hn q (by simpa using hq)));clear hF hn HW1;obtain⟨sb,sc,rfl,_⟩:=hv.at (i:=0) (by rw[aA];decide);rw[aA];clear hv;go_wp2_with fail
 refine(aOT _).mono ?_;rintro _ w4 ⟨rfl,hF⟩;have hF4:=hF.alloc (.cells #[.int .u8 83,.int .u8 69,.int .u8 69,.int .u8 80,.int .u8 1] 91);have HW4:=qA (HW2.out.fr0 hF4);have hb:=Blk.new w4 [.int .u8 83,.int .u8 69,.int .u8 69,.int .u8 80,.int .u8 1] 91;have HC1:=qA (show ∀j u,(cA pV)[j]? =some u->(w4.alloc (.cells #[.int .u8 83,.int .u8 69,.int .u8 69,.int .u8 80,.int .u8 1] 91)).cell? ((⟨w4.heap.size,0,none⟩:Addr).add j)=some u from fun j u hj=>by
   rw[Addr.add_lit,Nat.zero_add,hb.cell j];exact hj)
 have HC2:=qA (HW4.out.rowB.rd.cells);clear hF hF4 hb HW2;go_wp2_with (first|(at_builtin;refine aDI rfl (.tmp 25) (.tmp 26) 22 rfl 5 (.int .u8 0) 1 Tryz.underlying22 Tryz.info5 rfl ⟨w4.heap.size,0,none⟩ 5 5 (cA pV) rfl rfl HC1.out ⟨sb,0,none⟩ 32 sc (cA (kU o.m o.E o.V o.D)) rfl (by rw[aAW,aA]) HC2.out (by decide) (by decide) (by decide) ?_;intro v5 w5 hown hnew hF5)|fail)
 have HW5:=qA (HW4.out.drop.new (t:=thY v5 (pV++kU o.m o.E o.V o.D)) hF5 ⟨by unfold fA;rw[zF,aA,tN];exact hown,rfl⟩ (fun q hq=>hnew q (by simpa using hq)));clear HC1 HC2 HW4 hown hnew hF5;generalize hB0:pV++kU o.m o.E o.V o.D=B0 at *;have HB0:=qA hB0;have hl0:B0.length=37:=by rw[<-hB0,zF,aA];rfl
 clear hB0;have HA:=qA (mG HW5.out.swap);go_wp2_with fail
 refine HA.out.mono ?_;rintro _ w6 ⟨rfl,hF⟩;have HW6:=qA (HW5.out.fr0 hF);clear hF HA HW5;have HN:=qA (rV HW6.out.swap);go_wp2_with fail
 refine HN.out.mono ?_;rintro _ w7 ⟨rfl,rfl⟩;clear HN;have hlt:=HW6.out.rowB;have HPt:=qA (aFW (nb:=w7.heap.size) (ns:=[bJ o.now,o.last,o.gone]) (sz:=8) (cn:=3) (HW6.out.fr0 ((Fr.refl [] w7).alloc (.cells #[.int .u64 (bJ o.now:Nat),.int .u64 (o.last:Nat),.int .u64 (o.gone:Nat)] 36))) (Blk.new w7 [.int .u64 (bJ o.now:Nat),.int .u64 (o.last:Nat),.int .u64 (o.gone:Nat)] 36) (fun e=>by have:=hlt.lt e;omega) (by decide) (by rw[hl0];simp));clear hlt;go_wp2_with fail
 refine HPt.out.mono ?_;rintro _ w8 ⟨v8,rfl,hW⟩;have HW8:=qA hW;clear hW HPt HW6;generalize hB1:B0++[bJ o.now,o.last,o.gone].flatMap (beN 8)=B1 at *;have hl1:B1.length=61:=by rw[<-hB1,zF,hl0];simp[aT]
 have HB1:=qA hB1;clear hB1 hl0;have HV:=qA (pU HW8.out.swap);go_wp2_with fail
 refine HV.out.mono ?_;rintro _ w9 ⟨lv,l,rfl,hlv,hW⟩;clear HV HW8;obtain⟨la,lc,rfl⟩:=hW.rowV.slice;have hll:l.length=o.L.length:=by rw[<-hlv.1,List.length_map]
 have hl2:l.length<=16384:=by omega
 have HW9:=qA (show Wd W w9 (thY v8 (B1++cV ((l.take 0).map lvR))::thV (.slice la l.length lc) l::thO p o::ts) from by
   have:=hW.third;simpa[cV] using this)
 have HLv:=qA (zI hlv hll);clear hW hlv hll;go_wp2_with fail
 go_loopw [7,44] (fun c1 c2 wr=>∃i:Nat,i<=l.length/\Hid (Wd W wr (thY c1 (B1++cV ((l.take i).map lvR))::thV (.slice la l.length lc) l::thO p o::ts))/\c2=.int .i64 i) (fun _ c _=>l.length-(intOf c).toNat)
 case atStart=>exact⟨0,by omega,HW9,rfl⟩
 case round=>
  clear HW9;obtain⟨i,hi,HWr,rfl⟩:=hrel;rename_i bv wr;by_cases hlt:i<l.length
  {
  have hi1:(i:Int)<l.length:=by omega
  have hi0:(0:Int)<=i:=by omega
  have hw1:IntKind.i64.wrap ((i:Int)+1)=((i+1:Nat):Int):=by rw[show(i:Int)+1=((i+1:Nat):Int) by omega];exact zG _ (by omega)
  obtain⟨b1,c1', e1,_,_,_,r1⟩:=HWr.out.swap.rowV.at hlt;simp only[qP,true_and]at e1;obtain⟨rfl,rfl⟩:=e1;have hrec:(B1++cV ((l.take (i+1)).map lvR))=B1++cV ((l.take i).map lvR)++[(l[i]'hlt).u,(l[i]'hlt).v,bJ (l[i]'hlt).wt,bJ (l[i]'hlt).t].flatMap (beN 8):=by {
  have htk:l.take (i+1)=l.take i++[l[i]'hlt]:=by rw[List.take_add_one,qL hlt];rfl
  rw[htk,List.map_append,List.map_cons,List.map_nil,aFY,List.append_assoc];simp[wQ,lvR]};have hlen:(B1++cV ((l.take i).map lvR)).length=61+32*i:=by rw[zF,hl1,yC,List.length_map,List.length_take,Nat.min_eq_left (Nat.le_of_lt hlt)]
  generalize l[i]'hlt=x at *;unfold aIT at r1;obtain⟨x0,x1,x2,x3,x4,x5,x6⟩:=r1;have hwt:=rX x.wt;have ht:=rX x.t;obtain⟨W1,hW1⟩:∃W1,wr.alloc (.cells (lvC x).toArray 74)=W1:=⟨_,rfl⟩;have hs1:W1.heap.size=wr.heap.size+1:=by rw[<-hW1];simp
  have hF1:Fr [] wr W1:=by rw[<-hW1];exact(Fr.refl [] wr).alloc _
  have hbl:=Blk.new W1 [.int .u64 (x.u:Nat),.int .u64 (x.v:Nat),.int .u64 (bJ x.wt:Nat),.int .u64 (bJ x.t:Nat)] 36;rw[hs1]at hbl;have HPt:=qA (aFW (nb:=wr.heap.size+1) (ns:=[x.u,x.v,bJ x.wt,bJ x.t]) (sz:=8) (cn:=4) (HWr.out.fr0 (hF1.alloc (.cells #[.int .u64 (x.u:Nat),.int .u64 (x.v:Nat),.int .u64 (bJ x.wt:Nat),.int .u64 (bJ x.t:Nat)] 36))) hbl (fun e=>by have:=HWr.out.rowB.lt e;omega) (by decide) (by rw[hlen];simp;omega));rw[<-hrec]at HPt;rw[<-hW1]at HPt;have HR:=qA hlen;clear hbl hF1 hs1 hW1 hlen hrec HWr;go_wp2_with fail
  refine HPt.out.mono ?_;rintro _ w8 ⟨v9,rfl,hW⟩;have HWn:=qA hW;clear hW HPt x0 x1 x2 x3 x4 x5 x6;go_wp2_with fail
  go_roundw
  case rel=>exact⟨i+1,by omega,HWn,by go_num⟩
  case measure=>simp[intOf];omega}
  {
  obtain rfl:i=l.length:=by omega
  have hbody:B1++cV ((l.take l.length).map lvR)=eQ o.m o.E o.V o.D o.now o.last o.gone (o.L.map lvR):=by {
  rw[List.take_length,aKO HLv.out.1,<-HB1.out,<-HB0.out];unfold eQ rW;simp};have himg:o.img=eQ o.m o.E o.V o.D o.now o.last o.gone (o.L.map lvR)++beN 4 (crc (eQ o.m o.E o.V o.D o.now o.last o.gone (o.L.map lvR))):=rfl;have hbyt:Byt (eQ o.m o.E o.V o.D o.now o.last o.gone (o.L.map lvR)):=nB _ _ _ _ _ _ _ _;have hbl:(eQ o.m o.E o.V o.D o.now o.last o.gone (o.L.map lvR)).length=61+32*o.L.length:=by rw[jT,List.length_map]
  have HX:=HWr.out;rw[hbody]at HX;generalize eQ o.m o.E o.V o.D o.now o.last o.gone (o.L.map lvR)=B at *;have hcl:=aDW hbyt;have HS:=qA (aWC HX hbyt (by omega));have HIm:=qA himg;generalize crc B=c at *;have hcw:IntKind.u64.wrap (c:Int)=c:=by rw[IntKind.wrap_u64];omega
  have HPt:=qA (aFW (nb:=wr.heap.size) (ns:=[c]) (sz:=4) (cn:=1) (HX.fr0 ((Fr.refl [] wr).alloc (.cells #[.int .u64 (c:Nat)] 36))) (Blk.new wr [.int .u64 (c:Nat)] 36) (fun e=>by have:=HX.rowB.lt e;omega) (by decide) (by rw[hbl];simp;omega));clear HX hbody himg hbyt hbl HWr;go_wp2_with fail
  refine HS.out.mono ?_;rintro _ w8 ⟨rfl,rfl⟩;go_wp2_with fail
  refine HPt.out.mono ?_;rintro _ w9 ⟨v9,rfl,hW⟩;have HWn:=qA hW;clear hW HPt;go_wp2
  go_ret2;refine⟨v9,rfl,?_⟩;rw[HIm.out];have h1:=HWn.out;rw[show B++[c].flatMap (beN 4)=B++beN 4 c by simp]at h1;exact h1.drop2}
def nM:List Nat:=aAP (eQ 10 2 2 0 0 0 0 [])
theorem cW:nM.length=65:=by decide +kernel
theorem vU:Byt nM:=aDF (nB _ _ _ _ _ _ _ _)
theorem aKP:nM.take 5=[83,69,69,80,1]:=by decide +kernel
theorem aSR:(fN nM).1=0:=by
 have h:=aDH (m:=10) (E:=2) (V:=2) (D:=0) (now:=0) (a:=0) (g:=0) (l:=[]) (by decide) (by decide) (by decide) (by decide) (by decide) (by decide) (by decide) (fun x hx=>by cases hx) rfl;unfold nM;rw[h];decide +kernel
theorem aKQ:(fN (nM.set 64 (nM[64]'(by rw[cW];decide) ^^^ 1))).1=17:=by decide +kernel
theorem aKR:(fN ((nM.set 64 (nM[64]'(by rw[cW];decide) ^^^ 1)).set 4 2)).1=15:=by decide +kernel
theorem aPB:(fN []).1=15:=by decide +kernel
theorem aPC:crc [49,50,51,52,53,54,55,56,57]=3421780262:=by decide +kernel
theorem aSS:crc []=0:=by decide +kernel
section
variable {W w:World} {ts:List Th} {a:Option Addr} {l:List Nat} {n cap:Nat} {v:Value}
theorem aDO(h:Wd W w ts)(hL:fZ W)(hr:RdB w a l)(hb:Byt l)(hn:l.length=n)(hl:n<=1073741824)(hc:n<=cap):
    Calls Tryz.prog 23 #[.slice a n cap] w fun e w' =>e=.returned (.int .i64 (fN l).1)/\Wd W w' ts:=by
 have HD:=qA (aIA h hL hr hb hn hl hc);clear h hL hr hb hn hl hc;go_enter Tryz.func23,Tryz.ntmps23
 go_wp2_with fail
 refine HD.out.mono ?_;intro e w1 hD;clear HD;unfold LdE at hD;obtain⟨R,hR⟩:∃R,R=fN l:=⟨_,rfl⟩;rw[<-hR]at hD;have HR:=qA hR;clear hR;obtain⟨c,o⟩:=R;cases o with
 | none=>{
 obtain⟨rfl,hW⟩:=hD;have HW:=qA hW;clear hW;go_wp2_with fail
 go_ret;rw[<-HR.out];exact⟨rfl,HW.out⟩}
 | some o=>{
 obtain⟨p,rfl,hW⟩:=hD;have HW:=qA hW;clear hW;go_wp2_with fail
 go_ret;rw[<-HR.out];exact⟨rfl,HW.out.drop⟩}
theorem fA.set{g:Nat}(h:fA w (.slice (some ⟨g,0,none⟩) l.length cap) l){i:Nat}(hi:i<l.length)(x:Nat):fA (w.setCell ⟨g,i,none⟩ (.int .u8 (x:Int))) (.slice (some ⟨g,0,none⟩) l.length cap) (l.set i x):=by
 unfold fA;rw[List.length_set,show cA (l.set i x)=(cA l).set i (.int .u8 (x:Int)) by unfold cA;rw[List.map_set]];exact iU h hi _
theorem Wd.setB{g:Nat}(h:Wd W w (thY (.slice (some ⟨g,0,none⟩) l.length cap) l::ts)){i:Nat}(hi:i<l.length)(x:Nat):Wd W (w.setCell ⟨g,i,none⟩ (.int .u8 (x:Int))) (thY (.slice (some ⟨g,0,none⟩) l.length cap) (l.set i x)::ts):=by
 obtain⟨K,⟨hv,rfl⟩,hs⟩:=h.open;exact hs ⟨_,⟨hv.set hi x,rfl⟩,(Fr.refl _ _).setCell _ _ (.inl (by simp[Value.ownBlock])),fun q hq=>.inl hq⟩
theorem aFZ(h:Wd W w (thY v l::ts))(hL:fZ W)(hb:Byt l)(hl:l.length<=1073741824):
    Calls Tryz.prog 23 #[v] w fun e w' =>e=.returned (.int .i64 (fN l).1)/\Wd W w' (thY v l::ts):=by
 have hr:=h.rowB;obtain⟨a,cap,rfl⟩:=hr.slice;have hc:l.length<=cap:=by {
 by_cases h0:0<l.length
 {
 obtain⟨b,c,e,hn,_⟩:=hr.at h0;simp only[qP,true_and]at e;omega}
 · omega};exact aDO h hL hr.rd hb rfl hl hc
end
theorem xor8{a b:Nat}(ha:a<256)(hb:b<256):a ^^^ b<256:=Nat.xor_lt_two_pow (n:=8) ha hb
theorem aWI{a b:Nat}(ha:a<256)(hb:b<256):Go.bits .xor .u8 (a:Int) (b:Int)=((a ^^^ b:Nat):Int):=by
 have ha' :a%2 ^ IntKind.u8.bits=a:=Nat.mod_eq_of_lt ha;have hb' :b%2 ^ IntKind.u8.bits=b:=Nat.mod_eq_of_lt hb;have k:(BitVec.ofNat IntKind.u8.bits a ^^^ BitVec.ofNat IntKind.u8.bits b).toNat=a ^^^ b:=by rw[BitVec.toNat_xor,BitVec.toNat_ofNat,BitVec.toNat_ofNat,ha', hb']
 simp only[Go.bits,BitVec.ofInt_natCast];rw[k,IntKind.wrap_u8];have:=xor8 ha hb;omega
theorem Byt.set{l:List Nat}(h:Byt l){x:Nat}(hx:x<256){i:Nat}:Byt (l.set i x):=fun b hb=>by
 rcases List.mem_or_eq_of_mem_set hb with h1|rfl
 · exact h b h1
 · exact hx
theorem aPD:(Ob.new 10 2 2 0 0).img=nM:=by unfold Ob.img Ob.new nM;rfl
theorem aPE:strOfNums [83,69,69,80,1]={ data:=#[83,69,69,80,1] }:=by decide +kernel
def aGA:Array Value:=#[.int .u8 49,.int .u8 50,.int .u8 51,.int .u8 52,.int .u8 53,.int .u8 54,.int .u8 55,.int .u8 56,.int .u8 57]
theorem gP{W w:World}{ts:List Th}(h:Wd W w ts)(hL:fZ W):Calls Tryz.prog 17 #[] w fun e w' =>e=.returned (.bool true)/\Wd W w' ts:=by
 have HL:=qA hL;have HN:=qA (aOP h 10 0 2 2 (by decide) (by decide) (by decide) (by decide) (by decide) (by decide) (by decide) (by decide));clear h hL;go_enter Tryz.func17,Tryz.ntmps17
 go_wp2_with fail
 refine HN.out.mono ?_;rintro _ w1 ⟨p,rfl,hW⟩;have hcv:=Go.Joins.run_convert_bytes_const_at (P:=Tryz.prog) w1 22 5 aGA 9 9 w1.heap.size rfl Tryz.underlying22 Tryz.underlying5;have hcell:=fun j=>Go.Joins.cell_alloc_mark_at w1 aGA 5 (9,10) w1.heap.size j rfl;have hF2:Fr [] w1 (w1.alloc (.cells aGA 5 (9,10))):=(Fr.refl [] w1).alloc _;have hrd:RdB (w1.alloc (.cells aGA 5 (9,10))) (some ⟨w1.heap.size,0,none⟩) [49,50,51,52,53,54,55,56,57]:=fun i hi=>by
   refine⟨w1.heap.size,0,rfl,by simp,?_⟩;rw[Nat.zero_add,hcell i];have:i=0∨i=1∨i=2∨i=3∨i=4∨i=5∨i=6∨i=7∨i=8:=by simp at hi;omega
   rcases this with rfl|rfl|rfl|rfl|rfl|rfl|rfl|rfl|rfl<;>rfl
 have hs9:=aHX (cap:=9) hrd (by unfold Byt;decide) (by decide);rw[aPC]at hs9;have hs0:=aHX (w:=w1.alloc (.cells aGA 5 (9,10))) (a:=none) (l:=[]) (cap:=0) (fun i hi=>absurd hi (Nat.not_lt_zero _)) (fun b hb=>by cases hb) (by decide);rw[aSS]at hs0;have HS9:=qA hs9;have HS0:=qA hs0;have HW2:=qA (hW.fr0 hF2);have hn9:aGA.size=9:=rfl;rw[hn9]at hcv;clear HN hW hs9 hs0 hrd hcell hF2;unfold aGA at *;go_wp2_with fail
 refine HS9.out.mono ?_;rintro _ w2 ⟨rfl,rfl⟩;go_wp2_with fail
 refine HS0.out.mono ?_;rintro _ w2 ⟨rfl,rfl⟩;clear HS0 HS9 hcv;generalize w1.alloc (.cells #[.int .u8 49,.int .u8 50,.int .u8 51,.int .u8 52,.int .u8 53,.int .u8 54,.int .u8 55,.int .u8 56,.int .u8 57] 5 (9,10))=w2 at *;have HSv:=qA (nC HW2.out HL.out (aOX (by decide)));rw[aPD]at HSv;go_wp2_with fail
 refine HSv.out.mono ?_;rintro _ w3 ⟨v,rfl,hW⟩;clear HSv HW2;have hr:=hW.rowB;have hW' :=hW.drop2;have hch:=aFZ hW' HL.out vU (by rw[cW];decide);rw[aSR]at hch;obtain⟨b,cap,rfl,hcap,_,hz,_⟩:=hr.at (i:=0) (by rw[cW];decide);rw[cW]at hcap;have h5:=hr.rd.take 5;rw[aKP]at h5;have cc:∀i (hi:i<5),w3.cell? ⟨b,0+i,none⟩=some (.int .u8 (([83,69,69,80,1]:List Int).getD i 0)):=fun i hi=>by
   obtain⟨b', off', e,_,hc⟩:=h5 i (by simpa using hi);simp only[qI,Addr.mk.injEq,and_true]at e;obtain⟨rfl,rfl⟩:=e;rw[hc];have:i=0∨i=1∨i=2∨i=3∨i=4:=by omega
   rcases this with rfl|rfl|rfl|rfl|rfl<;>rfl
 have hst:=run_convert_bytes_arg (P:=Tryz.prog) w3 22 5 Tryz.underlying22 Tryz.underlying5 b 0 5 cap [83,69,69,80,1] rfl cc 9 Tryz.underlying9;rw[aPE]at hst;have HCh:=qA hch;have HB:=qA (zI hr hcap);have HW3:=qA hW';rw[cW];rw[cW]at HCh;have e1:(5:Int)<=cap:=by omega
 have e2:¬cap=0:=by omega
 clear hch hr hW hW' h5 cc hz;go_wp2_with fail
 refine HCh.out.mono ?_;rintro _ w4 ⟨rfl,hW⟩;clear HCh hst e1 e2 HB HW3;obtain⟨b', cap', ev,_,_,hz,hc⟩:=hW.rowB.at (i:=64) (by rw[cW];decide);simp only[qP,qI,Addr.mk.injEq,and_true]at ev;obtain⟨rfl,hlen,rfl⟩:=ev;clear hlen;have hlx:=vU _ (List.getElem_mem (l:=nM) (n:=64) (by rw[cW];decide));have hL1:=aKQ;have hL2:=aKR;generalize nM[64]'(by rw[cW];decide)=x at *;have hxy:Go.bits .xor .u8 (x:Int) 1=((x ^^^ 1:Nat):Int):=aWI hlx (show 1<256 by decide);have hy:=xor8 hlx (show 1<256 by decide);generalize x ^^^ 1=y at *;have hW1:=Wd.setB (by rw[cW];exact hW) (i:=64) (by rw[cW];decide) y;have hb1:Byt (nM.set 64 y):=vU.set hy;have hch:=aFZ hW1 HL.out hb1 (by rw[List.length_set,cW];decide);rw[hL1]at hch;rw[cW]at hch;have HCh:=qA hch;have hz64:=hz 64;clear hch hW1 hW hL1;have HL2:=qA hL2;clear hL2;have HB1:=qA hb1;clear hb1 hz hlx hy;go_wp2_with fail
 refine HCh.out.mono ?_;rintro _ w5 ⟨rfl,hW⟩;clear HCh hc hz64 hxy;obtain⟨b', cap', ev,_,_,hz,hc⟩:=hW.rowB.at (i:=4) (by rw[List.length_set,cW];decide);simp only[qP,qI,Addr.mk.injEq,and_true]at ev;obtain⟨rfl,hlen,rfl⟩:=ev;clear hlen;have hle:(nM.set 64 y).length=65:=by rw[List.length_set,cW]
 have hW1:=Wd.setB (by rw[hle];exact hW) (i:=4) (by rw[hle];decide) 2;have hch:=aFZ hW1 HL.out (HB1.out.set (by decide)) (by rw[List.length_set,hle];decide);rw[HL2.out,hle]at hch;have HCh:=qA hch;have hz4:=hz 4;clear hch hW1 hW hle hz;generalize (nM.set 64 y)[4]'_=x4 at *;go_wp2_with fail
 refine HCh.out.mono ?_;rintro _ w6 ⟨rfl,hW⟩;clear HCh hc hz4;have hch:=aDO (a:=none) (l:=[]) (n:=0) (cap:=0) hW.drop HL.out (fun i hi=>absurd hi (Nat.not_lt_zero _)) (fun b hb=>by cases hb) rfl (by decide) (by decide);rw[aPB]at hch;have HCh:=qA hch;clear hch hW;go_wp2_with fail
 refine HCh.out.mono ?_;rintro _ w7 ⟨rfl,hW⟩;clear HCh;go_wp2
 go_ret;exact⟨rfl,hW⟩
theorem aDP:sN Tryz.prog 88 [.i .u8,.i .u8,.i .u8,.i .i64]:=by
 refine sN.struct Tryz.underlying88 (by kernel_rfl) (fun j k hj=>?_);have hi:sN Tryz.prog 5 [.i .u8]:=sN.int Tryz.underlying5 (by kernel_rfl);have hb:sN Tryz.prog 2 [.i .i64]:=sN.int Tryz.underlying2 (by kernel_rfl);match j,hj with
 | 0,hj=>exact⟨0,_,_,rfl,hi,by decide,hj⟩
 | 1,hj=>exact⟨1,_,_,rfl,hi,by decide,hj⟩
 | 2,hj=>exact⟨2,_,_,rfl,hi,by decide,hj⟩
 | 3,hj=>exact⟨3,_,_,rfl,hb,by decide,hj⟩
 | j+4,hj=>simp at hj
abbrev Mv:=Nat×Nat×Nat×Int
def Mv.ok(m:Mv):Prop:=m.1<256/\m.2.1<256/\m.2.2.1<256/\ -9223372036854775808<=m.2.2.2/\m.2.2.2<=9223372036854775807
def kQ(w:World)(a:Option Addr)(len:Nat)(z:Nat->Mv):Prop:=
  len<=9223372036854775807/\∀i,i<len->∃b off,a=some ⟨b,off,none⟩/\b<w.heap.size/\w.cell? ⟨b,off+i*4,none⟩=some (.int .u8 (z i).1)/\w.cell? ⟨b,off+i*4+1,none⟩=some (.int .u8 (z i).2.1) /\
    w.cell? ⟨b,off+i*4+2,none⟩=some (.int .u8 (z i).2.2.1)/\w.cell? ⟨b,off+i*4+3,none⟩=some (.int .i64 (z i).2.2.2)/\(z i).ok
theorem yG{a:Int}(h:(Lit.int .u8 a).wf=true):∃n:Nat,a=n/\n<256:=by
 have h:(decide ((0:Int)<=a)&&decide (a<=255))=true:=h;simp only[qX,decide_eq_true_eq]at h;exact⟨a.toNat,by omega,by omega⟩
theorem aWJ{a:Int}(h:(Lit.int .i64 a).wf=true):-9223372036854775808<=a/\a<=9223372036854775807:=by
 have h:(decide ((-9223372036854775808:Int)<=a)&&decide (a<=9223372036854775807))=true:=h;simp only[qX,decide_eq_true_eq]at h;exact h
theorem aST{H:Type}{enc:TypeId×Value->H}{W:World}{a:Option Addr}{len cap:Nat}{d:DataW H}{p:List MemPlace}
    (h:DataW.Trod enc Tryz.prog W 0 (fun _=>true) true 67 (.slice a len cap) d p):∃z,kQ W a len z:=by
 obtain⟨z,hz⟩:=aIE Tryz.underlying67 aDP (by decide) h;have key:∀i,∃u:Mv,i<len->z i 0=.int .u8 u.1/\z i 1=.int .u8 u.2.1/\z i 2=.int .u8 u.2.2.1/\z i 3=.int .i64 u.2.2.2/\u.ok:=by {
 intro i;by_cases hi:i<len
 {
 obtain⟨b,off,rfl,_,h1⟩:=hz.2 i hi;obtain⟨n0,e0,w0⟩:=(h1 0 _ rfl).2;obtain⟨n1,e1,w1⟩:=(h1 1 _ rfl).2;obtain⟨n2,e2,w2⟩:=(h1 2 _ rfl).2;obtain⟨n3,e3,w3⟩:=(h1 3 _ rfl).2;obtain⟨m0,rfl,k0⟩:=yG w0;obtain⟨m1,rfl,k1⟩:=yG w1;obtain⟨m2,rfl,k2⟩:=yG w2;have k3:=aWJ w3;exact⟨(m0,m1,m2,n3),fun _=>⟨e0,e1,e2,e3,k0,k1,k2,k3.1,k3.2⟩⟩}
 · exact⟨(0,0,0,0),fun h=>absurd h hi⟩};obtain⟨F,hF⟩:=Classical.axiomOfChoice key;refine⟨F,hz.1,fun i hi=>?_⟩;obtain⟨b,off,rfl,hb,h1⟩:=hz.2 i hi;obtain⟨e0,e1,e2,e3,e4⟩:=hF i hi;refine⟨b,off,rfl,hb,?_,?_,?_,?_,e4⟩
 · rw[<-e0];exact(h1 0 _ rfl).1
 · rw[<-e1];exact(h1 1 _ rfl).1
 · rw[<-e2];exact(h1 2 _ rfl).1
 · rw[<-e3];exact(h1 3 _ rfl).1
def Ob.mvT(o:Ob)(m:Mv):Int:=o.now+(m.1%8:Nat)
def nN(x:Nat):Nat:=x*1099511627776
def Ob.mvO(o:Ob)(m:Mv):Ob:=if m.2.1%16=m.2.2.1%16 then o.tickS (o.mvT m) else o.add (nN (m.2.1%16)) (nN (m.2.2.1%16)) m.2.2.2 (o.mvT m)
def Ob.mvE(o:Ob)(m:Mv):Int:=if m.2.1%16=m.2.2.1%16 then dL o.m o.now (o.mvT m) else(o.addC (nN (m.2.1%16)) (nN (m.2.2.1%16)) (o.mvT m):Nat)
structure Bp (s k:Nat) (o:Ob):Prop where
  pc:o.Pc
  s256:s<256
  m:o.m=1+s
  E:o.E=12
  V:o.V=9
  D:o.D=5
  now0:0<=o.now
  now:o.now<=7*k
  last:o.last<=k
  gone:o.gone<=k
theorem Bp.new{s:Nat}(hs:s<256):Bp s 0 (Ob.new (1+s) 12 9 5 0):=
  ⟨aOX (iQ.2 (by omega)),hs,rfl,rfl,rfl,rfl,Int.le_refl _,Int.le_refl _,qK _,qK _⟩
theorem Bp.mono{s k j:Nat}{o:Ob}(h:Bp s k o)(hj:k<=j):Bp s j o:=⟨h.pc,h.s256,h.m,h.E,h.V,h.D,h.now0,by have:=h.now;omega,by have:=h.last;omega,by have:=h.gone;omega⟩
theorem Bp.tick{s k:Nat}{o:Ob}(h:Bp s k o)(ho:o.Ok){t:Int}(h0:0<=t)(ht:t<=7*(k+1:Nat)):Bp s (k+1) (o.tick t):=by
 refine⟨h.pc.tick t,h.s256,h.m,h.E,h.V,h.D,h0,ht,by have:=h.last;show o.last<=_;omega,?_⟩;show o.gone+(o.L.length-(o.left t).length)<=_
 have h1:=ho.last;have h2:=h.last;omega
theorem Bp.mv{s k:Nat}{o:Ob}(h:Bp s k o)(ho:o.Ok){m:Mv}(hm:m.ok):Bp s (k+1) (o.mvO m):=by
 have hd:m.1%8<8:=Nat.mod_lt _ (by decide);have h0:0<=o.mvT m:=by have:=h.now0;unfold Ob.mvT;omega
 have h1:o.mvT m<=7*(k+1:Nat):=by have:=h.now;unfold Ob.mvT;omega
 unfold Ob.mvO;split
 {
 unfold Ob.tickS;split
 · exact h.tick ho h0 h1
 · exact h.mono (Nat.le_succ k)}
 {
 have hp:=h.pc.add (nN (m.2.1%16)) (nN (m.2.2.1%16)) (wt:=m.2.2.2) ⟨hm.2.2.2.1,hm.2.2.2.2⟩ (o.mvT m);unfold Ob.add at hp ⊢;split
 {
 rename_i hc;rw[qD hc]at hp;have k1:=h.tick ho h0 h1;exact⟨hp,k1.s256,k1.m,k1.E,k1.V,k1.D,k1.now0,k1.now,by have:=h.last;show o.last+1<=_;omega,k1.gone⟩}
 · exact h.mono (Nat.le_succ k)}
theorem yH{x:Nat}(h:x<16):IntKind.u64.wrap ((x:Int)*1099511627776)=((nN x:Nat):Int):=by unfold nN;rw[IntKind.wrap_u64];omega
theorem aIB{x:Nat}(h:x<16):nN x<18446744073709551616:=by unfold nN;omega
theorem aGB{W w:World}{ts:List Th}{p s k:Nat}{o:Ob}(h:Wd W w (thO p o::ts))(hB:Bp s k o)(hk:k<=100000)(m:Mv)(hm:m.ok):
    Calls Tryz.prog 45 #[cJ p,.agg #[.int .u8 m.1,.int .u8 m.2.1,.int .u8 m.2.2.1,.int .i64 m.2.2.2]] w fun e w' =>e=.returned (.int .i64 (o.mvE m))/\Wd W w' (thO p (o.mvO m)::ts):=by
 obtain⟨a,u,v,wt⟩:=m;obtain⟨ha,hu,hv,hw1,hw2⟩:=hm;simp only at ha hu hv hw1 hw2;have hW0:=(h.new (t:=thB w.heap.size 88 [.int .u8 (a:Nat),.int .u8 (u:Nat),.int .u8 (v:Nat),.int .i64 wt]) (K:=[w.heap.size]) ((Fr.refl [] w).alloc (.cells #[.int .u8 (a:Nat),.int .u8 (u:Nat),.int .u8 (v:Nat),.int .i64 wt] 88)) ⟨Blk.new w _ _,rfl⟩ (by simp)).swap;have HW0:=qA hW0;have hnow0:=hB.now0;have hnow:=hB.now;obtain⟨now,hnw⟩:∃now,now=o.now:=⟨_,rfl⟩;have HC:=qA (fun w' (h:Wd W w' (thO p o::thB w.heap.size 88 [.int .u8 (a:Nat),.int .u8 (u:Nat),.int .u8 (v:Nat),.int .i64 wt]::ts)) j=>h.swap.blk.cell j);rw[<-hnw]at hnow0 hnow;have hbw:IntKind.i64.wrap ((a:Int).tmod 8)=((a%8:Nat):Int):=by rw[Int.tmod_eq_emod_of_nonneg (by omega)];simp[IntKind.wrap,IntKind.bits,IntKind.signed];omega
 have hb4:((a:Int)%8)=((a%8:Nat):Int):=by omega
 have hb3:a%8<8:=Nat.mod_lt _ (by omega);have HT:Hid (o.mvT (a,u,v,wt)=now+(a%8:Nat)):=qA (by unfold Ob.mvT;rw[hnw]);generalize a%8=dt at *;have HN:=qA hnw;obtain⟨t,ht⟩:∃t,t=now+dt:=⟨_,rfl⟩;have hwt:IntKind.i64.wrap (now+dt)=t:=by rw[ht];exact zG _ (by omega)
 rw[<-ht]at HT;have ht0:0<=t:=by omega
 have ht1:t<=1000000:=by omega
 have Ht:=qA ht;clear hW0 hnw ht h hnow hnow0;go_enter Tryz.func45,Tryz.ntmps45
 go_wp2_with fail
 refine dB (fun w' =>Wd W w' (thO p o::thB w.heap.size 88 [.int .u8 (a:Nat),.int .u8 (u:Nat),.int .u8 (v:Nat),.int .i64 wt]::ts)) (by kernel_rfl) (by kernel_rfl) (HW0.out.fr0 ((Fr.refl [] _).drew)) ?_;iterate 1 (refine aH (by kernel_rfl) (fun KK hK=>?_);go_simp;refine hK.out _ ?_;clear hK KK)
 refine bC (by kernel_rfl) (.int .i64 now) (fun w' hw' =>?_) ?_
 {
 go_simp;refine(rV hw').mono ?_;rintro _ w6 ⟨rfl,rfl⟩;exact⟨by rw[HN.out],hw'⟩};iterate 1 (refine aH (by kernel_rfl) (fun KK hK=>?_);go_simp;refine hK.out _ ?_;clear hK KK)
 refine bC (by kernel_rfl) (.int .u8 (a:Nat)) (fun w' hw' =>?_) ?_
 {
 have c0:=HC.out w' hw' 0;simp only[zJ]at c0;go_simp;first|exact hw' | exact⟨rfl,hw'⟩|skip};iterate 4 (refine aH (by kernel_rfl) (fun KK hK=>?_);go_simp;refine hK.out _ ?_;clear hK KK)
 refine gF ?_;intro w5 hf5;have n1:=HC.out w5 hf5 1;have n2:=HC.out w5 hf5 2;have n3:=HC.out w5 hf5 3;simp only[zJ,zK]at n1 n2 n3;have HW5:=qA hf5;clear hf5 hbw hb4 hwt;have hx16:u%16<16:=Nat.mod_lt _ (by decide);have hy16:v%16<16:=Nat.mod_lt _ (by decide);have htu:(u:Int).tmod 16=((u%16:Nat):Int):=by rw[Int.tmod_eq_emod_of_nonneg (by omega)];omega
 have htv:(v:Int).tmod 16=((v%16:Nat):Int):=by rw[Int.tmod_eq_emod_of_nonneg (by omega)];omega
 have htu2:(u:Int)%16=((u%16:Nat):Int):=by omega
 have htv2:(v:Int)%16=((v%16:Nat):Int):=by omega
 have hO:o.mvO (a,u,v,wt)=if u%16=v%16 then o.tickS t else o.add (nN (u%16)) (nN (v%16)) wt t:=by unfold Ob.mvO;rw[HT.out]
 have hE:o.mvE (a,u,v,wt)=if u%16=v%16 then dL o.m o.now t else(o.addC (nN (u%16)) (nN (v%16)) t:Nat):=by unfold Ob.mvE;rw[HT.out]
 generalize u%16=x at *;generalize v%16=y at *;have hwx:=yH hx16;have hwy:=yH hy16;have hwx1:IntKind.u64.wrap (x:Int)=x:=by rw[IntKind.wrap_u64];omega
 have hwy1:IntKind.u64.wrap (y:Int)=y:=by rw[IntKind.wrap_u64];omega
 have hxb:=aIB hx16;have hyb:=aIB hy16;by_cases hxy:x=y
 {
 subst hxy;rw[qD rfl]at hO hE;have d1:((x:Int) == (x:Int))=true:=by simp
 have HTk:=qA (aSK HW5.out t (by omega) (by omega));have HOE:=qA (zI hO hE);clear hO hE hx16 hy16 hwx hwy hxb hyb;go_wp2_with fail
 refine HTk.out.mono ?_;rintro _ w6 ⟨rfl,hW⟩;have HW6:=qA hW;clear hW;go_wp2
 go_ret;rw[HOE.out.1,HOE.out.2];exact⟨rfl,HW6.out.drop2⟩}
 {
 rw[qC hxy]at hO hE;have d1:((x:Int) == (y:Int))=false:=by simp;omega
 have d2:(x == y)=false:=by simp;omega
 generalize nN x=X at *;generalize nN y=Y at *;have HTk:=qA (aVT HW5.out X Y hxb hyb wt t (by omega) (by omega));have HOE:=qA (zI hO hE);clear hO hE hx16 hy16 hxb hyb;go_wp2_with fail
 refine HTk.out.mono ?_;rintro _ w6 ⟨rfl,hW⟩;have HW6:=qA hW;clear hW;go_wp2
 go_ret;rw[HOE.out.1,HOE.out.2];exact⟨rfl,HW6.out.drop2⟩}
theorem kQ.fr{W w:World}{a:Option Addr}{len:Nat}{z:Nat->Mv}(h:kQ W a len z)(hf:Fr [] W w):kQ w a len z:=⟨h.1,fun i hi=>by
 obtain⟨b,off,e,hb,h0,h1,h2,h3,h4⟩:=h.2 i hi;exact⟨b,off,e,Nat.lt_of_lt_of_le hb hf.size,hf.cell h0 (by simp),hf.cell h1 (by simp),hf.cell h2 (by simp),hf.cell h3 (by simp),h4⟩⟩
theorem vV{W w:World}{ts:List Th}{s len cap:Nat}{a:Option Addr}{z:Nat->Mv}(h:Wd W w ts)(hs:s<256)(hz:kQ W a len z):
    Calls Tryz.prog 38 #[.int .u8 (s:Nat),.slice a len cap] w fun e w' =>∃p o,e=.returned (cJ p)/\Wd W w' (thO p o::ts)/\Bp s 80 o:=by
 have HN:=qA (aOP h (1+s) 5 12 9 (by omega) (by omega) (by decide) (by decide) (by decide) (by decide) (by decide) (by decide));have hw1:IntKind.i64.wrap (s:Int)=s:=zG _ (by omega);have hw2:IntKind.i64.wrap (1+(s:Int))=1+s:=zG _ (by omega);have HS:=qA hs;have HZ:=qA hz;clear h hs hz;go_enter Tryz.func38,Tryz.ntmps38
 go_wp2_with fail
 refine HN.out.mono ?_;rintro _ w1 ⟨p,rfl,hW⟩;have HP0:=qA (show ∃o,Wd W w1 (thO p o::ts)/\Bp s 0 o from⟨_,hW,Bp.new HS.out⟩);clear hW HN hw1 hw2;go_wp2_with fail
 go_loopw [7] (fun c wr=>∃i:Nat,i<=len/\i<=80/\c=.int .i64 i/\Hid (∃o,Wd W wr (thO p o::ts)/\Bp s i o)) (fun c _=>80-(intOf c).toNat)
 case atStart=>exact⟨0,by omega,by omega,rfl,HP0⟩
 case round=>
  clear HP0;obtain⟨i,hi,hi8,rfl,HP⟩:=hrel;rename World=>wr
  by_cases hlt:i<len
  {
  by_cases h80:i<80
  {
  have e1:(i:Int)<len:=by omega
  have e2:(i:Int)<80:=by omega
  have e0:(0:Int)<=i:=by omega
  have d1:decide ((i:Int)<len)=true:=qG e1;have d2:decide ((i:Int)<80)=true:=qG e2;have hw1:IntKind.i64.wrap ((i:Int)+1)=((i+1:Nat):Int):=by rw[show(i:Int)+1=((i+1:Nat):Int) by omega];exact zG _ (by omega)
  obtain⟨o,hW,hB⟩:=HP.out;obtain⟨b,off,rfl,hb,m0,m1,m2,m3,hok⟩:=(HZ.out.fr hW.frm).2 i hlt;have HM:=qA (aGB hW hB (by omega) (z i) hok);have hnew:=hB.mv hW.ob hok;have HB:=qA hnew;clear hW hB hok hnew HP;generalize z i=mv at *;obtain⟨ma,mu,mvv,mw⟩:=mv;simp only at m0 m1 m2 m3;go_wp2_with fail
  refine HM.out.mono ?_;rintro _ w2 ⟨rfl,hW⟩;have HP2:=qA (show ∃o,Wd W w2 (thO p o::ts)/\Bp s (i+1) o from⟨_,hW,HB.out⟩);clear hW HM HB m0 m1 m2 m3;go_wp2_with fail
  go_roundw
  case rel=>exact⟨i+1,by omega,by omega,by go_num,HP2⟩
  case measure=>simp[intOf];omega}
  {
  have d1:decide ((i:Int)<len)=true:=qG (by omega);have d2:decide ((i:Int)<80)=false:=qF (by omega);have d3:(i:Int)<len:=by omega
  have d4:¬(i:Int)<80:=by omega
  go_wp2
  go_ret;obtain⟨o,hW,hB⟩:=HP.out;exact⟨p,rfl,o,hW,hB.mono (by omega)⟩}}
  {
  have d1:decide ((i:Int)<len)=false:=qF (by omega);have d3:¬(i:Int)<len:=by omega
  go_wp2
  go_ret;obtain⟨o,hW,hB⟩:=HP.out;exact⟨p,rfl,o,hW,hB.mono (by omega)⟩}
theorem Wd.formB{W w:World}{ts:List Th}{v:Value}{l:List Nat}(h:Wd W w (thY v l::ts))(h0:0<l.length):∃b cap,v=.slice (some ⟨b,0,none⟩) l.length cap/\l.length<=cap/\RdB w (some ⟨b,0,none⟩) l:=by
 have hr:=h.rowB;obtain⟨b,cap,rfl,hc,_⟩:=hr.at h0;exact⟨b,cap,rfl,hc,hr.rd⟩
theorem aAQ{W w:World}{ts:List Th}{a:Option Addr}{l:List Nat}{n cap:Nat}{o:Ob}(h:Wd W w ts)(hL:fZ W)(hr:RdB w a l)(hb:Byt l)(hn:l.length=n)(hl:n<=1073741824)(hc:n<=cap)(hR:fN l=(0,some o)):
    Calls Tryz.prog 21 #[.slice a n cap] w fun e w' =>∃p,e=.returned (.tuple #[cJ p,.int .i64 0])/\Wd W w' (thO p o::ts):=
  (aIA h hL hr hb hn hl hc).mono fun e w' k=>by
 unfold LdE at k;rw[hR]at k;exact k
section
variable {w:World} {v:Value}
end
section
variable {W w:World} {ts:List Th} {p:Nat} {o:Ob} {v:Value}
end
end Go.Proofs.YtjdgpcjbgjnahaaGreatDoor
namespace Go.Proofs.YtjdgpcjbgjnahaaGreatDoor
end Go.Proofs.YtjdgpcjbgjnahaaGreatDoor
namespace Go.Proofs.YtjdgpcjbgjnahaaGreatDoor
open Go.RowKit
def pY(l:List Nat):ByteArray:=strOfNums (l.map fun x:Nat=>(x:Int))
theorem aPF{l m:List Nat}(hl:Byt l)(hm:Byt m):pY l=pY m↔l=m:=by
 constructor
 {
 intro h;have e:(pY l).data.toList=(pY m).data.toList:=by rw[h]
 unfold pY at e;rw[strOfNums_data,strOfNums_data,List.map_map,List.map_map]at e;have k:=congrArg (List.map UInt8.toNat) e;rw[List.map_map,List.map_map]at k;have key:∀(l:List Nat),Byt l->l.map (UInt8.toNat ∘ ((fun n:Int=>UInt8.ofNat n.toNat) ∘ fun x:Nat=>(x:Int)))=l:=fun l hl=>by
   (conv=>rhs;rw[<-List.map_id l])
   refine List.map_congr_left fun x hx=>?_;show(UInt8.ofNat ((x:Int).toNat)).toNat=x
   rw[zD,UInt8.toNat_ofNat', Nat.mod_eq_of_lt];exact hl x hx
 rw[key l hl,key m hm]at k;exact k}
 · rintro rfl;rfl
theorem aPG{w:World}{a:Option Addr}{l:List Nat}{n c:Nat}(hr:RdB w a l)(hn:l.length=n)(hp:0<n):(convert 22 9 (.slice a n c)).run Tryz.prog w=.ok (.string (pY l)) w:=by
 obtain⟨b,off,rfl,_⟩:=hr 0 (by omega);refine run_convert_bytes_arg (P:=Tryz.prog) w 22 5 Tryz.underlying22 Tryz.underlying5 b off n c (l.map fun x:Nat=>(x:Int)) (by rw[List.length_map,hn]) (fun i hi=>?_) 9 Tryz.underlying9;obtain⟨b', off', e,_,hc⟩:=hr i (by omega);simp only[qI,Addr.mk.injEq,and_true]at e;obtain⟨rfl,rfl⟩:=e;rw[hc];have hg:(l.map fun x:Nat=>(x:Int)).getD i 0=((l[i]'(by omega):Nat):Int):=by rw[List.getD_eq_getElem?_getD,List.getElem?_map,qL (by omega)];rfl
 rw[hg]
theorem aXU{w:World}{a1 a2:Option Addr}{l1 l2:List Nat}{n1 n2 c1 c2:Nat}(h1:RdB w a1 l1)(h2:RdB w a2 l2)(e1:l1.length=n1)(e2:l2.length=n2)(p1:0<n1)(p2:0<n2)(b1:Byt l1)(b2:Byt l2):
    Calls Tryz.prog 49 #[.slice a1 n1 c1,.slice a2 n2 c2] w fun e w' =>e=.returned (.bool (decide (l1=l2)))/\w' =w:=by
 have k1:=aPG (c:=c1) h1 e1 p1;have k2:=aPG (c:=c2) h2 e2 p2;have hi:=aPF b1 b2;have hb:((pY l1).toList == (pY l2).toList)=decide (l1=l2):=by {
 rw[Bool.eq_iff_iff,beq_iff_eq,decide_eq_true_iff,ByteArray.toList_eq,ByteArray.toList_eq];constructor
 {
 intro h;refine hi.1 ?_;have e:(pY l1).data=(pY l2).data:=by rw[<-Array.toList_inj];exact h
 generalize pY l1=s1 at *;generalize pY l2=s2 at *;cases s1;cases s2;simp only at e;rw[e]}
 · rintro rfl;rfl};generalize pY l1=s1 at *;generalize pY l2=s2 at *;have HB:=qA hb;clear hb hi h1 h2 e1 e2 p1 p2 b1 b2;go_enter Tryz.func49,Tryz.ntmps49
 go_wp2_with fail
 go_ret;rw[HB.out];exact⟨rfl,rfl⟩
section
variable {W w:World} {ts:List Th} {p q:Nat} {o r:Ob}
theorem Wd.lenB{W w:World}{ts:List Th}{v:Value}{o:Ob}(h:Wd W w (thY v o.img::ts)):∃b cap,v=.slice (some ⟨b,0,none⟩) o.img.length cap/\RdB w (some ⟨b,0,none⟩) o.img:=by
 obtain⟨b,cap,e,_,hr⟩:=h.formB (by rw[Ob.img_len];omega);exact⟨b,cap,e,hr⟩
theorem cC(h:Wd W w (thO p o::thO q r::ts))(hL:fZ W)(hp:o.Pc)(hq:r.Pc):Calls Tryz.prog 20 #[cJ p,cJ q] w fun e w' =>∃x:Bool,e=.returned (.bool x)/\(x=true↔o=r)/\Wd W w' (thO p o::thO q r::ts):=by
 obtain⟨x,hx⟩:∃x,x=decide (o.img=r.img):=⟨_,rfl⟩;have hi:(x=decide (o.img=r.img))/\(x=true↔o=r):=⟨hx,by rw[hx,decide_eq_true_iff];exact aSO hp h.ob hq h.swap.ob⟩;have HI:=qA hi;have HW:=qA h;have HL:=qA hL;have HP:=qA (zI hp hq);clear h hL hp hq hi hx;go_enter Tryz.func20,Tryz.ntmps20
 go_wp2_with fail
 refine(nC HW.out HL.out HP.out.1).mono ?_;rintro _ w2 ⟨v,rfl,hW⟩;have HW2:=qA hW.third;clear hW HW;go_wp2_with fail
 refine(nC HW2.out HL.out HP.out.2).mono ?_;rintro _ w3 ⟨v2,rfl,hW⟩;obtain⟨b1,c1,rfl,hr1⟩:=hW.third.lenB;obtain⟨b2,c2,rfl,hr2⟩:=hW.lenB;have hbe:=aXU (c1:=c1) (c2:=c2) hr1 hr2 rfl rfl (by rw[Ob.img_len];omega) (by rw[Ob.img_len];omega) o.img_byt r.img_byt;rw[<-HI.out.1]at hbe;have HBe:=qA hbe;have HW3:=qA (show Wd W w3 (thO p o::thO q r::ts) from hW.drop.drop2.swap);clear hW HW2 hr1 hr2 hbe;go_wp2_with fail
 refine HBe.out.mono ?_;rintro _ w4 ⟨rfl,rfl⟩;clear HBe;go_wp2
 go_ret;exact⟨_,rfl,HI.out.2,HW3.out⟩
end
def aPH(u v u' v' :Nat)(wt t wt' t' :Int):Bool:=(u == u')&&(v == v')&&(wt == wt')&&(t == t')
@[go_sem high] theorem aWK(u v u' v' :Nat)(wt t wt' t' :Int)(w:World):(Op.equalIn 10000 72 (.agg #[.int .u64 u,.int .u64 v,.int .i64 wt,.int .i64 t]) (.agg #[.int .u64 u', .int .u64 v', .int .i64 wt', .int .i64 t'])).run Tryz.prog w=.ok (aPH u v u' v' wt t wt' t') w:=by
 have hc:∀(a b:Nat),((a:Int) == (b:Int))=(a == b):=fun a b=>by rw[Bool.eq_iff_iff];simp only[beq_iff_eq];omega
 rw[show(10000:Nat)=9999+1 from rfl,run_equalIn_struct w 9999 _ _ _ (by kernel_rfl) (by kernel_rfl)];unfold aPH;simp only[Program.fieldsOf,Tryz.underlying72,Op.eqFields];go_simp;by_cases h1:u=u' <;> by_cases h2:v=v' <;> by_cases h3:wt=wt' <;> by_cases h4:t=t' <;> simp[h1,h2,h3,h4]
@[go_sem] theorem aTL(op:BinOp)(x y:Operand)(xs ys:Array Value)(w:World):(eqGuard op 72 x y (.agg xs) (.agg ys)).run Tryz.prog w=.ok () w:=run_eqGuard_agg w op 72 x y xs ys (by kernel_rfl)
theorem Fr.of_drewN37(w:World)(k:Nat):Fr [] w (w.drewN k):=(Fr.refl [] w).drewN k
theorem aPI(x y:Lv):cG x=cG y↔x.seq=y.seq/\(x.u=y.u/\x.v=y.v/\x.wt=y.wt/\x.t=y.t)/\x.x=y.x:=by
 unfold cG;simp only[Lv.mk.injEq,true_and];constructor
 · rintro⟨h1,h2,h3,h4,h5,h6⟩;exact⟨h1,⟨h2,h3,h4,h5⟩,h6⟩
 · rintro⟨h1,⟨h2,h3,h4,h5⟩,h6⟩;exact⟨h1,h2,h3,h4,h5,h6⟩
theorem aPJ(u v u' v' :Nat)(wt t wt' t' :Int):aPH u v u' v' wt t wt' t' =true↔u=u' /\ v=v' /\ wt=wt' /\ t=t' :=by
 unfold aPH;simp[and_assoc]
theorem aAR{p q:List Lv}(hl:p.length=q.length):p.map cG=q.map cG↔∀i (h1:i<p.length) (h2:i<q.length),cG p[i]=cG q[i]:=by
 constructor
 {
 intro h i h1 h2;have e:(p.map cG)[i]? =(q.map cG)[i]? :=by rw[h]
 rw[List.getElem?_map,List.getElem?_map,qL h1,qL h2]at e;exact Option.some.inj e}
 {
 intro h;refine List.ext_getElem (by simp[hl]) fun i h1 h2=>?_;rw[List.getElem_map,List.getElem_map];exact h i (by simpa using h1) (by simpa using h2)}
theorem aDQ{w:World}{v u:Value}{p q:List Lv}(hv:dF w v p)(hu:dF w u q)(hp:p.length<=65536)(hq:q.length<=65536):
    Calls Tryz.prog 33 #[v,u] w fun e w' =>∃r:Bool,e=.returned (.bool r)/\(r=true↔p.map cG=q.map cG)/\Fr [] w w' :=by
 obtain⟨a1,c1,rfl⟩:=hv.slice;obtain⟨a2,c2,rfl⟩:=hu.slice;have HV:=qA hv;clear hv;have HU:=qA hu;clear hu;by_cases hl:p.length=q.length
 {
 have hb:((p.length:Int) != (q.length:Int))=false:=by simp;omega
 have HI:=qA (aAR hl);go_enter Tryz.func33,Tryz.ntmps33
 go_wp2_with fail
 go_loopw [5] (fun x wr=>∃i:Nat,i<=p.length/\x=.int .i64 i/\(∃k,wr=w.drewN k)/\Hid (∀j (h1:j<p.length) (h2:j<q.length),j<i->cG p[j]=cG q[j])) (fun x _=>p.length-(intOf x).toNat)
 case atStart=>exact⟨0,qS _,rfl,⟨0,rfl⟩,qA (fun j _ _ h=>absurd h (Nat.not_lt_zero _))⟩
 case round=>
  obtain⟨i,hi,rfl,⟨k,rfl⟩,HA⟩:=hrel;by_cases hlt:i<p.length
  {
  have hltq:i<q.length:=by omega
  obtain⟨b1,c1', e1,_,_,_,r1⟩:=HV.out.at hlt;obtain⟨b2,c2', e2,_,_,_,r2⟩:=HU.out.at hltq;simp only[qP,true_and]at e1 e2;obtain⟨rfl,rfl⟩:=e1;obtain⟨rfl,rfl⟩:=e2;have hi1:(i:Int)<p.length:=by omega
  have hi2:(i:Int)<q.length:=by omega
  have hi0:(0:Int)<=i:=by omega
  have hwi:IntKind.i64.wrap ((i:Int)+1)=((i+1:Nat):Int):=by rw[show(i:Int)+1=((i+1:Nat):Int) by omega];exact zG _ (by omega)
  have HX:=qA (show ∃x y:Lv,x=p[i]'hlt/\y=q[i]'hltq from⟨_,_,rfl,rfl⟩);have hnext:cG (p[i]'hlt)=cG (q[i]'hltq)->∀j (h1:j<p.length) (h2:j<q.length),j<i+1->cG p[j]=cG q[j]:=fun h j h1 h2 hj=>by
    by_cases hji:j<i
    · exact HA.out j h1 h2 hji
    · obtain rfl : j = i := by omega
      exact h
  have hstop:¬cG (p[i]'hlt)=cG (q[i]'hltq)->¬p.map cG=q.map cG:=fun h e=>h (HI.out.1 e i hlt hltq);unfold aIT at r1 r2;generalize p[i]'hlt=x at *;generalize q[i]'hltq=y at *;obtain⟨x0,x1,x2,x3,x4,x5,x6⟩:=r1;obtain⟨y0,y1,y2,y3,y4,y5,y6⟩:=r2;have HNx:=qA (zI hnext hstop);clear hnext hstop x0 y0;have hci:=aPI x y;by_cases h1:x.seq=y.seq
  {
  have d1:((x.seq:Int) != (y.seq:Int))=false:=by simp;omega
  have hr:=aPJ x.u x.v y.u y.v x.wt x.t y.wt y.t;cases h2:aPH x.u x.v y.u y.v x.wt x.t y.wt y.t with
  | true=>{
  by_cases h3:x.x=y.x
  {
  have d3:(x.x != y.x)=false:=by simp[h3]
  have HEq:=qA (hci.2 ⟨h1,hr.1 h2,h3⟩);have H3:=qA h3;have H1:=qA h1;clear hci hr h1 h3;go_wp2_with fail
  go_quiet (fail)
  go_wp2_with fail
  go_roundw
  case rel=>exact⟨i+1,by omega,by go_num,⟨_,rfl⟩,qA (HNx.out.1 HEq.out)⟩
  case measure=>simp[intOf];omega}
  {
  have d3:(x.x != y.x)=true:=by simp[h3]
  have HEq:=qA (show ¬cG x=cG y from fun h=>h3 (hci.1 h).2.2);clear hci hr h3 h1;go_wp2_with fail
  go_quiet (fail)
  go_wp2_with fail
  go_ret;exact⟨_,rfl,by simpa using HNx.out.2 HEq.out,(Fr.of_drewN37 _ _).drewN _⟩}}
  | false=>{
  have HEq:=qA (show ¬cG x=cG y from fun h=>by have:=hr.2 (hci.1 h).2.1;rw[h2]at this;cases this);clear hci hr h1;go_wp2_with fail
  go_quiet (fail)
  go_wp2_with fail
  go_ret;exact⟨_,rfl,by simpa using HNx.out.2 HEq.out,(Fr.of_drewN37 _ _).drewN _⟩}}
  {
  have d1:((x.seq:Int) != (y.seq:Int))=true:=by simp;omega
  have HEq:=qA (show ¬cG x=cG y from fun h=>h1 (hci.1 h).1);clear hci h1;go_wp2_with fail
  go_quiet (fail)
  go_wp2_with fail
  go_ret;exact⟨_,rfl,by simpa using HNx.out.2 HEq.out,(Fr.of_drewN37 _ _).drewN _⟩}}
  {
  obtain rfl:i=p.length:=by omega
  have HT:=qA (HI.out.2 fun j h1 h2=>HA.out j h1 h2 h1);go_wp2
  go_ret;exact⟨_,rfl,by simpa using HT.out,Fr.of_drewN37 _ _⟩}}
 {
 have hb:((p.length:Int) != (q.length:Int))=true:=by simp;omega
 have HN:=qA (show ¬p.map cG=q.map cG from fun h=>hl (by have:=congrArg List.length h;simpa using this));go_enter Tryz.func33,Tryz.ntmps33
 go_wp2
 go_ret;exact⟨_,rfl,by simpa using HN.out,Fr.refl _ _⟩}
def aGC(a b c d a' b' c' d' :Int):Bool:=(a == a')&&(b == b')&&(c == c')&&(d == d')
theorem aKS(a b c d:Int):aGC a b c d a b c d=true:=by simp[aGC]
@[go_sem high] theorem aWL(a b c d a' b' c' d' :Int)(w:World):(Op.equalIn 10000 31 (.agg #[.int .i64 a,.int .i64 b,.int .i64 c,.int .i64 d]) (.agg #[.int .i64 a', .int .i64 b', .int .i64 c', .int .i64 d'])).run Tryz.prog w=.ok (aGC a b c d a' b' c' d') w:=by
 rw[show(10000:Nat)=9999+1 from rfl,run_equalIn_struct w 9999 _ _ _ (by kernel_rfl) (by kernel_rfl)];unfold aGC;simp only[Program.fieldsOf,Tryz.underlying31,Op.eqFields];go_simp;by_cases h1:a=a' <;> by_cases h2:b=b' <;> by_cases h3:c=c' <;> by_cases h4:d=d' <;> simp[h1,h2,h3,h4]
@[go_sem] theorem aTM(op:BinOp)(x y:Operand)(xs ys:Array Value)(w:World):(eqGuard op 31 x y (.agg xs) (.agg ys)).run Tryz.prog w=.ok () w:=run_eqGuard_agg w op 31 x y xs ys (by kernel_rfl)
theorem Ob.ext8(o r:Ob):o=r↔((o.m=r.m/\(o.E:Int)=r.E/\(o.V:Int)=r.V/\o.D=r.D)/\o.now=r.now/\o.last=r.last/\o.gone=r.gone/\o.L=r.L):=by
 obtain⟨a,b,c,d,e,f,g,h⟩:=o;obtain⟨a', b', c', d', e', f', g', h'⟩:=r;simp only[Ob.mk.injEq];constructor
 · rintro⟨rfl,rfl,rfl,rfl,rfl,rfl,rfl,rfl⟩;exact⟨⟨rfl,rfl,rfl,rfl⟩,rfl,rfl,rfl,rfl⟩
 · rintro⟨⟨rfl,h1,h2,rfl⟩,rfl,rfl,rfl,rfl⟩;exact⟨rfl,by omega,by omega,rfl,rfl,rfl,rfl,rfl⟩
theorem aDR(a b c d a' b' c' d' :Int):aGC a b c d a' b' c' d' =true↔a=a' /\ b=b' /\ c=c' /\ d=d' :=by unfold aGC;simp[and_assoc]
theorem walk_imageApart(W:World)(s1:Int)(ws1:(Lit.int .u8 s1).wf=true)(s2:Int)(ws2:(Lit.int .u8 s2).wf=true)(a1:Option Addr)(l1 c1:Nat)(z1:Nat->Mv)(hz1:kQ W a1 l1 z1)(a2:Option Addr)(l2 c2:Nat)(z2:Nat->Mv)(hz2:kQ W a2 l2 z2)(hL:fZ W):
    Calls Tryz.prog 13 #[.int .u8 s1,.int .u8 s2,.slice a1 l1 c1,.slice a2 l2 c2] W fun e W' =>e=.returned (.bool true)/\Below W.heap.size W W' :=by
 obtain⟨s1,rfl,hs1⟩:=yG ws1;obtain⟨s2,rfl,hs2⟩:=yG ws2;have HL:=qA hL;have HP1:=qA (vV (cap:=c1) (Wd.begin W) hs1 hz1);have HZ2:=qA (zI hs2 hz2);clear hL ws1 ws2 hs1 hs2 hz1 hz2;go_enter Tryz.func13,Tryz.ntmps13
 go_wp2_with fail
 refine HP1.out.mono ?_;rintro _ w1 ⟨p,o,rfl,hW,hB⟩;have HB1:=qA hB.pc;have HP2:=qA (vV (cap:=c2) hW HZ2.out.1 HZ2.out.2);clear HP1 hW hB;go_wp2_with fail
 refine HP2.out.mono ?_;rintro _ w2 ⟨q,r,rfl,hW,hB⟩;have HB2:=qA hB.pc;have HW2:=qA hW.swap;have hpo:=hW.swap.ob;have hpr:=hW.ob;have hE1:=hpo.leE;have hE2:=hpo.mE;have hE3:=hpr.leE;have hE4:=hpr.mE;have HLn:=qA (zI (show o.L.length<=16384 by omega) (show r.L.length<=16384 by omega));clear HP2 hW hB HZ2 hpo hpr hE1 hE2 hE3 hE4;have HA1:=qA (mG HW2.out);go_wp2_with fail
 refine HA1.out.mono ?_;rintro _ w3 ⟨rfl,hF⟩;have HW3:=qA (HW2.out.fr0 hF);clear hF HA1 HW2;have HA1:=qA (mG HW3.out.swap);go_wp2_with fail
 refine HA1.out.mono ?_;rintro _ w4 ⟨rfl,hF⟩;have HW4:=qA (HW3.out.fr0 hF);clear hF HA1 HW3;have HA1:=qA (jS HW4.out);go_wp2_with fail
 refine HA1.out.mono ?_;rintro _ w5 ⟨rfl,hF⟩;have HW5:=qA (HW4.out.fr0 hF);clear hF HA1 HW4;have HA1:=qA (jS HW5.out.swap);go_wp2_with fail
 refine HA1.out.mono ?_;rintro _ w6 ⟨rfl,hF⟩;have HW6:=qA (HW5.out.fr0 hF);clear hF HA1 HW5;have HX:=qA (Ob.ext8 o r);cases hcf:aGC o.m o.E o.V o.D r.m r.E r.V r.D with
 | false=>{
 have HNe:=qA (show ¬o=r from fun h=>by have k:=(aDR _ _ _ _ _ _ _ _).2 (HX.out.1 h).1;rw[hcf]at k;cases k);have HT:=qA (cC HW6.out HL.out HB1.out HB2.out);go_wp2_with fail
 refine HT.out.mono ?_;rintro _ wa ⟨x,rfl,hx,hW⟩;have hxv:x=false:=by cases x with|false=>rfl|true=>exact absurd (hx.1 rfl) HNe.out
 clear hx;subst hxv;have HWa:=qA hW;have HT:=qA (cC hW.swap HL.out HB2.out HB1.out);clear hW;go_wp2_with fail
 refine HT.out.mono ?_;rintro _ wb ⟨x,rfl,hx,hW⟩;have hxv:x=false:=by cases x with|false=>rfl|true=>exact absurd (hx.1 rfl).symm HNe.out
 clear hx;subst hxv;have HT:=qA (nA hW.swap);clear hW HWa;go_wp2_with fail
 refine HT.out.mono ?_;rintro _ wc ⟨pc,rfl,hW⟩;have HT:=qA (cC hW.swap HL.out HB1.out HB1.out);clear hW;go_wp2_with fail
 refine HT.out.mono ?_;rintro _ wd ⟨x,rfl,hx,hW⟩;have hxv:x=true:=hx.2 (by first|trivial|rfl);clear hx;subst hxv;have HWk:=qA (gP hW HL.out);clear hW HT;go_wp2_with fail
 refine HWk.out.mono ?_;rintro _ we ⟨rfl,hW⟩;have hB:=hW.below;clear hW HWk;go_wp2
 go_ret;exact⟨rfl,hB⟩}
 | true=>{
 have HC:=qA ((aDR _ _ _ _ _ _ _ _).1 hcf);have HA1:=qA (rV HW6.out);go_wp2_with fail
 refine HA1.out.mono ?_;rintro _ w7 ⟨rfl,rfl⟩;clear HA1;have HA1:=qA (rV HW6.out.swap);go_wp2_with fail
 refine HA1.out.mono ?_;rintro _ w7 ⟨rfl,rfl⟩;clear HA1 hcf;by_cases hnow:o.now=r.now
 {
 have d1:(o.now == r.now)=true:=by simp[hnow]
 by_cases hla:o.last=r.last
 {
 have d2:((o.last:Int) == (r.last:Int))=true:=by simp[hla]
 by_cases hgo:o.gone=r.gone
 {
 have d3:((o.gone:Int) == (r.gone:Int))=true:=by simp[hgo]
 have HQ:=qA (zI hnow (zI hla hgo));have HLv:=qA (pU HW6.out);generalize hn1:o.now=n1 at d1;generalize hn2:r.now=n2 at d1;clear hnow hla hgo;clear hn1 hn2;go_wp2_with fail
 refine HLv.out.mono ?_;rintro _ w8 ⟨v1,L1,rfl,hL1,hW⟩;have HW8:=qA hW;have HL1:=qA hL1;clear HLv hW hL1;have HLv:=qA (pU HW8.out.third);go_wp2_with fail
 refine HLv.out.mono ?_;rintro _ w9 ⟨v2,L2,rfl,hL2,hW⟩;have hr1:=hW.third.rowV;have hr2:=hW.rowV;have hln1:L1.length<=65536:=by have h1:=congrArg List.length HL1.out.1;rw[List.length_map]at h1;have:=HLn.out.1;omega
 have hln2:L2.length<=65536:=by have h1:=congrArg List.length hL2.1;rw[List.length_map]at h1;have:=HLn.out.2;omega
 have HRc:=qA (aDQ hr1 hr2 hln1 hln2);have HW9:=qA (show Wd W w9 (thO p o::[thO q r]) from hW.drop.drop2.swap);have HL2:=qA hL2;clear HLv hW hL2 hr1 hr2 hln1 hln2 HW8;go_wp2_with fail
 refine HRc.out.mono ?_;rintro _ w10 ⟨b,rfl,hb,hF⟩;rw[HL1.out.1,HL2.out.1]at hb;have HW10:=qA (HW9.out.fr0 hF);clear HRc hF HW9;cases b with
 | true=>{
 have HNe:=qA (show o=r from HX.out.2 ⟨HC.out,HQ.out.1,HQ.out.2.1,HQ.out.2.2,hb.1 rfl⟩);clear hb;have HT:=qA (cC HW10.out HL.out HB1.out HB2.out);go_wp2_with fail
 refine HT.out.mono ?_;rintro _ wa ⟨x,rfl,hx,hW⟩;have hxv:x=true:=hx.2 HNe.out;clear hx;subst hxv;have HWa:=qA hW;have HT:=qA (cC hW.swap HL.out HB2.out HB1.out);clear hW;go_wp2_with fail
 refine HT.out.mono ?_;rintro _ wb ⟨x,rfl,hx,hW⟩;have hxv:x=true:=hx.2 HNe.out.symm;clear hx;subst hxv;have HT:=qA (nA hW.swap);clear hW HWa;go_wp2_with fail
 refine HT.out.mono ?_;rintro _ wc ⟨pc,rfl,hW⟩;have HT:=qA (cC hW.swap HL.out HB1.out HB1.out);clear hW;go_wp2_with fail
 refine HT.out.mono ?_;rintro _ wd ⟨x,rfl,hx,hW⟩;have hxv:x=true:=hx.2 (by first|trivial|rfl);clear hx;subst hxv;have HWk:=qA (gP hW HL.out);clear hW HT;go_wp2_with fail
 refine HWk.out.mono ?_;rintro _ we ⟨rfl,hW⟩;have hB:=hW.below;clear hW HWk;go_wp2
 go_ret;exact⟨rfl,hB⟩}
 | false=>{
 have HNe:=qA (show ¬o=r from fun h=>by have:=hb.2 (HX.out.1 h).2.2.2.2;cases this);clear hb;have HT:=qA (cC HW10.out HL.out HB1.out HB2.out);go_wp2_with fail
 refine HT.out.mono ?_;rintro _ wa ⟨x,rfl,hx,hW⟩;have hxv:x=false:=by cases x with|false=>rfl|true=>exact absurd (hx.1 rfl) HNe.out
 clear hx;subst hxv;have HWa:=qA hW;have HT:=qA (cC hW.swap HL.out HB2.out HB1.out);clear hW;go_wp2_with fail
 refine HT.out.mono ?_;rintro _ wb ⟨x,rfl,hx,hW⟩;have hxv:x=false:=by cases x with|false=>rfl|true=>exact absurd (hx.1 rfl).symm HNe.out
 clear hx;subst hxv;have HT:=qA (nA hW.swap);clear hW HWa;go_wp2_with fail
 refine HT.out.mono ?_;rintro _ wc ⟨pc,rfl,hW⟩;have HT:=qA (cC hW.swap HL.out HB1.out HB1.out);clear hW;go_wp2_with fail
 refine HT.out.mono ?_;rintro _ wd ⟨x,rfl,hx,hW⟩;have hxv:x=true:=hx.2 (by first|trivial|rfl);clear hx;subst hxv;have HWk:=qA (gP hW HL.out);clear hW HT;go_wp2_with fail
 refine HWk.out.mono ?_;rintro _ we ⟨rfl,hW⟩;have hB:=hW.below;clear hW HWk;go_wp2
 go_ret;exact⟨rfl,hB⟩}}
 {
 have d3:((o.gone:Int) == (r.gone:Int))=false:=by simp;omega
 have HNe:=qA (show ¬o=r from fun h=>hgo (HX.out.1 h).2.2.2.1);generalize hn1:o.now=n1 at d1;generalize hn2:r.now=n2 at d1;clear hnow hla hgo;clear hn1 hn2;have HT:=qA (cC HW6.out HL.out HB1.out HB2.out);go_wp2_with fail
 refine HT.out.mono ?_;rintro _ wa ⟨x,rfl,hx,hW⟩;have hxv:x=false:=by cases x with|false=>rfl|true=>exact absurd (hx.1 rfl) HNe.out
 clear hx;subst hxv;have HWa:=qA hW;have HT:=qA (cC hW.swap HL.out HB2.out HB1.out);clear hW;go_wp2_with fail
 refine HT.out.mono ?_;rintro _ wb ⟨x,rfl,hx,hW⟩;have hxv:x=false:=by cases x with|false=>rfl|true=>exact absurd (hx.1 rfl).symm HNe.out
 clear hx;subst hxv;have HT:=qA (nA hW.swap);clear hW HWa;go_wp2_with fail
 refine HT.out.mono ?_;rintro _ wc ⟨pc,rfl,hW⟩;have HT:=qA (cC hW.swap HL.out HB1.out HB1.out);clear hW;go_wp2_with fail
 refine HT.out.mono ?_;rintro _ wd ⟨x,rfl,hx,hW⟩;have hxv:x=true:=hx.2 (by first|trivial|rfl);clear hx;subst hxv;have HWk:=qA (gP hW HL.out);clear hW HT;go_wp2_with fail
 refine HWk.out.mono ?_;rintro _ we ⟨rfl,hW⟩;have hB:=hW.below;clear hW HWk;go_wp2
 go_ret;exact⟨rfl,hB⟩}}
 {
 have d2:((o.last:Int) == (r.last:Int))=false:=by simp;omega
 have HNe:=qA (show ¬o=r from fun h=>hla (HX.out.1 h).2.2.1);generalize hn1:o.now=n1 at d1;generalize hn2:r.now=n2 at d1;clear hnow hla;clear hn1 hn2;have HT:=qA (cC HW6.out HL.out HB1.out HB2.out);go_wp2_with fail
 refine HT.out.mono ?_;rintro _ wa ⟨x,rfl,hx,hW⟩;have hxv:x=false:=by cases x with|false=>rfl|true=>exact absurd (hx.1 rfl) HNe.out
 clear hx;subst hxv;have HWa:=qA hW;have HT:=qA (cC hW.swap HL.out HB2.out HB1.out);clear hW;go_wp2_with fail
 refine HT.out.mono ?_;rintro _ wb ⟨x,rfl,hx,hW⟩;have hxv:x=false:=by cases x with|false=>rfl|true=>exact absurd (hx.1 rfl).symm HNe.out
 clear hx;subst hxv;have HT:=qA (nA hW.swap);clear hW HWa;go_wp2_with fail
 refine HT.out.mono ?_;rintro _ wc ⟨pc,rfl,hW⟩;have HT:=qA (cC hW.swap HL.out HB1.out HB1.out);clear hW;go_wp2_with fail
 refine HT.out.mono ?_;rintro _ wd ⟨x,rfl,hx,hW⟩;have hxv:x=true:=hx.2 (by first|trivial|rfl);clear hx;subst hxv;have HWk:=qA (gP hW HL.out);clear hW HT;go_wp2_with fail
 refine HWk.out.mono ?_;rintro _ we ⟨rfl,hW⟩;have hB:=hW.below;clear hW HWk;go_wp2
 go_ret;exact⟨rfl,hB⟩}}
 {
 have d1:(o.now == r.now)=false:=by simp[hnow]
 have HNe:=qA (show ¬o=r from fun h=>hnow (HX.out.1 h).2.1);clear hnow;have HT:=qA (cC HW6.out HL.out HB1.out HB2.out);go_wp2_with fail
 refine HT.out.mono ?_;rintro _ wa ⟨x,rfl,hx,hW⟩;have hxv:x=false:=by cases x with|false=>rfl|true=>exact absurd (hx.1 rfl) HNe.out
 clear hx;subst hxv;have HWa:=qA hW;have HT:=qA (cC hW.swap HL.out HB2.out HB1.out);clear hW;go_wp2_with fail
 refine HT.out.mono ?_;rintro _ wb ⟨x,rfl,hx,hW⟩;have hxv:x=false:=by cases x with|false=>rfl|true=>exact absurd (hx.1 rfl).symm HNe.out
 clear hx;subst hxv;have HT:=qA (nA hW.swap);clear hW HWa;go_wp2_with fail
 refine HT.out.mono ?_;rintro _ wc ⟨pc,rfl,hW⟩;have HT:=qA (cC hW.swap HL.out HB1.out HB1.out);clear hW;go_wp2_with fail
 refine HT.out.mono ?_;rintro _ wd ⟨x,rfl,hx,hW⟩;have hxv:x=true:=hx.2 (by first|trivial|rfl);clear hx;subst hxv;have HWk:=qA (gP hW HL.out);clear hW HT;go_wp2_with fail
 refine HWk.out.mono ?_;rintro _ we ⟨rfl,hW⟩;have hB:=hW.below;clear hW HWk;go_wp2
 go_ret;exact⟨rfl,hB⟩}}
theorem aPK{w:World}{a1 a2:Option Addr}{l1 l2:List Nat}{n1 n2 c1 c2:Nat}(h1:RdB w a1 l1)(h2:RdB w a2 l2)(e1:l1.length=n1)(e2:l2.length=n2)(hb:n1<=1073741824)(hc1:n1<=c1)(hc2:n2<=c2):
    Calls Tryz.prog 24 #[.slice a1 n1 c1,.slice a2 n2 c2] w fun e w' =>e=.returned (.bool (decide (l1=l2)))/\Fr [] w w' :=by
 by_cases hl:n1=n2
 {
 subst hl;have HR:=qA (zI h1 (zI h2 (zI e1 e2)));clear h1 h2 e1 e2 hc1 hc2;go_enter Tryz.func24,Tryz.ntmps24
 go_wp2_with fail
 go_loopw [5] (fun x wr=>∃i:Nat,i<=n1/\x=.int .i64 i/\(∃k,wr=w.drewN k)/\Hid (l1.take i=l2.take i)) (fun x _=>n1-(intOf x).toNat)
 case atStart=>exact⟨0,qS _,rfl,⟨0,rfl⟩,qA rfl⟩
 case round=>
  obtain⟨i,hi,rfl,⟨k,rfl⟩,HA⟩:=hrel;by_cases hlt:i<n1
  {
  have i1:i<l1.length:=by rw[HR.out.2.2.1];exact hlt
  have i2:i<l2.length:=by rw[HR.out.2.2.2];exact hlt
  obtain⟨b1,o1,rfl,_,r1⟩:=HR.out.1 i i1;obtain⟨b2,o2,rfl,_,r2⟩:=HR.out.2.1 i i2;have hi1:(i:Int)<n1:=by omega
  have hi0:(0:Int)<=i:=by omega
  have hwi:IntKind.i64.wrap ((i:Int)+1)=((i+1:Nat):Int):=by rw[show(i:Int)+1=((i+1:Nat):Int) by omega];exact zG _ (by omega)
  have t1:l1.take (i+1)=l1.take i++[l1[i]'i1]:=by rw[List.take_add_one,qL i1];rfl
  have t2:l2.take (i+1)=l2.take i++[l2[i]'i2]:=by rw[List.take_add_one,qL i2];rfl
  have hstop:¬l1[i]'i1=l2[i]'i2->¬l1=l2:=by rintro h rfl;exact h rfl
  generalize l1[i]'i1=x at *;generalize l2[i]'i2=y at *;have HT:=qA (zI t1 (zI t2 hstop));clear t1 t2 hstop;by_cases hxy:x=y
  {
  have d1:((x:Int) != (y:Int))=false:=by simp;omega
  have HN:=qA (show l1.take (i+1)=l2.take (i+1) by rw[HT.out.1,HT.out.2.1,HA.out,hxy]);clear hxy HA HT;go_wp2_with fail
  go_quiet (fail)
  go_wp2_with fail
  go_roundw
  case rel=>exact⟨i+1,by omega,by go_num,⟨_,rfl⟩,HN⟩
  case measure=>simp[intOf];omega}
  {
  have d1:((x:Int) != (y:Int))=true:=by simp;omega
  have HN:=qA (HT.out.2.2 hxy);clear hxy HA HT;go_wp2_with fail
  go_quiet (fail)
  go_wp2_with fail
  go_ret;rw[qF HN.out];exact⟨rfl,((Fr.refl [] w).drewN _).drewN _⟩}}
  {
  obtain rfl:i=n1:=by omega
  have HN:=qA (show l1=l2 from by
    have h:=HA.out;rw[List.take_of_length_le (by rw[HR.out.2.2.1];exact qK _),List.take_of_length_le (by rw[HR.out.2.2.2];exact qK _)]at h;exact h)
  go_wp2
  go_ret;rw[qG HN.out];exact⟨rfl,(Fr.refl [] w).drewN _⟩}}
 {
 have hb:((n1:Int) != (n2:Int))=true:=by simp;omega
 have HN:=qA (show ¬l1=l2 from by rintro rfl;exact hl (e1.symm.trans e2));clear h1 h2 e1 e2 hl;go_enter Tryz.func24,Tryz.ntmps24
 go_wp2
 go_ret;rw[qF HN.out];exact⟨rfl,Fr.refl _ _⟩}
theorem aSU{o:Ob}(h:o.Ok){x:Nat}(hx:x∈eX o.L):x<18446744073709551616:=by
 obtain⟨e,he,hat⟩:=iP.1 hx;have hu:=h.u64 e he;simp only[Lv.at,Bool.or_eq_true,beq_iff_eq]at hat;omega
theorem Hs.perm{n:Nat}{w:World}{ts us:List Th}(hp:ts.Perm us):∀{K:List Nat},Hs n w ts K->∃K', Hs n w us K' /\ ∀q∈K', q∈K:=by
 induction hp with
 | nil=>exact fun h=>⟨_,h,fun _ h=>h⟩
 | cons t _ ih=>{
 rintro K ⟨K1,K2,h1,h2,h3,h4,rfl⟩;obtain⟨K', k1,k2⟩:=ih h3;exact⟨K1++K', ⟨K1,K', h1,h2,k1,fun q hq hm=>h4 q hq (k2 q hm),rfl⟩,fun q hq=>by
   rcases qE.1 hq with e|e
   · exact qE.2 (.inl e)
   · exact qE.2 (.inr (k2 q e))⟩}
 | swap a b ts=>exact fun h=>Hs.swap h
 | trans _ _ ih1 ih2=>{
 intro K h;obtain⟨K1,h1,k1⟩:=ih1 h;obtain⟨K2,h2,k2⟩:=ih2 h1;exact⟨K2,h2,fun q hq=>k1 q (k2 q hq)⟩}
theorem Wd.perm{W w:World}{ts us:List Th}(h:Wd W w ts)(hp:ts.Perm us):Wd W w us:=by
 obtain⟨h1,K,h2⟩:=h;obtain⟨K', h3,_⟩:=Hs.perm hp h2;exact⟨h1,K', h3⟩
theorem Ob.ids_le4{o:Ob}(h:o.Ok):(eX o.L).length<=65536:=by have:=h.leV;have:=h.mV;omega
theorem yI{W wr:World}{p q:Nat}{o:Ob}{ts:List Th}(h:Wd W wr (thO p o::thO q o::ts)):
    Calls Tryz.prog 44 #[cJ p,cJ q] wr fun e w' =>e=.returned (.bool true)/\Wd W w' (thO p o::thO q o::ts):=by
 have HO:=qA h.ob;have H:=qA (mG h);have HW:=qA h;clear h;go_enter Tryz.func44,Tryz.ntmps44
 go_wp2_with fail
 refine H.out.mono ?_;rintro _ w1 ⟨rfl,hF⟩;have hW:=(HW.out.fr0 hF).swap;have H:=qA (mG hW);have HW:=qA hW;clear hF hW;go_wp2_with fail
 refine H.out.mono ?_;rintro _ w1 ⟨rfl,hF⟩;have hW:=(HW.out.fr0 hF).swap;have H:=qA (aDC hW);have HW:=qA hW;clear hF hW;go_wp2_with fail
 refine H.out.mono ?_;rintro _ w1 ⟨rfl,hF⟩;have hW:=(HW.out.fr0 hF).swap;have H:=qA (aDC hW);have HW:=qA hW;clear hF hW;go_wp2_with fail
 refine H.out.mono ?_;rintro _ w1 ⟨rfl,hF⟩;have hW:=(HW.out.fr0 hF).swap;have H:=qA (rV hW);have H2:=qA (rV hW.swap);have H3:=qA (vQ hW);have HW:=qA hW;clear hF hW;go_wp2_with fail
 refine H.out.mono ?_;rintro _ w1 ⟨rfl,rfl⟩;go_wp2_with fail
 refine H2.out.mono ?_;rintro _ w1 ⟨rfl,rfl⟩;go_wp2_with fail
 refine H3.out.mono ?_;rintro _ w2 ⟨rfl,hF⟩;have hW:=(HW.out.fr0 hF).swap;have H:=qA (vQ hW);have HW:=qA hW;clear hF hW H2 H3;go_wp2_with fail
 refine H.out.mono ?_;rintro _ w1 ⟨rfl,hF⟩;have hW:=(HW.out.fr0 hF).swap;have H:=qA (jS hW);have HW:=qA hW;have hcf:=aKS o.m o.E o.V o.D;clear hF hW;go_wp2_with fail
 refine H.out.mono ?_;rintro _ w1 ⟨rfl,hF⟩;have hW:=(HW.out.fr0 hF).swap;have H:=qA (jS hW);have HW:=qA hW;clear hF hW;go_wp2_with fail
 refine H.out.mono ?_;rintro _ w1 ⟨rfl,hF⟩;have hW:=(HW.out.fr0 hF).swap;have H:=qA (pU hW);clear hF hW HW;go_wp2_with fail
 refine H.out.mono ?_;rintro _ w1 ⟨v1,l1,rfl,hl1,hW⟩;have H:=qA (pU hW.third);have HL1:=qA hl1;clear hW hl1 hcf;go_wp2_with fail
 refine H.out.mono ?_;rintro _ w1 ⟨v2,l2,rfl,hl2,hW⟩;have HL2:=qA hl2;have hl:=HO.out.leE;have hE:=HO.out.mE;have hlen1:l1.length=o.L.length:=by rw[<-HL1.out.1,List.length_map]
 have hlen2:l2.length=o.L.length:=by rw[<-HL2.out.1,List.length_map]
 have H:=qA (aDQ hW.third.rowV hW.rowV (by omega) (by omega));have HW:=qA (hW.drop.drop2.swap);clear hW hl2 hl hlen1 hlen2 hE;go_wp2_with fail
 refine H.out.mono ?_;rintro _ w1 ⟨b,rfl,hb,hF⟩;have hbt:b=true:=hb.2 (HL1.out.1.trans HL2.out.1.symm);subst hbt;have hW:=HW.out.fr0 hF;have H:=qA (aOO hW);clear hF hW HW HL1 HL2 hb;go_wp2_with fail
 refine H.out.mono ?_;rintro _ w1 ⟨v1,rfl,hW⟩;have H:=qA (aOO hW.third);clear hW;go_wp2_with fail
 refine H.out.mono ?_;rintro _ w1 ⟨v2,rfl,hW⟩;have hperm:[thU v2 (eX o.L),thO q o,thU v1 (eX o.L),thO p o].Perm [thO p o,thO q o,thU v1 (eX o.L),thU v2 (eX o.L)]:=by {
 refine(List.Perm.cons _ (List.Perm.cons _ (List.Perm.swap _ _ _))).trans ?_;refine(List.Perm.cons _ (List.Perm.swap _ _ _)).trans ?_;refine(List.Perm.swap _ _ _).trans ?_;refine List.Perm.cons _ ?_;refine(List.Perm.swap _ _ _).trans ?_;refine List.Perm.cons _ ?_;exact List.Perm.swap _ _ _};have hW4:Wd W w1 (thO p o::thO q o::thU v1 (eX o.L)::thU v2 (eX o.L)::ts):=hW.perm (hperm.append_right ts);have hu1:=hW4.third.rowU;have hu2:=hW4.drop.drop.drop.rowU;obtain⟨a1,c1,rfl⟩:=hu1.slice;obtain⟨a2,c2,rfl⟩:=hu2.slice;have hI:=Ob.ids_le4 HO.out;have HU:=qA (fun x (hx:x∈eX o.L)=>aSU HO.out hx);generalize eX o.L=I at *;obtain⟨n,hn⟩:∃n,n=I.length:=⟨_,rfl⟩;have HN:=qA (zI hn hI);rw[<-hn]at hW4 hI ⊢;have HW4:=qA hW4;have hbn:((n:Int) != (n:Int))=false:=by simp
 clear hW hperm hW4 hu1 hu2 hn H;go_wp2_with fail
 go_loopw [17,18,19,20,21,22,23,109] (fun _ _ _ _ _ _ _ c wr=>∃i:Nat,i<=n/\c=.int .i64 i/\Hid (Wd W wr (thO p o::thO q o::thU (.slice a1 n c1) I::thU (.slice a2 n c2) I::ts))) (fun _ _ _ _ _ _ _ c _=>n-(intOf c).toNat)
 case atStart=>exact⟨0,by omega,rfl,HW4⟩
 case round=>
  clear HW4;obtain⟨i,hi,rfl,HP⟩:=hrel;rename World=>wr
  by_cases hlt:i<n
  {
  have i1:i<I.length:=by rw[<-HN.out.1];exact hlt
  have i0:0<I.length:=by omega
  have e1:(i:Int)<n:=by omega
  have e0:(0:Int)<=i:=by omega
  have e2:(0:Int)<n:=by omega
  have e3:0<n:=by omega
  have hwi:IntKind.i64.wrap ((i:Int)+1)=((i+1:Nat):Int):=by rw[show(i:Int)+1=((i+1:Nat):Int) by omega];exact zG _ (by omega)
  obtain⟨x0,hx0⟩:∃x,x=I[0]'i0:=⟨_,rfl⟩;obtain⟨xi,hxi⟩:∃x,x=I[i]'i1:=⟨_,rfl⟩;have hb0:=HU.out x0 (hx0▸List.getElem_mem _);have hbi:=HU.out xi (hxi▸List.getElem_mem _);obtain⟨b1,c1', ev1,hl1,hk1⟩:=HP.out.third.rowU.at i0;obtain⟨b2,c2', ev2,hl2,hk2⟩:=HP.out.drop.drop.drop.rowU.at i0;simp only[qP]at ev1 ev2;obtain⟨rfl,hm1,hm2⟩:=ev1;obtain⟨rfl,hm3,hm4⟩:=ev2;clear hl1 hk1 hl2 hk2 hm1 hm2 hm3 hm4;have HCl:=qA (show ∀w', Wd W w' (thO p o::thO q o::thU (.slice (some ⟨b1,0,none⟩) n c1) I::thU (.slice (some ⟨b2,0,none⟩) n c2) I::ts)->w'.cell? ⟨b1,0,none⟩=some (.int .u64 (x0:Nat))/\w'.cell? ⟨b1,i,none⟩=some (.int .u64 (xi:Nat))/\w'.cell? ⟨b2,i,none⟩=some (.int .u64 (xi:Nat)) from fun w' h=>by
    obtain⟨b,c,ev,_,k0⟩:=h.third.rowU.at i0;obtain⟨b', c', ev', _,k1⟩:=h.third.rowU.at i1;obtain⟨b'', c'', ev'', _,k2⟩:=h.drop.drop.drop.rowU.at i1;simp only[qP,qI,Addr.mk.injEq,and_true]at ev ev' ev'';rw[<-ev.1]at k0;rw[<-ev'.1]at k1;rw[<-ev''.1]at k2;rw[hx0,hxi];exact⟨k0,k1,k2⟩)
  have HUa:=qA (show ∀w', Wd W w' (thO p o::thO q o::thU (.slice (some ⟨b1,0,none⟩) n c1) I::thU (.slice (some ⟨b2,0,none⟩) n c2) I::ts)->Calls Tryz.prog 81 #[cJ p,.int .u64 x0,.int .u64 xi] w' (fun e w'' =>e=.returned (.tuple #[.int .i64 (sY o.L x0 xi),.bool (pT o.L x0 xi),.int .i64 (kT o.L x0 xi)])/\Wd W w'' (thO p o::thO q o::thU (.slice (some ⟨b1,0,none⟩) n c1) I::thU (.slice (some ⟨b2,0,none⟩) n c2) I::ts)) from fun w' h=>aDB h x0 xi hb0 hbi);have HUb:=qA (show ∀w', Wd W w' (thO p o::thO q o::thU (.slice (some ⟨b1,0,none⟩) n c1) I::thU (.slice (some ⟨b2,0,none⟩) n c2) I::ts)->Calls Tryz.prog 81 #[cJ q,.int .u64 x0,.int .u64 xi] w' (fun e w'' =>e=.returned (.tuple #[.int .i64 (sY o.L x0 xi),.bool (pT o.L x0 xi),.int .i64 (kT o.L x0 xi)])/\Wd W w'' (thO q o::thO p o::thU (.slice (some ⟨b1,0,none⟩) n c1) I::thU (.slice (some ⟨b2,0,none⟩) n c2) I::ts)) from fun w' h=>aDB h.swap x0 xi hb0 hbi);generalize sY o.L x0 xi=t0 at *;generalize pT o.L x0 xi=t1 at *;generalize kT o.L x0 xi=t2 at *;clear hx0 hxi hb0 hbi i1 i0;go_wp2_with fail
  refine dB (fun w' =>Wd W w' (thO p o::thO q o::thU (.slice (some ⟨b1,0,none⟩) n c1) I::thU (.slice (some ⟨b2,0,none⟩) n c2) I::ts)) (by kernel_rfl) (by kernel_rfl) (HP.out.fr0 ((Fr.refl [] _).drew)) ?_;iterate 3 (refine aH (by kernel_rfl) (fun KK hK=>?_);go_simp;refine hK.out _ ?_;clear hK KK)
  refine bC (by kernel_rfl) (.int .u64 (x0:Nat)) (fun w' hw' =>?_) ?_
  {
  have cx:=(HCl.out w' hw').1;go_simp;first|exact hw' | exact⟨rfl,hw'⟩|skip};iterate 3 (refine aH (by kernel_rfl) (fun KK hK=>?_);go_simp;refine hK.out _ ?_;clear hK KK)
  refine bC (by kernel_rfl) (.int .u64 (xi:Nat)) (fun w' hw' =>?_) ?_
  {
  have cx:=(HCl.out w' hw').2.1;go_simp;first|exact hw' | exact⟨rfl,hw'⟩|skip};refine bC (by kernel_rfl) (.tuple #[.int .i64 t0,.bool t1,.int .i64 t2]) (fun w' hw' =>?_) ?_
  {
  go_simp;refine(HUa.out w' hw').mono ?_;rintro _ w6 ⟨rfl,h1⟩;exact⟨rfl,h1⟩};iterate 7 (refine aH (by kernel_rfl) (fun KK hK=>?_);go_simp;refine hK.out _ ?_;clear hK KK)
  refine gF ?_;intro w5 hf5;have HP5:=qA hf5;clear hf5 HP;go_wp2_with fail
  refine dB (fun w' =>Wd W w' (thO p o::thO q o::thU (.slice (some ⟨b1,0,none⟩) n c1) I::thU (.slice (some ⟨b2,0,none⟩) n c2) I::ts)) (by kernel_rfl) (by kernel_rfl) (HP5.out.fr0 ((Fr.refl [] _).drew)) ?_;iterate 3 (refine aH (by kernel_rfl) (fun KK hK=>?_);go_simp;refine hK.out _ ?_;clear hK KK)
  refine bC (by kernel_rfl) (.int .u64 (x0:Nat)) (fun w' hw' =>?_) ?_
  {
  have cx:=(HCl.out w' hw').1;go_simp;first|exact hw' | exact⟨rfl,hw'⟩|skip};iterate 3 (refine aH (by kernel_rfl) (fun KK hK=>?_);go_simp;refine hK.out _ ?_;clear hK KK)
  refine bC (by kernel_rfl) (.int .u64 (xi:Nat)) (fun w' hw' =>?_) ?_
  {
  have cx:=(HCl.out w' hw').2.1;go_simp;first|exact hw' | exact⟨rfl,hw'⟩|skip};refine bC (by kernel_rfl) (.tuple #[.int .i64 t0,.bool t1,.int .i64 t2]) (fun w' hw' =>?_) ?_
  {
  go_simp;refine(HUb.out w' hw').mono ?_;rintro _ w6 ⟨rfl,h1⟩;exact⟨rfl,h1.swap⟩};iterate 7 (refine aH (by kernel_rfl) (fun KK hK=>?_);go_simp;refine hK.out _ ?_;clear hK KK)
  refine gF ?_;intro w6 hf6;have HP6:=qA hf6;clear hf6 HP5;have hb1:(t1 != t1)=false:=by simp
  go_wp2_with fail
  refine dB (fun w' =>Wd W w' (thO p o::thO q o::thU (.slice (some ⟨b1,0,none⟩) n c1) I::thU (.slice (some ⟨b2,0,none⟩) n c2) I::ts)) (by kernel_rfl) (by kernel_rfl) (HP6.out.fr0 ((Fr.refl [] _).drew)) ?_;iterate 3 (refine aH (by kernel_rfl) (fun KK hK=>?_);go_simp;refine hK.out _ ?_;clear hK KK)
  refine bC (by kernel_rfl) (.int .u64 (xi:Nat)) (fun w' hw' =>?_) ?_
  {
  have cx:=(HCl.out w' hw').2.1;go_simp;first|exact hw' | exact⟨rfl,hw'⟩|skip};iterate 3 (refine aH (by kernel_rfl) (fun KK hK=>?_);go_simp;refine hK.out _ ?_;clear hK KK)
  refine bC (by kernel_rfl) (.int .u64 (xi:Nat)) (fun w' hw' =>?_) ?_
  {
  have cx:=(HCl.out w' hw').2.2;go_simp;first|exact hw' | exact⟨rfl,hw'⟩|skip};iterate 16 (refine aH (by kernel_rfl) (fun KK hK=>?_);go_simp;refine hK.out _ ?_;clear hK KK)
  refine gF ?_;intro w7 hf7;have HP7:=qA hf7;clear hf7 HP6;go_wp2_with fail
  go_roundw
  case rel=>exact⟨i+1,by omega,by go_num,HP7⟩
  case measure=>simp[intOf];omega}
  {
  obtain rfl:i=n:=by omega
  go_wp2
  go_ret;exact⟨rfl,HP.out.perm (List.Perm.refl _) |>.drop3 |>.drop3⟩}
end Go.Proofs.YtjdgpcjbgjnahaaGreatDoor
