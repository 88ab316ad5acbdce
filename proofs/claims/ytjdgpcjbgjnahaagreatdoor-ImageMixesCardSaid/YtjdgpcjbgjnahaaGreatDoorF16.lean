/- A window: rows that are compared. -/
import Derived.Test.YtjdgpcjbgjnahaaGreatDoorF15
import Derived.Test.YtjdgpcjbgjnahaaGreatDoorF4
import Derived.Lib.SmallJoins
import Derived.Laws.BytesArg
import Derived.Test.YtjdgpcjbgjnahaaGreatDoorF14
import Derived.Test.YtjdgpcjbgjnahaaGreatDoorF1
import Derived.Test.YtjdgpcjbgjnahaaGreatDoorF13
import Derived.Test.YtjdgpcjbgjnahaaGreatDoorF3
set_option maxRecDepth 10000
set_option maxHeartbeats 1600000
set_option linter.unusedSimpArgs false
set_option linter.unusedVariables false
/- The window of an image: the walk of Load. -/
namespace Go.Proofs.YtjdgpcjbgjnahaaGreatDoor
open Go.RowKit
def LdE(W w' :World)(ts:List Th)(R:Int×Option Ob)(e:Ending):Prop:=match R.2 with
  | none=>e=.returned (.tuple #[.pointer none,.int .i64 R.1])/\Wd W w' ts
  | some o=>∃p,e=.returned (.tuple #[cE p,.int .i64 R.1])/\Wd W w' (thO p o::ts)
def hdB(a b c d e:Nat):Bool:=decide ([a,b,c,d,e]=lL)
theorem Tryz.infoy5:∃i,Tryz.prog.info? 5=some i:=qW.1 (by kernel_rfl)
@[go_sem] theorem aZB(a b c d e:Nat)(w:World):(Op.equalIn 10000 91 (.agg #[.int .u8 a,.int .u8 b,.int .u8 c,.int .u8 d,.int .u8 e]) (.agg #[.int .u8 83,.int .u8 69,.int .u8 69,.int .u8 80,.int .u8 1])).run Tryz.prog w=.ok (hdB a b c d e) w:=by
 obtain⟨i,hi⟩:=Tryz.infoy5;have u3:=Tryz.underlying5;have a3:=Tryz.isAgg5;have z3:=Tryz.sizeOf5;have hc:Tryz.prog.cellsOf 5=1:=by kernel_rfl
 rw[show(10000:Nat)=9999+1 from rfl,run_equalIn_array w 9999 _ _ Tryz.underlying91 hi,hc];have r2:List.range 5=[0,1,2,3,4]:=rfl;rw[r2];simp only[Op.eqItems];go_simp;have e1:∀(x y:Nat),((x:Int) == (y:Int))=(x == y):=fun x y=>by rw[Bool.eq_iff_iff];simp only[beq_iff_eq];omega
 have k1:=e1 a 83;have k2:=e1 b 69;have k3:=e1 c 69;have k4:=e1 d 80;have k5:=e1 e 1;unfold hdB lL;by_cases h1:a=83<;>by_cases h2:b=69<;>by_cases h3:c=69<;>by_cases h4:d=80<;>by_cases h5:e=1<;>simp_all<;>omega
@[go_sem] theorem aYI(op:BinOp)(x y:Operand)(xs ys:Array Value)(w:World):(eqGuard op 91 x y (.agg xs) (.agg ys)).run Tryz.prog w=.ok () w:=run_eqGuard_agg w op 91 x y xs ys (by kernel_rfl)
theorem aUD{k q:Nat}(h:k<=1073741824)(hq:q=k/32):wrap64 ((k:Int)/32)=(q:Int):=by
 rw[show(k:Int)/32=(q:Int) by omega];exact IntWalk.wrap64_in _ ⟨by omega,by omega⟩
theorem aJA{q:Nat}(h:q<18446744073709551616):IntKind.u64.wrap (q:Int)=q:=by rw[IntKind.wrap_u64];omega
theorem aUE{W w:World}{ts:List Th}{a:Option Addr}{l:List Nat}{n cap:Nat}(h:Wd W w ts)(hL:dV W)(hr:RdB w a l)(hb:Byt l)(hn:l.length=n)(hl:n<=1073741824)(hc:n<=cap):
    Calls Tryz.prog 21 #[.slice a n cap] w fun e w' =>LdE W w' ts (fY l) e:=by
  by_cases h65:n<65
  · rw [aEK (by omega)]
    have HW:=qA h;have d1:decide ((n:Int)<65)=true:=qG (by omega);have d2:decide (n<65)=true:=qG h65;clear h hL hr hb hn hl hc h65;go_enter Tryz.func21,Tryz.ntmps21
    go_wp2_with fail
    refine eZ (fun w' =>Fr [] w w') (by kernel_rfl) (by kernel_rfl) ((Fr.refl [] w).drew) ?_;iterate 4 (refine aR (by kernel_rfl) (fun KK hK=>?_);go_simp;refine hK.out _ ?_;clear hK KK)
    iterate 5 (refine tX (by kernel_rfl) ?_)
    iterate 1 (refine aR (by kernel_rfl) (fun KK hK=>?_);go_simp;refine hK.out _ ?_;clear hK KK)
    refine kX ?_;intro w5 hf5;have HF5:=qA hf5;clear hf5;go_wp2_with fail
    go_ret2;exact⟨rfl,HW.out.fr0 HF5.out⟩
  · obtain ⟨m, hm⟩ : ∃ m, n = m + 4 := ⟨n - 4, by omega⟩
    have hm61:61<=m:=by omega
    obtain⟨b,off,rfl,hbl,hq⟩:=hr 0 (by omega);clear hq;have d1:decide ((n:Int)<65)=false:=qF (by omega);have d2:decide (n<65)=false:=qF h65;obtain⟨x0,hx0⟩:∃x,x=l[0]'(by omega):=⟨_,rfl⟩;obtain⟨x1,hx1⟩:∃x,x=l[1]'(by omega):=⟨_,rfl⟩;obtain⟨x2,hx2⟩:∃x,x=l[2]'(by omega):=⟨_,rfl⟩;obtain⟨x3,hx3⟩:∃x,x=l[3]'(by omega):=⟨_,rfl⟩;obtain⟨x4,hx4⟩:∃x,x=l[4]'(by omega):=⟨_,rfl⟩;have h5:l.take 5=[x0,x1,x2,x3,x4]:=by
      rw[hx0,hx1,hx2,hx3,hx4];match l,hn,hm,hm61 with
      | y0::y1::y2::y3::y4::l,_,_,_=>rfl
      | [],h,_,_=>simp at h;omega
      | [_],h,_,_=>simp at h;omega
      | [_,_],h,_,_=>simp at h;omega
      | [_,_,_],h,_,_=>simp at h;omega
      | [_,_,_,_],h,_,_=>simp at h;omega
    have cc:∀i (hi:i<l.length),w.cell? ⟨b,off+i,none⟩=some (.int .u8 (l[i]'hi:Nat)):=fun i hi=>by
      obtain⟨b', off', e,_,hc⟩:=hr i hi;simp only[qJ,Addr.mk.injEq,and_true]at e;obtain⟨rfl,rfl⟩:=e;exact hc
    have c0:=cc 0 (by omega);have c1:=cc 1 (by omega);have c2:=cc 2 (by omega);have c3:=cc 3 (by omega);have c4:=cc 4 (by omega);rw[<-hx0,Nat.add_zero]at c0;rw[<-hx1]at c1;rw[<-hx2]at c2;rw[<-hx3]at c3;rw[<-hx4]at c4;clear cc hx0 hx1 hx2 hx3 hx4;have hat:∀w,(Instr.arrayAt 91 (.slice (some ⟨b,off,none⟩) n cap)).run Tryz.prog w=.ok (.pointer (some ⟨b,off,none⟩)) w:=fun w=>run_arrayAt w 91 _ 5 _ n cap Tryz.underlying91 (by omega);obtain⟨hd,hhd⟩:∃hd,hd=hdB x0 x1 x2 x3 x4:=⟨_,rfl⟩;have HHd:=qA (zJ hhd h5);have HW:=qA h;have HR:=qA (zJ hr (zJ hb hn));have HL:=qA hL;have HC:=qA (zJ hm (zJ hl (zJ hc hbl)));clear h hr hb hn hL hc hbl h65 hm hl h5 hhd;go_enter Tryz.func21,Tryz.ntmps21
    go_wp2_with fail
    refine eZ (fun w' =>Fr [] w w') (by kernel_rfl) (by kernel_rfl) ((Fr.refl [] w).drew) ?_;iterate 6 (refine aR (by kernel_rfl) (fun KK hK=>?_);go_simp;(try simp only[hat]);go_simp;refine hK.out _ ?_;clear hK KK)
    refine cC (by kernel_rfl) (.agg #[.int .u8 x0,.int .u8 x1,.int .u8 x2,.int .u8 x3,.int .u8 x4]) (fun w' hw' =>?_) ?_
    · have c0 := hw'.cell c0 (by simp)
      have c1:=hw'.cell c1 (by simp);have c2:=hw'.cell c2 (by simp);have c3:=hw'.cell c3 (by simp);have c4:=hw'.cell c4 (by simp);go_simp;first|exact hw' | exact⟨rfl,hw'⟩|skip
    refine cC (by kernel_rfl) (.agg #[.int .u8 83,.int .u8 69,.int .u8 69,.int .u8 80,.int .u8 1]) (fun w' hw' =>?_) ?_
    · go_simp
      refine(aPJ w').mono ?_;rintro _ w6 ⟨rfl,h1⟩;exact⟨rfl,hw'.trans' h1⟩
    iterate 2 (refine aR (by kernel_rfl) (fun KK hK=>?_);go_simp;refine hK.out _ ?_;clear hK KK)
    refine kX ?_;intro w5 hf5;have HF5:=qA hf5;rw[<-HHd.out.1];clear hf5 c0 c1 c2 c3 c4 hat d1 d2;cases hd with
    | false=>
      go_wp2_with fail
      go_ret2;rw[aEL (l:=l) (by rw[HHd.out.2];exact of_decide_eq_false HHd.out.1.symm)];exact⟨rfl,HW.out.fr0 HF5.out⟩
    | true=>
      have HSt:=qA (aEJ (l:=l) (HR.out.2.2.trans HC.out.1) hm61 (by rw[HHd.out.2];exact of_decide_eq_true HHd.out.1.symm) rfl rfl);clear HHd;obtain⟨B,hB⟩:∃B,B=l.take m:=⟨_,rfl⟩;obtain⟨T,hT⟩:∃T,T=l.drop m:=⟨_,rfl⟩;rw[<-hB,<-hT]at HSt;have hBl:B.length=m:=by rw[hB,List.length_take,HR.out.2.2,HC.out.1];omega
      have hTl:T.length=4:=by rw[hT,List.length_drop,HR.out.2.2,HC.out.1];omega
      have hBr:RdB w (some ⟨b,off,none⟩) B:=by rw[hB];exact HR.out.1.take m
      have hTr:RdB w (some ⟨b,off+m,none⟩) T:=by rw[hT];exact HR.out.1.drop m
      have hBb:Byt B:=by rw[hB];exact HR.out.2.1.take m
      have hTb:Byt T:=by rw[hT];exact HR.out.2.1.drop m
      have HW5:=qA (HW.out.fr0 HF5.out);have hsum:=tG (cap:=cap) (hBr.fr HF5.out) hBb (by rw[hBl];have:=HC.out;omega);have hget:=aVS (cap:=cap-m) (hTr.fr HF5.out) hTb (by omega);rw[hBl]at hsum;rw[hTl]at hget;have hv:=jW hTb;rw[hTl]at hv;have hcr:=oT hBb;have HSum:=qA hsum;have HGet:=qA hget;have HB:=qA (zJ hBr (zJ hBb hBl));generalize aP T=s1 at *;generalize crc B=s2 at *;have hw1:IntKind.i64.wrap ((n:Int)-4)=(m:Int):=by
        rw[show(n:Int)-4=(m:Int) by have:=HC.out;omega];exact zH _ (by have:=HC.out;omega)
      have hw2:IntKind.u64.wrap (s2:Int)=s2:=by rw[IntKind.wrap_u64];omega
      have e1:(0:Int)<=m:=by omega
      have e2:(m:Int)<=cap:=by have:=HC.out;omega
      have e3:(m:Int)<=n:=by have:=HC.out;omega
      have e4:(n:Int)<=cap:=by have:=HC.out;omega
      have e5:¬cap=m:=by have:=HC.out;omega
      have e6:n-m=4:=by have:=HC.out;omega
      have e7:¬cap=0:=by have:=HC.out;omega
      clear hsum hget hBr hTr hBb hTb hv hcr hB hT hBl hTl HW HR;go_wp2_with fail
      refine HGet.out.mono ?_;rintro _ w6 ⟨rfl,rfl⟩;clear HGet;go_wp2_with fail
      refine HSum.out.mono ?_;rintro _ w7 ⟨rfl,rfl⟩;clear HSum;by_cases hs:s1=s2
      · subst hs
        have f1:(37:Int)<=m:=by omega
        have f2:(37:Int)<=cap:=by omega
        have f3:¬cap=37:=by have:=HC.out;omega
        have HSt:Hid (fY l=_):=qA (HSt.out.trans (qC (fun h=>h rfl)));have hRb:=Blk.new w7 [.slice (some ⟨b,off+37,none⟩) (m-37) (cap-37)] 22;have HA:=qA ((Fr.refl [] w7).alloc (.cells #[.slice (some ⟨b,off+37,none⟩) (m-37) (cap-37)] 22));have hRst:Rst (w7.alloc (.cells #[.slice (some ⟨b,off+37,none⟩) (m-37) (cap-37)] 22)) w7.heap.size b (off+37) (m-37) (cap-37) (B.drop 37):=by
          have hc:=HC.out;have hs:=HW5.out;refine⟨hRb,(HB.out.1.drop 37).fr ?_,HB.out.2.1.drop 37,by rw[List.length_drop,HB.out.2.2],by omega,?_⟩
          · exact HF5.out.alloc _
          · have:=HF5.out.size;omega
        have HRs:=qA hRst;have HAl:=qA (((Fr.refl [] w7).alloc (.cells #[.slice (some ⟨b,off+37,none⟩) (m-37) (cap-37)] 22)));clear hRb hRst HA;have hb37:=HB.out.2.1.drop 37;have b1:=iA hb37;have b2:=iA (hb37.drop 8);have b3:=iA ((hb37.drop 8).drop 8);have z1:=(pO HRs.out (by omega));obtain⟨R,hR⟩:∃R,R=(((B.drop 37).drop 8).drop 8).drop 8:=⟨_,rfl⟩;rw[<-hR]at HSt;have HRb:=qA (show Byt R/\R.length=m-61 by
          rw[hR];exact⟨((hb37.drop 8).drop 8).drop 8,by simp only[List.length_drop,HB.out.2.2];omega⟩)
        have hR2:=qA hR;clear hR hb37;obtain⟨nv,hnv⟩:∃nv,nv=aP ((B.drop 37).take 8):=⟨_,rfl⟩;rw[<-hnv]at z1 b1 HSt;have hwn:=kR b1;have hnz:=jA nv b1;generalize bU nv=nz at *;have HN1:=qA z1;clear z1 hnv b1;go_wp2_with fail
        refine HN1.out.mono ?_;rintro _ w8 ⟨rfl,hr8,hf8⟩;clear HN1;have z2:=(pO hr8 (by omega));obtain⟨av,hav⟩:∃av,av=aP (((B.drop 37).drop 8).take 8):=⟨_,rfl⟩;rw[<-hav]at z2 b2 HSt;have HN2:=qA z2;have HF8:=qA (HAl.out.trans hf8 (fun q hq=>.inr (by simp only[qH]at hq;omega)));clear z2 hav hr8 hf8 HAl HRs;go_wp2_with fail
        refine HN2.out.mono ?_;rintro _ w9 ⟨rfl,hr9,hf9⟩;clear HN2;have z3:=(pO hr9 (by omega));obtain⟨gv,hgv⟩:∃gv,gv=aP ((((B.drop 37).drop 8).drop 8).take 8):=⟨_,rfl⟩;rw[<-hgv]at z3 b3 HSt;have HN3:=qA z3;have HF9:=qA (HF8.out.trans hf9 (fun q hq=>.inr (by simp only[qH]at hq;omega)));clear z3 hgv hr9 hf9 HF8;go_wp2_with fail
        refine HN3.out.mono ?_;rintro _ w10 ⟨rfl,hr10,hf10⟩;have HF10:=qA (HF9.out.trans hf10 (fun q hq=>.inr (by simp only[qH]at hq;omega)));obtain⟨k,hk⟩:∃k,k=m-61:=⟨_,rfl⟩;obtain⟨c3,hc3⟩:∃c3,c3=cap-61:=⟨_,rfl⟩;obtain⟨o3,ho3⟩:∃o3,o3=off+61:=⟨_,rfl⟩;rw[<-hR2.out,show m-37-8-8-8=k by omega,show cap-37-8-8-8=c3 by omega,show off+37+8+8+8=o3 by omega]at hr10;rw[<-hk]at HSt HRb;have hrc:=hr10.1.cell 0;simp only[zK]at hrc;have HR10:=qA hr10;have HK:=qA (zJ hk (zJ hc3 ho3));clear HN3 HF9 hr10 hf10 hR2 hk hc3 ho3 hwn;by_cases hag:av<gv
        · have d1 : decide ((av : Int) < gv) = true := qG (by omega)
          have d2:decide (av<gv)=true:=qG hag;rw[qD (.inl hag)]at HSt;go_wp2_with fail
          go_ret2;rw[HSt.out];exact⟨rfl,HW5.out.fr0 HF10.out⟩
        · have d1 : decide ((av : Int) < gv) = false := qF (by omega)
          have d2:decide (av<gv)=false:=qF hag;obtain⟨cnt,hcnt⟩:∃cnt,cnt=av-gv:=⟨_,rfl⟩;have hws:IntKind.u64.wrap ((av:Int)-gv)=(cnt:Int):=by rw[IntKind.wrap_u64];omega
          rw[<-hcnt]at HSt;have hcb:cnt<18446744073709551616:=by omega
          have HCn:=qA hcnt;clear hcnt;obtain⟨q,hq⟩:∃q,q=k/32:=⟨_,rfl⟩;have hkb:k<=1073741824:=by have:=HK.out.1;have:=HC.out;omega
          have hw7:=aJA (q:=q) (by omega);have HKd:=qA (aUD hkb hq);rw[<-hq]at HSt;by_cases hm:k%32=0
          · have hm' : (k : Int) % 32 = 0 := by omega
            have hkq:k=32*q:=by omega
            have HKq:=qA (zJ hkq hkb);clear hq hkb hkq;by_cases hqc:q=cnt
            · subst hqc
              have hx:((q:Int) != (q:Int))=false:=by simp
              rw[qC (by omega)]at HSt;have hFw:=HF5.out.trans' HF10.out;have hr5:=(HB.out.1.drop 5).fr hFw;have hb5:=HB.out.2.1.drop 5;have hl5:(B.drop 5).length=m-5:=by rw[List.length_drop,HB.out.2.2]
              have hLC:dV w10:=HL.out.fr (HW5.out.fr0 HF10.out).frm (by simp);have hv8:∀i,i+8<=32->aP (sub (B.drop 5) i 8)<18446744073709551616:=fun i hi=>by
                have h1:=jW (rT hb5 i 8);rw[rS (by rw[hl5];omega)]at h1;exact h1
              have h0:=jA _ (hv8 0 (by omega));have h1:=jA _ (hv8 8 (by omega));have h2:=jA _ (hv8 16 (by omega));have h3:=jA _ (hv8 24 (by omega));have hgo:=aYF (cap:=cap-5) hr5 hb5 hl5 (by omega) (by omega) hLC;have hgn:=aYG (cap:=cap-5) hr5 hb5 hl5 (by omega) (by omega) hLC;generalize bU (aP (sub (B.drop 5) 0 8))=m0 at *;generalize bU (aP (sub (B.drop 5) 8 8))=E0 at *;generalize bU (aP (sub (B.drop 5) 16 8))=V0 at *;generalize bU (aP (sub (B.drop 5) 24 8))=D0 at *;clear hFw hr5 hb5 hl5 hLC hv8;cases hcf:eU m0 E0 V0 D0 with
              | false=>
                have HG:=qA (hgn (zM hcf));rw[aIZ (.inr (.inl hcf))]at HSt;clear hgo hgn hcf;have hkd:=HKd.out;go_wp2_with fail
                clear hkd;refine HG.out.mono ?_;rintro _ w11 ⟨rfl,hF⟩;have HF11:=qA (HF10.out.trans' hF);clear hF;go_wp2_with fail
                go_ret2;rw[HSt.out];exact⟨rfl,HW5.out.fr0 (HF11.out.alloc _)⟩
              | true=>
                have HG:=qA (hgo (yZ hcf));have HCf:=qA hcf;have hcc:=cJ.1 hcf;clear hgo hgn hcf;obtain⟨E,rfl⟩:=Int.eq_ofNat_of_zero_le (show 0<=E0 by omega);have hwE:=aJA (q:=E) (by omega);by_cases hqE:E<q
                · rw [aIZ (.inr (.inr (.inl (by rw [jK]; omega))))] at HSt
                  have g1:decide ((q:Int)>E)=true:=qG (by omega);have g2:decide (E<q)=true:=qG hqE;have hkd:=HKd.out;go_wp2_with fail
                  clear hkd;refine HG.out.mono ?_;rintro _ w11 ⟨rfl,hF⟩;have HF11:=qA (HF10.out.trans' hF);clear hF;have hbk:=Blk.new w11 [.int .i64 m0,.int .i64 E,.int .i64 V0,.int .i64 D0] 31;have r0:=hbk.cell 0;have r1:=hbk.cell 1;have r2:=hbk.cell 2;have r3:=hbk.cell 3;simp only[zK,zL]at r0 r1 r2 r3;clear hbk;go_wp2_with fail
                  go_ret2;rw[HSt.out];exact⟨rfl,HW5.out.fr0 (HF11.out.alloc _)⟩
                · have g1 : decide ((q : Int) > E) = false := qF (by omega)
                  have g2:decide (E<q)=false:=qF hqE;have hq0:q<=16384:=by omega
                  have hmk:=fun w' =>xT q w' hq0;have hkd:=HKd.out;go_wp2_with fail
                  clear hkd;refine HG.out.mono ?_;rintro _ w11 ⟨rfl,hF⟩;have HF11:=qA (HF10.out.trans' hF);have hbk:=Blk.new w11 [.int .i64 m0,.int .i64 E,.int .i64 V0,.int .i64 D0] 31;have r0:=hbk.cell 0;have r1:=hbk.cell 1;have r2:=hbk.cell 2;have r3:=hbk.cell 3;simp only[zK,zL]at r0 r1 r2 r3;have hrl:=HRb.out.2;have hkq:=HKq.out.1
                  have HP0:Hid (Fr [] w7 ((w11.alloc (.cells #[.int .i64 m0,.int .i64 E,.int .i64 V0,.int .i64 D0] 31)).alloc (.cells (nG q) 72)) /\
                      Blk ((w11.alloc (.cells #[.int .i64 m0,.int .i64 E,.int .i64 V0,.int .i64 D0] 31)).alloc (.cells (nG q) 72)) (w11.heap.size+1) 72 (fC (dS 0 R)++nF (q-0)) /\
                      Rst ((w11.alloc (.cells #[.int .i64 m0,.int .i64 E,.int .i64 V0,.int .i64 D0] 31)).alloc (.cells (nG q) 72)) w7.heap.size b (o3+32*0) (32*q-32*0) (c3-32*0) (R.drop (32*0)) /\
                      Blk ((w11.alloc (.cells #[.int .i64 m0,.int .i64 E,.int .i64 V0,.int .i64 D0] 31)).alloc (.cells (nG q) 72)) w11.heap.size 31 [.int .i64 m0,.int .i64 E,.int .i64 V0,.int .i64 D0]):=qA (by
                    have hF2:Fr [] w11 ((w11.alloc (.cells #[.int .i64 m0,.int .i64 E,.int .i64 V0,.int .i64 D0] 31)).alloc (.cells (nG q) 72)):=((Fr.refl [] w11).alloc _).alloc _;refine⟨HF11.out.trans' hF2,?_,?_,((Fr.refl [] _).alloc _).blk hbk (by simp)⟩
                    · have k1 := aPQ (w11.alloc (.cells #[.int .i64 m0, .int .i64 E, .int .i64 V0, .int .i64 D0] 31)) q
                      rw[World.size_alloc]at k1;exact k1
                    · have k2 := HR10.out.fr (hF.trans' hF2) (by simp) (by simp)
                      rw[hkq]at k2;exact k2)
                  have hrb:w7.heap.size<w11.heap.size:=by
                    have e1:=HR10.out.1.lt;have e2:=hF.size;omega
                  have hbw:b<w11.heap.size:=by
                    have e1:=HF5.out.size;have e2:=HF11.out.size;have e3:=HC.out;omega
                  clear hbk hF HG;go_wp2_with fail
                  clear r0 r1 r2 r3;go_loopw [14,93] (fun c1 c2 wr=>∃i:Nat,i<=q/\c2=.int .i64 i/\Hid (Fr [] w7 wr/\Blk wr (w11.heap.size+1) 72 (fC (dS i R)++nF (q-i))/\Rst wr w7.heap.size b (o3+32*i) (32*q-32*i) (c3-32*i) (R.drop (32*i))/\Blk wr w11.heap.size 31 [.int .i64 m0,.int .i64 E,.int .i64 V0,.int .i64 D0])) (fun _ c _=>q-(intOf c).toNat)
                  case atStart=>exact⟨0,by omega,rfl,HP0⟩
                  case round=>
                    clear HP0;obtain⟨i,hi,rfl,HP⟩:=hrel;rename World=>wr
                    by_cases hlt:i<q
                    · have hi1 : (i : Int) < q := by omega
                      have hi0:(0:Int)<=i:=by omega
                      have hwi:IntKind.i64.wrap ((i:Int)+1)=((i+1:Nat):Int):=by rw[show(i:Int)+1=((i+1:Nat):Int) by omega];exact zH _ (by omega)
                      have hbd:=(HRb.out.1).drop (32*i);have b1:=iA hbd;have b2:=iA (hbd.drop 8);have b3:=iA ((hbd.drop 8).drop 8);have b4:=iA (((hbd.drop 8).drop 8).drop 8);have hsnoc:=tJ i R;have hrl2:=jK i R;have hPr:=HP.out.2.2.1;have hz:q-i=(q-(i+1))+1:=by omega
                      have hS:=aPP (dS i R) (q-(i+1)) (recAt (R.drop (32*i)));have hA:=fun j hj=>aUC (dS i R) (q-(i+1)) j hj;rw[<-hsnoc]at hS;simp only[recAt]at hS;have hPb:=HP.out.2.1;rw[hz]at hPb;have hD:R.drop (32*(i+1))=(((((R.drop (32*i)).drop 8).drop 8).drop 8).drop 8):=by
                        simp only[List.drop_drop];congr 1
                      generalize fC (dS i R)++nF (q-(i+1)+1)=S at *;rw[hrl2]at hS hA;have HSt2:=qA hS;have HD:=qA hD;have HPf:=qA (zJ HP.out.1 HP.out.2.2.2);clear hsnoc hrl2 hbd hS hD HP;have hlen1:8<=32*q-32*i:=by omega
                      have z1:=pO hPr hlen1;obtain⟨v1,hv1⟩:∃v,v=aP ((R.drop (32*i)).take 8):=⟨_,rfl⟩;rw[<-hv1]at z1 b1;have HN1:=qA z1;clear z1 hPr;have HV1:=qA hv1;clear hv1;go_wp2_with fail
                      refine HN1.out.mono ?_;rintro _ w12 ⟨rfl,hr12,hf12⟩;clear HN1;have z1:=pO hr12 (by omega);obtain⟨v2,hv2⟩:∃v,v=aP (((R.drop (32*i)).drop 8).take 8):=⟨_,rfl⟩;rw[<-hv2]at z1 b2;have HN1:=qA z1;have HF12:=qA hf12;have HV2:=qA hv2;clear z1 hr12 hf12 hv2;go_wp2_with fail
                      refine HN1.out.mono ?_;rintro _ w13 ⟨rfl,hr13,hf13⟩;clear HN1;have hrq:w7.heap.size≠w11.heap.size+1:=by omega
                      have hbq:b≠w11.heap.size+1:=by omega
                      have hb13:=hf13.blk (HF12.out.blk hPb (by simp only[qH];omega)) (by simp only[qH];omega);have hb14:=(hb13.set (i*4) (.int .u64 (v1:Nat))).set (i*4+1) (.int .u64 (v2:Nat));have hF14:Fr [w11.heap.size+1] w13 ((w13.setCell ⟨w11.heap.size+1,i*4,none⟩ (.int .u64 (v1:Nat))).setCell ⟨w11.heap.size+1,i*4+1,none⟩ (.int .u64 (v2:Nat))):=((Fr.refl _ _).setCell _ _ (.inl (by simp))).setCell _ _ (.inl (by simp));have hr14:=hr13.fr hF14 (by simpa using hrq) (by simpa using hbq);have k0:=(hb13.cell (i*4+0)).trans (hA 0 (by decide));have k1:=(hb13.cell (i*4+1)).trans (hA 1 (by decide));have z0:=hb13.frozen (i*4);have z1:=hb13.frozen (i*4+1);simp only[zK,zL,Nat.add_zero]at k0 k1;have HB14:=qA hb14;have HF13:=qA (HF12.out.trans hf13 (fun q hq=>.inl (by simpa using hq)));have HF14:=qA hF14;have n1:=pO hr14 (by omega);obtain⟨v3,hv3⟩:∃v,v=aP ((((R.drop (32*i)).drop 8).drop 8).take 8):=⟨_,rfl⟩;rw[<-hv3]at n1 b3;have hwz:=kR b3;obtain⟨y3,hy3⟩:∃y,y=bU v3:=⟨_,rfl⟩;rw[<-hy3]at hwz;have HN1:=qA n1;have HV3:=qA (zJ hv3 hy3);clear n1 hv3 hy3 hr13 hr14 hf13 hF14 hb13 hb14 hPb HF12;go_wp2_with fail
                      refine HN1.out.mono ?_;rintro _ w15 ⟨rfl,hr15,hf15⟩;clear HN1 k0 k1 z0 z1;have n1:=pO hr15 (by omega);obtain⟨v4,hv4⟩:∃v,v=aP (((((R.drop (32*i)).drop 8).drop 8).drop 8).take 8):=⟨_,rfl⟩;rw[<-hv4]at n1 b4;have hwz4:=kR b4;obtain⟨y4,hy4⟩:∃y,y=bU v4:=⟨_,rfl⟩;rw[<-hy4]at hwz4;have HN1:=qA n1;have HV4:=qA (zJ hv4 hy4);have HF15:=qA hf15;clear n1 hv4 hy4 hr15 hf15;go_wp2_with fail
                      refine HN1.out.mono ?_;rintro _ w16 ⟨rfl,hr16,hf16⟩;clear HN1;have hb16:=hf16.blk (HF15.out.blk HB14.out (by simp only[qH];omega)) (by simp only[qH];omega);have hb17:=(hb16.set (i*4+2) (.int .i64 y3)).set (i*4+3) (.int .i64 y4);have hF17:Fr [w11.heap.size+1] w16 ((w16.setCell ⟨w11.heap.size+1,i*4+2,none⟩ (.int .i64 y3)).setCell ⟨w11.heap.size+1,i*4+3,none⟩ (.int .i64 y4)):=((Fr.refl _ _).setCell _ _ (.inl (by simp))).setCell _ _ (.inl (by simp));have hr17:=hr16.fr hF17 (by simpa using hrq) (by simpa using hbq);have hset:∀j,1<j->j<4->((S.set (i*4) (.int .u64 (v1:Nat))).set (i*4+1) (.int .u64 (v2:Nat)))[i*4+j]? =([.int .u64 0,.int .u64 0,.int .i64 0,.int .i64 0]:List Value)[j]? :=fun j h1 h4=>by
                        rw[List.getElem?_set_ne (by omega),List.getElem?_set_ne (by omega)];exact hA j h4
                      have k2:=(hb16.cell (i*4+2)).trans (hset 2 (by decide) (by decide));have k3:=(hb16.cell (i*4+3)).trans (hset 3 (by decide) (by decide));have z2:=hb16.frozen (i*4+2);have z3:=hb16.frozen (i*4+3);simp only[zK,zL]at k2 k3;have HNew:=qA (show Fr [] w7 ((w16.setCell ⟨w11.heap.size+1,i*4+2,none⟩ (.int .i64 y3)).setCell ⟨w11.heap.size+1,i*4+3,none⟩ (.int .i64 y4))/\Blk ((w16.setCell ⟨w11.heap.size+1,i*4+2,none⟩ (.int .i64 y3)).setCell ⟨w11.heap.size+1,i*4+3,none⟩ (.int .i64 y4)) (w11.heap.size+1) 72 (fC (dS (i+1) R)++nF (q-(i+1)))/\Rst ((w16.setCell ⟨w11.heap.size+1,i*4+2,none⟩ (.int .i64 y3)).setCell ⟨w11.heap.size+1,i*4+3,none⟩ (.int .i64 y4)) w7.heap.size b (o3+32*(i+1)) (32*q-32*(i+1)) (c3-32*(i+1)) (R.drop (32*(i+1)))/\Blk ((w16.setCell ⟨w11.heap.size+1,i*4+2,none⟩ (.int .i64 y3)).setCell ⟨w11.heap.size+1,i*4+3,none⟩ (.int .i64 y4)) w11.heap.size 31 [.int .i64 m0,.int .i64 E,.int .i64 V0,.int .i64 D0] from by
                        have hF:=(((((HPf.out.1.trans HF13.out (fun x hx=>.inr (by simp only[qH]at hx;omega))).trans HF14.out (fun x hx=>.inr (by simp only[qH]at hx;omega))).trans HF15.out (fun x hx=>.inr (by simp only[qH]at hx;omega))).trans hf16 (fun x hx=>.inr (by simp only[qH]at hx;omega))).trans hF17 (fun x hx=>.inr (by simp only[qH]at hx;omega)));refine⟨hF,?_,?_,hF17.blk (hf16.blk (HF15.out.blk (HF14.out.blk (HF13.out.blk HPf.out.2 ?_) ?_) ?_) ?_) ?_⟩
                        · rw [<- HSt2.out, <- HV1.out, <- HV2.out, <- HV3.out.1, <- HV3.out.2, <- HV4.out.1, <- HV4.out.2]
                          exact hb17
                        · rw [HD.out, show o3 + 32 * (i + 1) = o3 + 32 * i + 8 + 8 + 8 + 8 by omega, show 32 * q - 32 * (i + 1) = 32 * q - 32 * i - 8 - 8 - 8 - 8 by omega, show c3 - 32 * (i + 1) = c3 - 32 * i - 8 - 8 - 8 - 8 by omega]
                          exact hr17
                        all_goals (simp only[qH];omega))
                      clear hb16 hb17 hF17 hr17 hset hr16 hf16 HB14 HF13 HF14 HF15 HPf HSt2 HD;go_wp2_with fail
                      go_roundw
                      case rel=>exact⟨i+1,by omega,by go_num,HNew⟩
                      case measure=>simp[intOf];omega
                    · obtain rfl : i = q := by omega
                      have hb:=HP.out.2.1;rw[Nat.sub_self,show nF 0=[] from rfl,List.append_nil]at hb;have hbc:=HP.out.2.2.2;have r0:=hbc.cell 0;have r1:=hbc.cell 1;have r2:=hbc.cell 2;have r3:=hbc.cell 3;simp only[zK,zL]at r0 r1 r2 r3;have hres:=aYD (HW5.out.fr0 HP.out.1) m0 E V0 D0 nz gv (some ⟨w11.heap.size+1,0,none⟩) i (dS i R) b3 hnz.1 hnz.2 h0.2 (by rw[jK];omega) (aYH hb) (fun r hr=>by
                        have k:=wH i HRb.out.1 r hr;exact⟨k.1,k.2.1,k.2.2.2⟩)
                      rw[jK]at hres;have HRes:=qA hres;clear hres hb hbc HP;go_wp2_with fail
                      refine HRes.out.mono ?_;intro e w17 hre;cases hR:lW m0 E V0 D0 nz gv (dS i R) with
                      | none=>
                        rw[hR]at hre HSt;obtain⟨rfl,hW⟩:=hre;clear hR;go_wp2_with fail
                        go_ret2;rw[HSt.out];exact⟨rfl,hW⟩
                      | some o=>
                        rw[hR]at hre HSt;obtain⟨p,rfl,hW⟩:=hre;clear hR;go_wp2_with fail
                        go_ret2;rw[HSt.out];exact⟨p,rfl,hW⟩
            · have hx : ((q : Int) != (cnt : Int)) = true := by simp; omega
              have hx2:(q != cnt)=true:=by simp;omega
              rw[qD (.inr (.inr hqc))]at HSt;have hkd:=HKd.out;go_wp2_with fail
              go_ret2;rw[HSt.out];exact⟨rfl,HW5.out.fr0 HF10.out⟩
          · have hm' : ¬ (k : Int) % 32 = 0 := by omega
            clear hq;rw[qD (.inr (.inl hm))]at HSt;have hkd:=HKd.out;go_wp2_with fail
            go_ret2;rw[HSt.out];exact⟨rfl,HW5.out.fr0 HF10.out⟩
      · have f1 : ((s1 : Int) != (s2 : Int)) = true := by simp; omega
        have f2:(s1 != s2)=true:=by simp[hs]
        have HSt:Hid (fY l=_):=qA (HSt.out.trans (qD hs));go_wp2_with fail
        go_ret2;rw[HSt.out];exact⟨rfl,HW5.out⟩
theorem jE(x:Int):IntKind.u64.wrap x=((aH x:Nat):Int):=by rw[IntKind.wrap_u64];unfold aH;omega
theorem aLL{o:Ob}{l:List Lv}(h:aVR o l):l.map lvR=o.L.map lvR:=by
 rw[<-h.1,List.map_map];rfl
theorem wI(l:List R4)(r:R4):cB (l++[r])=cB l++wD r:=by unfold cB;rw[List.flatMap_append];simp
theorem jU{W w:World}{ts:List Th}{p:Nat}{o:Ob}(h:Wd W w (thO p o::ts))(hL:dV W)(hp:o.Pc):
    Calls Tryz.prog 19 #[cE p] w fun e w' =>∃v,e=.returned (.tuple #[v,.int .i64 0])/\Wd W w' (thY v o.img::thO p o::ts):=by
 have hok:=h.ob;have hle:=hok.leE;have hE:=hok.mE;have HO:=qA hok;have HW:=qA h;have HL:=qA hL;have HP:=qA hp;have hn0:=jE o.now;clear h hL hp hok;go_enter Tryz.func19,Tryz.ntmps19
 go_wp2_with fail
 refine(aLF HW.out).mono ?_;rintro _ w1 ⟨rfl,hF⟩;have HW1:=qA (HW.out.fr0 hF);clear hF HW;go_wp2_with fail
 refine(put_ok (HL.out.fr HW1.out.frm (by simp)) o.m o.E o.V o.D HO.out.m2 HP.out.cf).mono ?_;rintro _ w2 ⟨sv,rfl,hv,hn,hF⟩;have HW2:=qA (HW1.out.new (t:=thY sv (gK o.m o.E o.V o.D)) hF ⟨hv,rfl⟩ (fun q hq=>hn q (by simpa using hq)));clear hF hn HW1;obtain⟨sb,sc,rfl,_⟩:=hv.at (i:=0) (by rw[aB];decide);rw[aB];clear hv;go_wp2_with fail
 refine(aPJ _).mono ?_;rintro _ w4 ⟨rfl,hF⟩;have hF4:=hF.alloc (.cells #[.int .u8 83,.int .u8 69,.int .u8 69,.int .u8 80,.int .u8 1] 91);have HW4:=qA (HW2.out.fr0 hF4);have hb:=Blk.new w4 [.int .u8 83,.int .u8 69,.int .u8 69,.int .u8 80,.int .u8 1] 91;have HC1:=qA (show ∀j u,(aS lL)[j]? =some u->(w4.alloc (.cells #[.int .u8 83,.int .u8 69,.int .u8 69,.int .u8 80,.int .u8 1] 91)).cell? ((⟨w4.heap.size,0,none⟩:Addr).add j)=some u from fun j u hj=>by
   rw[Addr.add_lit,Nat.zero_add,hb.cell j];exact hj)
 have HC2:=qA (HW4.out.rowB.rd.cells);clear hF hF4 hb HW2;go_wp2_with (first|(at_builtin;refine tI rfl (.tmp 25) (.tmp 26) 22 rfl 5 (.int .u8 0) 1 Tryz.underlying22 Tryz.info5 rfl ⟨w4.heap.size,0,none⟩ 5 5 (aS lL) rfl rfl HC1.out ⟨sb,0,none⟩ 32 sc (aS (gK o.m o.E o.V o.D)) rfl (by rw[gC,aB]) HC2.out (by decide) (by decide) (by decide) ?_;intro v5 w5 hown hnew hF5)|fail)
 have HW5:=qA (HW4.out.drop.new (t:=thY v5 (lL++gK o.m o.E o.V o.D)) hF5 ⟨by unfold dF;rw[zG,aB,jF];exact hown,rfl⟩ (fun q hq=>hnew q (by simpa using hq)));clear HC1 HC2 HW4 hown hnew hF5;generalize hB0:lL++gK o.m o.E o.V o.D=B0 at *;have HB0:=qA hB0;have hl0:B0.length=37:=by rw[<-hB0,zG,aB];rfl
 clear hB0;have HA:=qA (aPF HW5.out.swap);go_wp2_with fail
 refine HA.out.mono ?_;rintro _ w6 ⟨rfl,hF⟩;have HW6:=qA (HW5.out.fr0 hF);clear hF HA HW5;have HN:=qA (aXT HW6.out.swap);go_wp2_with fail
 refine HN.out.mono ?_;rintro _ w7 ⟨rfl,rfl⟩;clear HN;have hlt:=HW6.out.rowB;have HPt:=qA (aGU (nb:=w7.heap.size) (ns:=[aH o.now,o.last,o.gone]) (sz:=8) (cn:=3) (HW6.out.fr0 ((Fr.refl [] w7).alloc (.cells #[.int .u64 (aH o.now:Nat),.int .u64 (o.last:Nat),.int .u64 (o.gone:Nat)] 36))) (Blk.new w7 [.int .u64 (aH o.now:Nat),.int .u64 (o.last:Nat),.int .u64 (o.gone:Nat)] 36) (fun e=>by have:=hlt.lt e;omega) (by decide) (by rw[hl0];simp));clear hlt;go_wp2_with fail
 refine HPt.out.mono ?_;rintro _ w8 ⟨v8,rfl,hW⟩;have HW8:=qA hW;clear hW HPt HW6;generalize hB1:B0++[aH o.now,o.last,o.gone].flatMap (beN 8)=B1 at *;have hl1:B1.length=61:=by rw[<-hB1,zG,hl0];simp[aC]
 have HB1:=qA hB1;clear hB1 hl0;have HV:=qA (aTX HW8.out.swap);go_wp2_with fail
 refine HV.out.mono ?_;rintro _ w9 ⟨lv,l,rfl,hlv,hW⟩;clear HV HW8;obtain⟨la,lc,rfl⟩:=hW.rowV.slice;have hll:l.length=o.L.length:=by rw[<-hlv.1,List.length_map]
 have hl2:l.length<=16384:=by omega
 have HW9:=qA (show Wd W w9 (thY v8 (B1++cB ((l.take 0).map lvR))::thV (.slice la l.length lc) l::thO p o::ts) from by
   have:=hW.third;simpa[cB] using this)
 have HLv:=qA (zJ hlv hll);clear hW hlv hll;go_wp2_with fail
 go_loopw [7,44] (fun c1 c2 wr=>∃i:Nat,i<=l.length/\Hid (Wd W wr (thY c1 (B1++cB ((l.take i).map lvR))::thV (.slice la l.length lc) l::thO p o::ts))/\c2=.int .i64 i) (fun _ c _=>l.length-(intOf c).toNat)
 case atStart=>exact⟨0,by omega,HW9,rfl⟩
 case round=>
  clear HW9;obtain⟨i,hi,HWr,rfl⟩:=hrel;rename_i bv wr;by_cases hlt:i<l.length
  {
  have hi1:(i:Int)<l.length:=by omega
  have hi0:(0:Int)<=i:=by omega
  have hw1:IntKind.i64.wrap ((i:Int)+1)=((i+1:Nat):Int):=by rw[show(i:Int)+1=((i+1:Nat):Int) by omega];exact zH _ (by omega)
  obtain⟨b1,c1', e1,_,_,_,r1⟩:=HWr.out.swap.rowV.at hlt;simp only[qP,true_and]at e1;obtain⟨rfl,rfl⟩:=e1;have hrec:(B1++cB ((l.take (i+1)).map lvR))=B1++cB ((l.take i).map lvR)++[(l[i]'hlt).u,(l[i]'hlt).v,aH (l[i]'hlt).wt,aH (l[i]'hlt).t].flatMap (beN 8):=by {
  have htk:l.take (i+1)=l.take i++[l[i]'hlt]:=by rw[List.take_add_one,qL hlt];rfl
  rw[htk,List.map_append,List.map_cons,List.map_nil,wI,List.append_assoc];simp[wD,lvR]};have hlen:(B1++cB ((l.take i).map lvR)).length=61+32*i:=by rw[zG,hl1,sR,List.length_map,List.length_take,Nat.min_eq_left (Nat.le_of_lt hlt)]
  generalize l[i]'hlt=x at *;unfold aKB at r1;obtain⟨x0,x1,x2,x3,x4,x5,x6⟩:=r1;have hwt:=jE x.wt;have ht:=jE x.t;obtain⟨W1,hW1⟩:∃W1,wr.alloc (.cells (lvC x).toArray 74)=W1:=⟨_,rfl⟩;have hs1:W1.heap.size=wr.heap.size+1:=by rw[<-hW1];simp
  have hF1:Fr [] wr W1:=by rw[<-hW1];exact(Fr.refl [] wr).alloc _
  have hbl:=Blk.new W1 [.int .u64 (x.u:Nat),.int .u64 (x.v:Nat),.int .u64 (aH x.wt:Nat),.int .u64 (aH x.t:Nat)] 36;rw[hs1]at hbl;have HPt:=qA (aGU (nb:=wr.heap.size+1) (ns:=[x.u,x.v,aH x.wt,aH x.t]) (sz:=8) (cn:=4) (HWr.out.fr0 (hF1.alloc (.cells #[.int .u64 (x.u:Nat),.int .u64 (x.v:Nat),.int .u64 (aH x.wt:Nat),.int .u64 (aH x.t:Nat)] 36))) hbl (fun e=>by have:=HWr.out.rowB.lt e;omega) (by decide) (by rw[hlen];simp;omega));rw[<-hrec]at HPt;rw[<-hW1]at HPt;have HR:=qA hlen;clear hbl hF1 hs1 hW1 hlen hrec HWr;go_wp2_with fail
  refine HPt.out.mono ?_;rintro _ w8 ⟨v9,rfl,hW⟩;have HWn:=qA hW;clear hW HPt x0 x1 x2 x3 x4 x5 x6;go_wp2_with fail
  go_roundw
  case rel=>exact⟨i+1,by omega,HWn,by go_num⟩
  case measure=>simp[intOf];omega}
  {
  obtain rfl:i=l.length:=by omega
  have hbody:B1++cB ((l.take l.length).map lvR)=eB o.m o.E o.V o.D o.now o.last o.gone (o.L.map lvR):=by {
  rw[List.take_length,aLL HLv.out.1,<-HB1.out,<-HB0.out];unfold eB pM;simp};have himg:o.img=eB o.m o.E o.V o.D o.now o.last o.gone (o.L.map lvR)++beN 4 (crc (eB o.m o.E o.V o.D o.now o.last o.gone (o.L.map lvR))):=rfl;have hbyt:Byt (eB o.m o.E o.V o.D o.now o.last o.gone (o.L.map lvR)):=kQ _ _ _ _ _ _ _ _;have hbl:(eB o.m o.E o.V o.D o.now o.last o.gone (o.L.map lvR)).length=61+32*o.L.length:=by rw[jD,List.length_map]
  have HX:=HWr.out;rw[hbody]at HX;generalize eB o.m o.E o.V o.D o.now o.last o.gone (o.L.map lvR)=B at *;have hcl:=oT hbyt;have HS:=qA (aPO HX hbyt (by omega));have HIm:=qA himg;generalize crc B=c at *;have hcw:IntKind.u64.wrap (c:Int)=c:=by rw[IntKind.wrap_u64];omega
  have HPt:=qA (aGU (nb:=wr.heap.size) (ns:=[c]) (sz:=4) (cn:=1) (HX.fr0 ((Fr.refl [] wr).alloc (.cells #[.int .u64 (c:Nat)] 36))) (Blk.new wr [.int .u64 (c:Nat)] 36) (fun e=>by have:=HX.rowB.lt e;omega) (by decide) (by rw[hbl];simp;omega));clear HX hbody himg hbyt hbl HWr;go_wp2_with fail
  refine HS.out.mono ?_;rintro _ w8 ⟨rfl,rfl⟩;go_wp2_with fail
  refine HPt.out.mono ?_;rintro _ w9 ⟨v9,rfl,hW⟩;have HWn:=qA hW;clear hW HPt;go_wp2
  go_ret2;refine⟨v9,rfl,?_⟩;rw[HIm.out];have h1:=HWn.out;rw[show B++[c].flatMap (beN 4)=B++beN 4 c by simp]at h1;exact h1.drop2}
def oI:List Nat:=wE (eB 10 2 2 0 0 0 0 [])
theorem cZ:oI.length=65:=by decide +kernel
theorem wJ:Byt oI:=aEE (kQ _ _ _ _ _ _ _ _)
theorem aLM:oI.take 5=[83,69,69,80,1]:=by decide +kernel
theorem aUF:(fY oI).1=0:=by
 have h:=aEG (m:=10) (E:=2) (V:=2) (D:=0) (now:=0) (a:=0) (g:=0) (l:=[]) (by decide) (by decide) (by decide) (by decide) (by decide) (by decide) (by decide) (fun x hx=>by cases hx) rfl;unfold oI;rw[h];decide +kernel
theorem aLN:(fY (oI.set 64 (oI[64]'(by rw[cZ];decide) ^^^ 1))).1=17:=by decide +kernel
theorem aLO:(fY ((oI.set 64 (oI[64]'(by rw[cZ];decide) ^^^ 1)).set 4 2)).1=15:=by decide +kernel
theorem aPS:(fY []).1=15:=by decide +kernel
theorem aPT:crc [49,50,51,52,53,54,55,56,57]=3421780262:=by decide +kernel
theorem aUG:crc []=0:=by decide +kernel
section
variable {W w:World} {ts:List Th} {a:Option Addr} {l:List Nat} {n cap:Nat} {v:Value}
theorem wK(h:Wd W w ts)(hL:dV W)(hr:RdB w a l)(hb:Byt l)(hn:l.length=n)(hl:n<=1073741824)(hc:n<=cap):
    Calls Tryz.prog 23 #[.slice a n cap] w fun e w' =>e=.returned (.int .i64 (fY l).1)/\Wd W w' ts:=by
 have HD:=qA (aUE h hL hr hb hn hl hc);clear h hL hr hb hn hl hc;go_enter Tryz.func23,Tryz.ntmps23
 go_wp2_with fail
 refine HD.out.mono ?_;intro e w1 hD;clear HD;unfold LdE at hD;obtain⟨R,hR⟩:∃R,R=fY l:=⟨_,rfl⟩;rw[<-hR]at hD;have HR:=qA hR;clear hR;obtain⟨c,o⟩:=R;cases o with
 | none=>{
 obtain⟨rfl,hW⟩:=hD;have HW:=qA hW;clear hW;go_wp2_with fail
 go_ret;rw[<-HR.out];exact⟨rfl,HW.out⟩}
 | some o=>{
 obtain⟨p,rfl,hW⟩:=hD;have HW:=qA hW;clear hW;go_wp2_with fail
 go_ret;rw[<-HR.out];exact⟨rfl,HW.out.drop⟩}
theorem dF.set{g:Nat}(h:dF w (.slice (some ⟨g,0,none⟩) l.length cap) l){i:Nat}(hi:i<l.length)(x:Nat):dF (w.setCell ⟨g,i,none⟩ (.int .u8 (x:Int))) (.slice (some ⟨g,0,none⟩) l.length cap) (l.set i x):=by
 unfold dF;rw[List.length_set,show aS (l.set i x)=(aS l).set i (.int .u8 (x:Int)) by unfold aS;rw[List.map_set]];exact jP h hi _
theorem Wd.setB{g:Nat}(h:Wd W w (thY (.slice (some ⟨g,0,none⟩) l.length cap) l::ts)){i:Nat}(hi:i<l.length)(x:Nat):Wd W (w.setCell ⟨g,i,none⟩ (.int .u8 (x:Int))) (thY (.slice (some ⟨g,0,none⟩) l.length cap) (l.set i x)::ts):=by
 obtain⟨K,⟨hv,rfl⟩,hs⟩:=h.open;exact hs ⟨_,⟨hv.set hi x,rfl⟩,(Fr.refl _ _).setCell _ _ (.inl (by simp[Value.ownBlock])),fun q hq=>.inl hq⟩
theorem aGW(h:Wd W w (thY v l::ts))(hL:dV W)(hb:Byt l)(hl:l.length<=1073741824):
    Calls Tryz.prog 23 #[v] w fun e w' =>e=.returned (.int .i64 (fY l).1)/\Wd W w' (thY v l::ts):=by
 have hr:=h.rowB;obtain⟨a,cap,rfl⟩:=hr.slice;have hc:l.length<=cap:=by {
 by_cases h0:0<l.length
 {
 obtain⟨b,c,e,hn,_⟩:=hr.at h0;simp only[qP,true_and]at e;omega}
 · omega};exact wK h hL hr.rd hb rfl hl hc
end
theorem aUH{a b:Nat}(ha:a<256)(hb:b<256):a ^^^ b<256:=Nat.xor_lt_two_pow (n:=8) ha hb
theorem aGX{a b:Nat}(ha:a<256)(hb:b<256):Go.bits .xor .u8 (a:Int) (b:Int)=((a ^^^ b:Nat):Int):=by
 have ha' :a%2 ^ IntKind.u8.bits=a:=Nat.mod_eq_of_lt ha;have hb' :b%2 ^ IntKind.u8.bits=b:=Nat.mod_eq_of_lt hb;have k:(BitVec.ofNat IntKind.u8.bits a ^^^ BitVec.ofNat IntKind.u8.bits b).toNat=a ^^^ b:=by rw[BitVec.toNat_xor,BitVec.toNat_ofNat,BitVec.toNat_ofNat,ha', hb']
 simp only[Go.bits,BitVec.ofInt_natCast];rw[k,IntKind.wrap_u8];have:=aUH ha hb;omega
theorem Byt.set{l:List Nat}(h:Byt l){x:Nat}(hx:x<256){i:Nat}:Byt (l.set i x):=fun b hb=>by
 rcases List.mem_or_eq_of_mem_set hb with h1|rfl
 · exact h b h1
 · exact hx
theorem aPU:(Ob.new 10 2 2 0 0).img=oI:=by unfold Ob.img Ob.new oI;rfl
theorem aPV:strOfNums [83,69,69,80,1]={ data:=#[83,69,69,80,1] }:=by decide +kernel
def aGY:Array Value:=#[.int .u8 49,.int .u8 50,.int .u8 51,.int .u8 52,.int .u8 53,.int .u8 54,.int .u8 55,.int .u8 56,.int .u8 57]
theorem iB{W w:World}{ts:List Th}(h:Wd W w ts)(hL:dV W):Calls Tryz.prog 17 #[] w fun e w' =>e=.returned (.bool true)/\Wd W w' ts:=by
 have HL:=qA hL;have HN:=qA (aPG h 10 0 2 2 (by decide) (by decide) (by decide) (by decide) (by decide) (by decide) (by decide) (by decide));clear h hL;go_enter Tryz.func17,Tryz.ntmps17
 go_wp2_with fail
 refine HN.out.mono ?_;rintro _ w1 ⟨p,rfl,hW⟩;have hcv:=Go.Joins.run_convert_bytes_const_at (P:=Tryz.prog) w1 22 5 aGY 9 9 w1.heap.size rfl Tryz.underlying22 Tryz.underlying5;have hcell:=fun j=>Go.Joins.cell_alloc_mark_at w1 aGY 5 (9,10) w1.heap.size j rfl;have hF2:Fr [] w1 (w1.alloc (.cells aGY 5 (9,10))):=(Fr.refl [] w1).alloc _;have hrd:RdB (w1.alloc (.cells aGY 5 (9,10))) (some ⟨w1.heap.size,0,none⟩) [49,50,51,52,53,54,55,56,57]:=fun i hi=>by
   refine⟨w1.heap.size,0,rfl,by simp,?_⟩;rw[Nat.zero_add,hcell i];have:i=0∨i=1∨i=2∨i=3∨i=4∨i=5∨i=6∨i=7∨i=8:=by simp at hi;omega
   rcases this with rfl|rfl|rfl|rfl|rfl|rfl|rfl|rfl|rfl<;>rfl
 have hs9:=tG (cap:=9) hrd (by unfold Byt;decide) (by decide);rw[aPT]at hs9;have hs0:=tG (w:=w1.alloc (.cells aGY 5 (9,10))) (a:=none) (l:=[]) (cap:=0) (fun i hi=>absurd hi (Nat.not_lt_zero _)) (fun b hb=>by cases hb) (by decide);rw[aUG]at hs0;have HS9:=qA hs9;have HS0:=qA hs0;have HW2:=qA (hW.fr0 hF2);have hn9:aGY.size=9:=rfl;rw[hn9]at hcv;clear HN hW hs9 hs0 hrd hcell hF2;unfold aGY at *;go_wp2_with fail
 refine HS9.out.mono ?_;rintro _ w2 ⟨rfl,rfl⟩;go_wp2_with fail
 refine HS0.out.mono ?_;rintro _ w2 ⟨rfl,rfl⟩;clear HS0 HS9 hcv;generalize w1.alloc (.cells #[.int .u8 49,.int .u8 50,.int .u8 51,.int .u8 52,.int .u8 53,.int .u8 54,.int .u8 55,.int .u8 56,.int .u8 57] 5 (9,10))=w2 at *;have HSv:=qA (jU HW2.out HL.out (aPN (by decide)));rw[aPU]at HSv;go_wp2_with fail
 refine HSv.out.mono ?_;rintro _ w3 ⟨v,rfl,hW⟩;clear HSv HW2;have hr:=hW.rowB;have hW' :=hW.drop2;have hch:=aGW hW' HL.out wJ (by rw[cZ];decide);rw[aUF]at hch;obtain⟨b,cap,rfl,hcap,_,hz,_⟩:=hr.at (i:=0) (by rw[cZ];decide);rw[cZ]at hcap;have h5:=hr.rd.take 5;rw[aLM]at h5;have cc:∀i (hi:i<5),w3.cell? ⟨b,0+i,none⟩=some (.int .u8 (([83,69,69,80,1]:List Int).getD i 0)):=fun i hi=>by
   obtain⟨b', off', e,_,hc⟩:=h5 i (by simpa using hi);simp only[qJ,Addr.mk.injEq,and_true]at e;obtain⟨rfl,rfl⟩:=e;rw[hc];have:i=0∨i=1∨i=2∨i=3∨i=4:=by omega
   rcases this with rfl|rfl|rfl|rfl|rfl<;>rfl
 have hst:=run_convert_bytes_arg (P:=Tryz.prog) w3 22 5 Tryz.underlying22 Tryz.underlying5 b 0 5 cap [83,69,69,80,1] rfl cc 9 Tryz.underlying9;rw[aPV]at hst;have HCh:=qA hch;have HB:=qA (zJ hr hcap);have HW3:=qA hW';rw[cZ];rw[cZ]at HCh;have e1:(5:Int)<=cap:=by omega
 have e2:¬cap=0:=by omega
 clear hch hr hW hW' h5 cc hz;go_wp2_with fail
 refine HCh.out.mono ?_;rintro _ w4 ⟨rfl,hW⟩;clear HCh hst e1 e2 HB HW3;obtain⟨b', cap', ev,_,_,hz,hc⟩:=hW.rowB.at (i:=64) (by rw[cZ];decide);simp only[qP,qJ,Addr.mk.injEq,and_true]at ev;obtain⟨rfl,hlen,rfl⟩:=ev;clear hlen;have hlx:=wJ _ (List.getElem_mem (l:=oI) (n:=64) (by rw[cZ];decide));have hL1:=aLN;have hL2:=aLO;generalize oI[64]'(by rw[cZ];decide)=x at *;have hxy:Go.bits .xor .u8 (x:Int) 1=((x ^^^ 1:Nat):Int):=aGX hlx (show 1<256 by decide);have hy:=aUH hlx (show 1<256 by decide);generalize x ^^^ 1=y at *;have hW1:=Wd.setB (by rw[cZ];exact hW) (i:=64) (by rw[cZ];decide) y;have hb1:Byt (oI.set 64 y):=wJ.set hy;have hch:=aGW hW1 HL.out hb1 (by rw[List.length_set,cZ];decide);rw[hL1]at hch;rw[cZ]at hch;have HCh:=qA hch;have hz64:=hz 64;clear hch hW1 hW hL1;have HL2:=qA hL2;clear hL2;have HB1:=qA hb1;clear hb1 hz hlx hy;go_wp2_with fail
 refine HCh.out.mono ?_;rintro _ w5 ⟨rfl,hW⟩;clear HCh hc hz64 hxy;obtain⟨b', cap', ev,_,_,hz,hc⟩:=hW.rowB.at (i:=4) (by rw[List.length_set,cZ];decide);simp only[qP,qJ,Addr.mk.injEq,and_true]at ev;obtain⟨rfl,hlen,rfl⟩:=ev;clear hlen;have hle:(oI.set 64 y).length=65:=by rw[List.length_set,cZ]
 have hW1:=Wd.setB (by rw[hle];exact hW) (i:=4) (by rw[hle];decide) 2;have hch:=aGW hW1 HL.out (HB1.out.set (by decide)) (by rw[List.length_set,hle];decide);rw[HL2.out,hle]at hch;have HCh:=qA hch;have hz4:=hz 4;clear hch hW1 hW hle hz;generalize (oI.set 64 y)[4]'_=x4 at *;go_wp2_with fail
 refine HCh.out.mono ?_;rintro _ w6 ⟨rfl,hW⟩;clear HCh hc hz4;have hch:=wK (a:=none) (l:=[]) (n:=0) (cap:=0) hW.drop HL.out (fun i hi=>absurd hi (Nat.not_lt_zero _)) (fun b hb=>by cases hb) rfl (by decide) (by decide);rw[aPS]at hch;have HCh:=qA hch;clear hch hW;go_wp2_with fail
 refine HCh.out.mono ?_;rintro _ w7 ⟨rfl,hW⟩;clear HCh;go_wp2
 go_ret;exact⟨rfl,hW⟩
theorem aYJ{w:World}{a:Option Addr}{l:List Nat}{cap:Nat}(hr:RdB w a l)(hb:Byt l)(hl:l.length<=4611686018427387904):
    Calls Tryz.prog 16 #[.slice a l.length cap] w fun e w' =>e=.returned (.int .u32 (crc l:Nat))/\w' =w:=by
 obtain⟨n,hn⟩:∃n,n=l.length:=⟨_,rfl⟩;rw[<-hn]at hl ⊢;have HR:=qA (zJ hr (zJ hb hn));clear hr hb hn;go_enter Tryz.func16,Tryz.ntmps16
 go_wp2_with fail
 go_loopw [3,4] (fun r i wr=>∃(k:Nat) (x:Nat),k<=n/\r=.int .u32 x/\i=.int .i64 k/\wr=w/\x<4294967296/\Hid (x=eW 4294967295 (l.take k))) (fun _ i _=>n-(intOf i).toNat)
 case atStart=>exact⟨0,4294967295,qT _,rfl,rfl,rfl,by decide,qA rfl⟩
 case round=>
  obtain⟨k,x,hk,rfl,rfl,rfl,hx,HX⟩:=hrel;by_cases hlt:k<n
  {
  have hlt' :(k:Int)<n:=by omega
  have hk0:(0:Int)<=k:=by omega
  have hw1:IntKind.i64.wrap ((k:Int)+1)=((k+1:Nat):Int):=by rw[show(k:Int)+1=((k+1:Nat):Int) by omega];exact zH _ (by omega)
  have hkl:k<l.length:=by rw[<-HR.out.2.2];exact hlt
  obtain⟨b,off,rfl,_,c0⟩:=HR.out.1 k hkl;have hby:=HR.out.2.1 _ (List.getElem_mem hkl);have htk:l.take (k+1)=l.take k++[l[k]'hkl]:=by rw[List.take_add_one,qL hkl];rfl
  generalize l[k]'hkl=y at *;have hwy:IntKind.u32.wrap (y:Int)=y:=wrap_u32 (by omega);have hxy:Go.bits .xor .u32 (x:Int) (y:Int)=((x ^^^ y:Nat):Int):=iT hx (by omega);have hlx:x ^^^ y<4294967296:=xX hx (by omega);have HN:=qA (show dU 8 (x ^^^ y)=eW 4294967295 (l.take (k+1)) by rw[htk,xY,<-HX.out];rfl);clear htk HX;generalize x ^^^ y=z at *;go_wp2_with fail
  go_loopw [3,5] (fun r i wr2=>∃(j:Nat) (x:Nat),j<=8/\r=.int .u32 x/\i=.int .i64 j/\wr2=wr/\x<4294967296/\Hid (dU (8-j) x=eW 4294967295 (l.take (k+1)))) (fun _ i _=>8-(intOf i).toNat)
  case atStart=>exact⟨0,z,by omega,rfl,rfl,rfl,hlx,HN⟩
  case round=>
   clear HN hlx hwy hxy;obtain⟨j,x,hj,rfl,rfl,rfl,hx,HX⟩:=hrel;by_cases hj8:j<8
   {
   have hj8' :(j:Int)<8:=by omega
   have hw2:IntKind.i64.wrap ((j:Int)+1)=((j+1:Nat):Int):=by rw[show(j:Int)+1=((j+1:Nat):Int) by omega];exact zH _ (by omega)
   have hlt2:=zY hx;have HN:=qA (show dU (8-(j+1)) (jN x)=eW 4294967295 (l.take (k+1)) by
     rw[<-HX.out,show 8-j=(8-(j+1))+1 by omega];rfl)
   have hq:IntKind.u32.wrap (((x/2:Nat):Int))=((x/2:Nat):Int):=wrap_u32 (by omega);have hm:IntKind.u32.wrap (((x%2:Nat):Int))=((x%2:Nat):Int):=wrap_u32 (by omega);have tq:(x:Int).tdiv 2=((x/2:Nat):Int):=by rw[Int.tdiv_eq_ediv_of_nonneg (by omega)];omega
   have tm:(x:Int).tmod 2=((x%2:Nat):Int):=by rw[Int.tmod_eq_emod_of_nonneg (by omega)];omega
   by_cases h1:x%2=1
   {
   have es:jN x=x/2 ^^^ 3988292384:=qD h1;have e3:Go.bits .xor .u32 ((x/2:Nat):Int) 3988292384=((x/2 ^^^ 3988292384:Nat):Int):=iT (a:=x/2) (b:=3988292384) (by omega) (by decide);rw[es]at HN hlt2;rw[h1]at tm hm;clear HX es;generalize x/2=y at *;go_wp2_with fail
   go_roundw
   case rel=>exact⟨j+1,y ^^^ 3988292384,by omega,rfl,by go_num,trivial,hlt2,HN⟩
   case measure=>simp[intOf];omega}
   {
   have es:jN x=x/2:=qC h1;have h0:x%2=0:=by omega
   rw[es]at HN hlt2;rw[h0]at tm hm;clear HX es h1;generalize x/2=y at *;go_wp2_with fail
   go_roundw
   case rel=>exact⟨j+1,y,by omega,rfl,by go_num,trivial,hlt2,HN⟩
   case measure=>simp[intOf];omega}}
   {
   obtain rfl:j=8:=by omega
   have HN:=qA (show x=eW 4294967295 (l.take (k+1)) from HX.out);clear HX;go_wp2_with fail
   go_roundw
   case rel=>exact⟨k+1,x,by omega,rfl,by go_num,trivial,hx,HN⟩
   case measure=>simp[intOf];omega}}
  {
  obtain rfl:k=n:=by omega
  have hnx:Go.bits .xor .u32 (x:Int) 4294967295=((x ^^^ 4294967295:Nat):Int):=iT hx (show(4294967295:Nat)<4294967296 by decide);go_wp2
  go_ret;refine⟨?_,rfl⟩;have e:=HX.out;rw[HR.out.2.2,List.take_length]at e;rw[e];rfl}
def iF(len:Nat)(zs:List Int):List Nat:=(zs.take len).map Int.toNat
theorem nW{W:World}{a:Option Addr}{len cap:Nat}{zs:List Int}(h:uD .u8 W a len cap zs):(iF len zs).length=len/\len<=cap:=by
 unfold iF;rw[List.length_map,List.length_take];rcases h with⟨_,h1,h2,h3⟩|⟨x,_,h1,_,h3,_⟩
 · subst h1 h2 h3;exact⟨rfl,qK _⟩
 · omega
theorem aVT{z:Int}(h:(Lit.int .u8 z).wf=true):0<=z/\z<256:=by
 unfold Lit.wf at h;simp only[qY,decide_eq_true_eq]at h;have e1:IntKind.u8.min=0:=by decide
 have e2:IntKind.u8.max=255:=by decide
 omega
theorem nX{W:World}{a:Option Addr}{len cap:Nat}{zs:List Int}(h:uD .u8 W a len cap zs):Byt (iF len zs):=fun b hb=>by
 obtain⟨z,hz,rfl⟩:=qX.1 hb;rcases h with⟨_,_,_,h3⟩|⟨x,_,_,_,_,_,hw⟩
 · subst h3;simp at hz
 {
 have:=hw z (List.mem_of_mem_take hz);have:=aVT this;omega}
theorem wL{W:World}{a:Option Addr}{len cap:Nat}{zs:List Int}(h:uD .u8 W a len cap zs):RdB W a (iF len zs):=fun i hi=>by
 have hl:=(nW h).1;have hb:=nX h;rcases h with⟨_,h1,_,_⟩|⟨x,rfl,h1,_,h3,hc,hw⟩
 · omega
 {
 have c0:=hc 0 (by omega);obtain⟨b,off,sp⟩:=x;have hsp:sp=none:=by {
 cases sp with
 | none=>rfl
 | some s=>{
 have e:(⟨b,off,some s⟩:Addr).add 0=⟨b,off,some s⟩:=rfl;rw[e]at c0;unfold World.cell? at c0;split at c0
 · simp at c0
 · cases c0}};subst hsp;have ci:=hc i (by omega);rw[Addr.add_lit]at ci;refine⟨b,off,rfl,iS ci,?_⟩;rw[ci];have hi' :i<zs.length:=by omega
 have hg:zs.getD i 0=zs[i]:=by rw[List.getD_eq_getElem?_getD,qL hi'];rfl
 have e1:(iF len zs)[i]? =some (zs[i]).toNat:=by {
 unfold iF;rw[List.getElem?_map,List.getElem?_take_of_lt (by omega),qL hi'];rfl};have e2:(iF len zs)[i]'hi=(zs[i]).toNat:=Option.some.inj ((qL hi).symm.trans e1);have h0:=aVT (hw zs[i] (List.getElem_mem _));rw[e2,hg];congr 2
 omega}
theorem aEM{P:Program}{W w:World}{ts:List Th}{v:Value}{l ns:List Nat}(h:Wd W w (thY v l::ts))(t ty:TypeId)(i:TypeInfo)(z:Value)(ht:P.underlying t=some (.slice 5))(hi:P.info? 5=some i)(hz:i.zero=some z)(hsize:i.size=1)(hby:i.bytes=1)(hzs:z.cells.size=1)
    (ax:Option Addr) (m c:Nat) (hr:RdB w ax ns) (hm:ns.length=m) (hc:ax=none->c=0) (hl:l.length+m<=1073741824):
    ∃v' w', (Builtin.append_ #[t,t] ty #[v,.slice ax m c]).run P w=.ok v' w' /\ Wd W w' (thY v' (l++ns)::ts):=by
 obtain⟨K,⟨hv,rfl⟩,hs⟩:=h.open;cases ax with
 | none=>{
 have hn:ns=[]:=by {
 cases ns with
 | nil=>rfl
 | cons x ns=>obtain⟨b,off,e,_⟩:=hr 0 (by simp);cases e};subst hn;rw[hc rfl,<-hm];refine⟨_,_,run_append_owned_none w 0 t ty 5 i 1 ht hi _ l.length (aS l) hv,?_⟩;rw[List.append_nil];exact hs ⟨_,⟨hv,rfl⟩,Fr.refl _ _,fun q hq=>.inl hq⟩}
 | some ad=>{
 obtain⟨v', w', hr2,h2,h3,_,h5⟩:=run_append_own_at (P:=P) w 0 t ty 5 i z 1 1 ht hi hz hsize hby hzs (by decide) v l.length (aS l) hv ad m c (aS ns) (by rw[gC,hm]) hr.cells (aBX ns) (by unfold maxLen;omega) (by omega) (qT _);refine⟨v', w', hr2,hs ⟨_,⟨?_,rfl⟩,⟨h3.os,h3.tape,h3.output,h3.size,fun k hk hn=>h3.block k hk (fun e=>hn (by simp[<-e]))⟩,fun q hq=>?_⟩⟩
 {
 unfold dF;rw[zG,hm,jF];exact h2}
 {
 rcases h5 with h5|h5
 · rw[h5]at hq;exact .inl hq
 · rw[h5]at hq;simp at hq;exact .inr (by omega)}}
theorem eC{P:Program}{W w:World}{ts:List Th}{v:Value}{l ns:List Nat}(h:Wd W w (thY v l::ts)){ops:Array Oper}{rest:List Oper}{o:Oper}{a:Act}{Q:Exit->Act->World->Prop}(hgd:o.guard=none)(s x:Operand)(t:TypeId)
    (ho:o.op=.call { callee:=.builtin .append,args:=#[s,x],argTypes:=#[t,t] }) (z:Value) (ht:P.underlying t=some (.slice 5)) (hinfo:(P.info? 5).map (fun i=>(i.zero,i.size,i.bytes))=some (some z,1,1)) (hzs:z.cells.size=1)
    (ax:Option Addr) (m c:Nat) (hsv:a.eval s=v) (hx:a.eval x=.slice ax m c) (hr:RdB w ax ns) (hm:ns.length=m) (hc:ax=none->c=0) (hl:l.length+m<=1073741824)
    (k:∀v' w', Wd W w' (thY v' (l++ns)::ts)->wpList P ops Q rest (a.put o.dst v') w'):wpList P ops Q (o::rest) a w:=by
 obtain⟨i0,hi,hz0,hz1,hz2⟩:=info_parts hinfo;refine wpList_plain hgd fun K hK=>?_;obtain⟨v', w', hr2,h2⟩:=aEM (P:=P) h t o.type i0 z ht hi hz0 hz1 hz2 hzs ax m c hr hm hc hl;unfold Oper.wp execOp;simp only[ho,resolve,invoke,builtin,Sem.run_bind,Sem.run_pure,Result.andThen_ok,List.map_toArray,List.map_cons,List.map_nil,hsv,hx,hr2];exact hK _ _ (k v' w' h2)
structure Bp (s k:Nat) (o:Ob):Prop where
  pc:o.Pc
  s256:s<256
  m:o.m=1+s
  E:o.E=12
  V:o.V=9
  D:o.D=5
  now0:0<=o.now
  now:o.now<=7*k
  last:o.last<=k
  gone:o.gone<=k
theorem Wd.formB{W w:World}{ts:List Th}{v:Value}{l:List Nat}(h:Wd W w (thY v l::ts))(h0:0<l.length):∃b cap,v=.slice (some ⟨b,0,none⟩) l.length cap/\l.length<=cap/\RdB w (some ⟨b,0,none⟩) l:=by
 have hr:=h.rowB;obtain⟨b,cap,rfl,hc,_⟩:=hr.at h0;exact⟨b,cap,rfl,hc,hr.rd⟩
theorem dF.rd2{w:World}{a:Option Addr}{n cap:Nat}{l:List Nat}(h:dF w (.slice a n cap) l):RdB w a l:=by
 obtain⟨a', c', e⟩:=h.slice;simp only[qP]at e;obtain⟨rfl,rfl,rfl⟩:=e;exact h.rd
theorem aPW{w:World}{a1 a2:Option Addr}{l1 l2:List Nat}{n1 n2 c1 c2:Nat}(h1:RdB w a1 l1)(h2:RdB w a2 l2)(e1:l1.length=n1)(e2:l2.length=n2)(hb:n1<=1073741824)(hc1:n1<=c1)(hc2:n2<=c2):
    Calls Tryz.prog 24 #[.slice a1 n1 c1,.slice a2 n2 c2] w fun e w' =>e=.returned (.bool (decide (l1=l2)))/\Fr [] w w' :=by
 by_cases hl:n1=n2
 {
 subst hl;have HR:=qA (zJ h1 (zJ h2 (zJ e1 e2)));clear h1 h2 e1 e2 hc1 hc2;go_enter Tryz.func24,Tryz.ntmps24
 go_wp2_with fail
 go_loopw [5] (fun x wr=>∃i:Nat,i<=n1/\x=.int .i64 i/\(∃k,wr=w.drewN k)/\Hid (l1.take i=l2.take i)) (fun x _=>n1-(intOf x).toNat)
 case atStart=>exact⟨0,qT _,rfl,⟨0,rfl⟩,qA rfl⟩
 case round=>
  obtain⟨i,hi,rfl,⟨k,rfl⟩,HA⟩:=hrel;by_cases hlt:i<n1
  {
  have i1:i<l1.length:=by rw[HR.out.2.2.1];exact hlt
  have i2:i<l2.length:=by rw[HR.out.2.2.2];exact hlt
  obtain⟨b1,o1,rfl,_,r1⟩:=HR.out.1 i i1;obtain⟨b2,o2,rfl,_,r2⟩:=HR.out.2.1 i i2;have hi1:(i:Int)<n1:=by omega
  have hi0:(0:Int)<=i:=by omega
  have hwi:IntKind.i64.wrap ((i:Int)+1)=((i+1:Nat):Int):=by rw[show(i:Int)+1=((i+1:Nat):Int) by omega];exact zH _ (by omega)
  have t1:l1.take (i+1)=l1.take i++[l1[i]'i1]:=by rw[List.take_add_one,qL i1];rfl
  have t2:l2.take (i+1)=l2.take i++[l2[i]'i2]:=by rw[List.take_add_one,qL i2];rfl
  have hstop:¬l1[i]'i1=l2[i]'i2->¬l1=l2:=by rintro h rfl;exact h rfl
  generalize l1[i]'i1=x at *;generalize l2[i]'i2=y at *;have HT:=qA (zJ t1 (zJ t2 hstop));clear t1 t2 hstop;by_cases hxy:x=y
  {
  have d1:((x:Int) != (y:Int))=false:=by simp;omega
  have HN:=qA (show l1.take (i+1)=l2.take (i+1) by rw[HT.out.1,HT.out.2.1,HA.out,hxy]);clear hxy HA HT;go_wp2_with fail
  go_quiet (fail)
  go_wp2_with fail
  go_roundw
  case rel=>exact⟨i+1,by omega,by go_num,⟨_,rfl⟩,HN⟩
  case measure=>simp[intOf];omega}
  {
  have d1:((x:Int) != (y:Int))=true:=by simp;omega
  have HN:=qA (HT.out.2.2 hxy);clear hxy HA HT;go_wp2_with fail
  go_quiet (fail)
  go_wp2_with fail
  go_ret;rw[qF HN.out];exact⟨rfl,((Fr.refl [] w).drewN _).drewN _⟩}}
  {
  obtain rfl:i=n1:=by omega
  have HN:=qA (show l1=l2 from by
    have h:=HA.out;rw[List.take_of_length_le (by rw[HR.out.2.2.1];exact qK _),List.take_of_length_le (by rw[HR.out.2.2.2];exact qK _)]at h;exact h)
  go_wp2
  go_ret;rw[qG HN.out];exact⟨rfl,(Fr.refl [] w).drewN _⟩}}
 {
 have hb:((n1:Int) != (n2:Int))=true:=by simp;omega
 have HN:=qA (show ¬l1=l2 from by rintro rfl;exact hl (e1.symm.trans e2));clear h1 h2 e1 e2 hl;go_enter Tryz.func24,Tryz.ntmps24
 go_wp2
 go_ret;rw[qF HN.out];exact⟨rfl,Fr.refl _ _⟩}
def cP{α:Type}(f:Nat->α)(i:Nat)(v:α):Nat->α:=fun k=>if k=i then v else f k
theorem dB{α:Type}(f:Nat->α)(i:Nat)(v:α):cP f i v i=v:=qD rfl
theorem aJ{α:Type}(f:Nat->α){i k:Nat}(v:α)(h:k≠i):cP f i v k=f k:=qC h
def gM(P:Program)(K:Value->World->Prop):Result Go.Next->Prop
  | .ok (.value u) w' =>K u w'
  | .ok .skip w' =>K undef w'
  | .ok (.enter f args) w' =>Calls P f args w' (fun e w'' =>∃v,e=.returned v/\K v w'')
  | _=>False
attribute [go_sem] gM
theorem aLP{P:Program}{o:Oper}{a:Act}{K:Value->World->Prop}{K' :Act->World->Prop}{Q' :Exit->Act->World->Prop}(h:∀v w', K v w' -> K' (a.put o.dst v) w')
    {r:Result Go.Next} (h3:gM P K r):o.upon P a K' Q' r:=by
 cases r with
 | halt x w' =>exact h3.elim
 | ok x w' =>{
 cases x with
 | value u=>exact h _ _ h3
 | skip=>exact h _ _ h3
 | enter f args=>exact Calls.mono h3 fun e w'' ⟨v,he,hw''⟩=>by subst he;exact h _ _ hw''
 | _=>exact h3.elim}
section
variable {P:Program} {ops:Array Oper} {md:Region.Mode} {f:Nat->Value} {S S' :Nat->Bool} {a:Act}
def dT(ops:Array Oper)(k:Nat):Option Tmp:=(ops[k]?).bind (·.dst)
def bN(ops:Array Oper)(f:Nat->Value)(S:Nat->Bool)(a:Act):Nat->Act
  | 0=>a
  | k+1=>if S k=true then(bN ops f S a k).put (dT ops k) (f k) else bN ops f S a k
theorem sS{k:Nat}(h:S k=true):bN ops f S a (k+1)=(bN ops f S a k).put (dT ops k) (f k):=by
 show(if S k=true then _ else _)=_
 rw[qD h]
def wM(ops:Array Oper):Bool:=(List.range ops.size).all fun i=>(List.range ops.size).all fun k=>i == k||(match dT ops i with|some d=>dT ops k != some d|none=>true)
def iO(md:Region.Mode)(o:Oper):List Nat:=(o.after.toList.filter fun e=>Region.binds md e).map (·.on)
def aYK(md:Region.Mode)(ops:Array Oper):Bool:=(List.range ops.size).all fun i=>match ops[i]? with
  | none=>true
  | some o=>(List.range ops.size).all fun k=>(match dT ops k with|some d=> !(o.looksAt ops).contains d||((iO md o).contains k&&decide (k<i))|none=>true)
theorem zP(h:wM ops=true){i k:Nat}{d:Tmp}(hi:dT ops i=some d)(hk:dT ops k=some d):i=k:=by
 have lt:∀{j},dT ops j=some d->j<ops.size:=fun {j} hj=>by
   unfold dT at hj;cases ho:ops[j]? with
   | none=>rw[ho]at hj;cases hj
   | some o=>exact(qM.1 ho).1
 have h1:=List.all_eq_true.1 (List.all_eq_true.1 h i (by simpa using lt hi)) k (by simpa using lt hk);rw[hi]at h1;simp only[hk,Bool.or_eq_true,beq_iff_eq]at h1;rcases h1 with e|e
 · exact e
 · simp at e
theorem nH{f f' :Nat->Value}:∀{n:Nat},(∀k,k<n->S k=S' k/\f k=f' k)->bN ops f S a n=bN ops f' S' a n
  | 0,_=>rfl
  | n+1,h=>by
    unfold bN;rw[nH (n:=n) (fun k hk=>h k (by omega)),(h n (by omega)).1,(h n (by omega)).2]
theorem jL:∀n,(bN ops f S a n).tmps.size=a.tmps.size
  | 0=>rfl
  | n+1=>by
    unfold bN;split
    · cases dT ops n<;>simp[Act.put,jL n]
    · exact jL n
theorem lM{d:Tmp}:∀{n:Nat},(∀k,k<n->S k=true->dT ops k≠some d)->(bN ops f S a n).tmps[d]? =a.tmps[d]?
  | 0,_=>rfl
  | n+1,h=>by
    have ih:=lM (n:=n) (fun k hk=>h k (by omega));unfold bN;split
    · rename_i hs
      have hne:=h n (by omega) hs;cases hd:dT ops n with
      | none=>exact ih
      | some e=>
        rw[hd]at hne;have:e≠d:=fun h=>hne (by rw[h]);simp only[Act.put];rw[Array.getElem?_setIfInBounds_ne this];exact ih
    · exact ih
theorem lN(hu:wM ops=true){d:Tmp}{k0:Nat}(hd:dT ops k0=some d)(hs:S k0=true):∀{n:Nat},k0<n->(bN ops f S a n).tmps[d]? =if d<a.tmps.size then some (f k0) else none
  | 0,h=>by omega
  | n+1,h=>by
    by_cases e:k0=n
    · subst e
      unfold bN;rw[qD hs,hd];simp only[Act.put];by_cases hlt:d<a.tmps.size
      · rw[qD hlt,Array.getElem?_setIfInBounds_self_of_lt (by rw[jL];exact hlt)]
      · rw [qC hlt]
        exact Array.getElem?_eq_none (by rw[Array.size_setIfInBounds,jL];exact Nat.le_of_not_lt hlt)
    · have ih := lN hu hd hs (n := n) (by omega)
      unfold bN;split
      · cases hn:dT ops n with
        | none=>exact ih
        | some e' =>
          have:e' ≠ d:=fun h=>e (zP hu hd (by rw[hn,h]));simp only[Act.put];rw[Array.getElem?_setIfInBounds_ne this];exact ih
      · exact ih
theorem zQ(hu:wM ops=true){d:Tmp}{n m:Nat}(h:∀k,dT ops k=some d->((k<n/\S k=true)↔(k<m/\S' k=true))):(bN ops f S a n).tmps[d]? =(bN ops f S' a m).tmps[d]? :=by
 by_cases hx:∃k,dT ops k=some d/\k<n/\S k=true
 {
 obtain⟨k,h1,h2,h3⟩:=hx;have h4:=(h k h1).1 ⟨h2,h3⟩;rw[lN hu h1 h3 h2,lN hu h1 h4.2 h4.1]}
 · rw[lM (fun k hk hs hd=>hx ⟨k,hd,hk,hs⟩),lM (fun k hk hs hd=>hx ⟨k,hd,(h k hd).2 ⟨hk,hs⟩⟩)]
theorem wN{a a' :Act}{x:Operand}(hp:∀y,(∀t,y≠.tmp t)->a.eval y=a'.eval y)(h:∀t,x=.tmp t->a.tmps[t]? =a'.tmps[t]?):a.eval x=a'.eval x:=by
 cases x with
 | tmp t=>have:=h t rfl;simp[Act.eval,this]
 | _=>exact hp _ (by intro t;simp)
theorem lO(y:Operand)(hy:∀t,y≠.tmp t):∀n,(bN ops f S a n).eval y=a.eval y
  | 0=>rfl
  | n+1=>by
    unfold bN;split
    · rw[Act.eval_put (fun d _=>hy d)];exact lO y hy n
    · exact lO y hy n
theorem aUI(hu:wM ops=true){o:Oper}(hs:∀cs b,o.op≠.select cs b){n m:Nat}(h:∀k d,dT ops k=some d->d∈o.looksAt ops->((k<n/\S k=true)↔(k<m/\S' k=true))):
    execOp (bN ops f S a n).eval o=execOp (bN ops f S' a m).eval o/\Region.wanted o (yielded ops (bN ops f S a n).tmps)=Region.wanted o (yielded ops (bN ops f S' a m).tmps):=by
 refine⟨execOp_congr o hs fun x hx=>wN (fun y hy=>by rw[lO y hy,lO y hy]) fun t ht=>?_,?_⟩
 {
 subst ht;exact zQ hu fun k hk=>h k t hk (List.mem_append_left _ (List.mem_filterMap.2 ⟨.tmp t,by simpa using hx,rfl⟩))}
 {
 unfold Region.wanted;cases hg:o.guard with
 | none=>rfl
 | some gw=>{
 obtain⟨g,want⟩:=gw;have hy:yielded ops (bN ops f S a n).tmps g=yielded ops (bN ops f S' a m).tmps g:=by {
 unfold yielded;cases ht:(ops[g]?).bind (·.dst) with
 | none=>rfl
 | some t=>{
 have:=zQ (f:=f) (a:=a) hu (d:=t) fun k hk=>h k t hk (by simp[Oper.looksAt,hg,ht]);simp only[Option.bind_some,this]}};simp only[hy]}}
theorem aEN(hu:wM ops=true){i:Nat}(v:Value)(hL:S i=false):∀n,i<n->(bN ops f S a n).put (dT ops i) v=bN ops (cP f i v) (cP S i true) a n
  | 0,h=>by omega
  | n+1,h=>by
    by_cases e:i=n
    · subst e
      (conv=>rhs;unfold bN)
      rw[qD (dB ..),dB]
      (conv=>lhs;unfold bN)
      rw[qC (by rw[hL];simp)];rw[nH (S' :=cP S i true) (f' :=cP f i v) (fun k hk=>⟨(aJ _ _ (by omega)).symm,(aJ _ _ (by omega)).symm⟩)]
    · have ih := aEN hu v hL n (by omega)
      (conv=>rhs;unfold bN)
      rw[aJ _ _ (fun h=>e h.symm),aJ _ _ (fun h=>e h.symm),<-ih]
      (conv=>lhs;unfold bN)
      split
      · refine Act.put_comm _ _ _ fun d hd hd' => ?_
        exact e (zP hu hd' hd)
      · rfl
end
def aPX(md:Region.Mode)(ops:Array Oper):Bool:=Region.noSelect ops&&fU md ops&&wM ops&&aYK md ops
def tL(P:Program)(ops:Array Oper)(md:Region.Mode)(I:(Nat->Value)->(Nat->Bool)->World->Prop)(f:Nat->Value)(k:Nat)(o:Oper)(a:Act):Prop:=
  ∀L w,(∀j∈iO md o,L j=true)->L k=false->I f L w ->
    if Region.wanted o (yielded ops a.tmps)=true then gM P (fun v w' =>I (cP f k v) (cP L k true) w') ((execOp a.eval o).run P w) else I (cP f k undef) (cP L k true) w
def aPY(P:Program)(ops:Array Oper)(md:Region.Mode)(I:(Nat->Value)->(Nat->Bool)->World->Prop)(f:Nat->Value):Nat->List Oper->Act->Prop
  | _,[],_=>True
  | k,o::r,a=>tL P ops md I f k o a/\aPY P ops md I f (k+1) r (a.put o.dst (f k))
def aGZ(f:Nat->Value):Nat->List Oper->Act->Act
  | _,[],a=>a
  | k,o::r,a=>aGZ f (k+1) r (a.put o.dst (f k))
section
variable {P:Program} {md:Region.Mode} {I:(Nat->Value)->(Nat->Bool)->World->Prop}
theorem zR{l:List Oper}(f:Nat->Value)(a:Act):∀(r:List Oper) (k:Nat),l.drop k=r->aGZ f k r (bN l.toArray f (fun _=>true) a k)=bN l.toArray f (fun _=>true) a l.length
  | [],k,h=>by
    have hk:l.length<=k:=List.drop_eq_nil_iff.1 h;show bN l.toArray f (fun _=>true) a k=_
    have:∀m,bN l.toArray f (fun _=>true) a (l.length+m)=bN l.toArray f (fun _=>true) a l.length:=by
      intro m;induction m with
      | zero=>rfl
      | succ m ih=>
        have hd:dT l.toArray (l.length+m)=none:=by simp[dT]
        rw[show l.length+(m+1)=l.length+m+1 by omega,sS rfl,ih,hd];rfl
    obtain⟨m,rfl⟩:∃m,k=l.length+m:=⟨k-l.length,by omega⟩;exact this m
  | o::r,k,h=>by
    have hk:l[k]? =some o:=by have:=congrArg (fun r=>r[0]?) h;simpa using this
    have hr:l.drop (k+1)=r:=by rw[<-List.tail_drop,h];rfl
    have:=zR f a r (k+1) hr;rw[<-this];show aGZ f (k+1) r ((bN l.toArray f (fun _=>true) a k).put o.dst (f k))=_
    congr 1
    rw[sS rfl];congr 1
    simp[dT,hk]
theorem aPZ{l:List Oper}{f:Nat->Value}{a:Act}:∀(r:List Oper) (k:Nat),l.drop k=r->aPY P l.toArray md I f k r (bN l.toArray f (fun _=>true) a k)->∀i o,k<=i->l[i]? =some o->tL P l.toArray md I f i o (bN l.toArray f (fun _=>true) a i)
  | [],k,h,_,i,o,hi,ho=>by
    have hk:l.length<=k:=List.drop_eq_nil_iff.1 h;have:=(qU.1 ho).1;omega
  | o' :: r,k,h,hS,i,o,hi,ho=>by
    have hk:l[k]? =some o' :=by have:=congrArg (fun r=>r[0]?) h;simpa using this
    have hr:l.drop (k+1)=r:=by rw[<-List.tail_drop,h];rfl
    by_cases e:i=k
    · subst e
      have:o' =o:=Option.some.inj (hk.symm.trans ho);subst this;exact hS.1
    · refine aPZ r (k + 1) hr ?_ i o (by omega) ho
      have h2:=hS.2;have e2:bN l.toArray f (fun _=>true) a (k+1)=(bN l.toArray f (fun _=>true) a k).put o'.dst (f k):=by
        rw[sS rfl];congr 1
        simp[dT,hk]
      rw[e2];exact h2
theorem aHA{l:List Oper}{a:Act}{Q:Exit->Act->World->Prop}(hB:aPX md l.toArray=true)(hstep:∀f i o,l[i]? =some o->tL P l.toArray md I f i o (bN l.toArray f (fun _=>true) a i))
    (hend:∀f L w', (∀k,k<l.length->L k=true)->I f L w' -> Q .normal (bN l.toArray f (fun _=>true) a l.length) w'):∀(fuel:Nat) (listed:Array Bool) (f:Nat->Value) (w:World),listed.size=l.length->listed.toList.count false<=fuel ->
    tS md l.toArray listed->I f (fun k=>listed.getD k false) w->wpAny P md l.toArray Q fuel listed (bN l.toArray f (fun k=>listed.getD k false) a l.length) w:=by
 simp only[aPX,qY]at hB;obtain⟨⟨⟨hsel,heb⟩,hu⟩,hlk⟩:=hB;have hdone:∀(listed:Array Bool) (f:Nat->Value) (w:World),listed.size=l.length->Region.ready md l.toArray listed=[]->I f (fun k=>listed.getD k false) w->Q .normal (bN l.toArray f (fun k=>listed.getD k false) a l.length) w:=by {
 intro listed f w hs h0 hI;have hall:=kD (by simpa using hs) heb h0;rw[nH (S' :=fun _=>true) (f' :=f) (fun k hk=>⟨hall k (by simpa using hk),rfl⟩)];exact hend f _ w (fun k hk=>hall k (by simpa using hk)) hI};intro fuel;induction fuel with
 | zero=>{
 intro listed f w hs hc _ hI;have h0:Region.ready md l.toArray listed=[]:=by {
 rw[List.eq_nil_iff_forall_not_mem];intro i hi;obtain⟨hun,oi,hoi,_⟩:=mem_ready.1 hi;have hil:i<listed.size:=by have:=(qM.1 hoi).1;simp at this;omega
 have hmem:false∈listed.toList:=by {
 rw[<-show listed[i]=false by simpa[hil] using hun];simp};have:=List.count_pos_iff.2 hmem;omega};exact⟨h0,hdone listed f w hs h0 hI⟩}
 | succ fuel ih=>{
 intro listed f w hs hc hsh hI;refine⟨fun h0=>hdone listed f w hs h0 hI,fun i hi=>?_⟩;obtain⟨hun,oi,hoi,hdep⟩:=mem_ready.1 hi;have hil:i<l.length:=by have:=(qM.1 hoi).1;simpa using this
 have hl0:listed.getD i false=false:=by simp[hs,hil]at hun ⊢;exact hun
 have hs' :(listed.setIfInBounds i true).size=l.length:=by simp[hs]
 have hLu:(fun k=>(listed.setIfInBounds i true).getD k false)=cP (fun k=>listed.getD k false) i true:=by {
 funext k
 by_cases e:k=i
 · subst e;rw[dB];simp[hs,hil]
 · rw[aJ _ _ e,getD_set_ne false (fun h=>e h.symm)]};have hc' :(listed.setIfInBounds i true).toList.count false<=fuel:=by {
 have hmem:listed.toList[i]? =some false:=by {
 simp only[Array.getElem?_toList];simp[hs,hil]at hun;simp[hs,hil,hun]};have:(listed.setIfInBounds i true).toList=listed.toList.set i true:=by simp
 rw[this];have h1:=List.count_set (l:=listed.toList) (i:=i) (a:=true) (b:=false) (by simpa[hs] using hil);have h2:listed.toList[i]'(by simpa[hs] using hil)=false:=(qU.1 hmem).2;have e1:(if ((false == false:Bool)=true) then(1:Nat) else 0)=1:=rfl;have e2:(if ((true == false:Bool)=true) then(1:Nat) else 0)=0:=rfl;rw[h1,h2,e1,e2];omega};have hdeps:∀j∈iO md oi,listed.getD j false=true:=by {
 intro j hj;simp only[iO,qX,zB]at hj;obtain⟨e,⟨he,hb⟩,rfl⟩:=hj;exact hdep e (by simpa using he) hb};have hsame:=aUI (f:=f) (a:=a) hu (o:=oi) (fun cs b=>Region.noSelect_spec hsel i oi cs b hoi) (S:=fun k=>listed.getD k false) (S' :=fun _=>true) (n:=l.length) (m:=i) (by
   intro k d hk hd;have hkl:k<l.toArray.size:=by
     unfold dT at hk;cases ho:l.toArray[k]? with
     | none=>rw[ho]at hk;cases hk
     | some o=>exact(qM.1 ho).1
   have h1:=List.all_eq_true.1 hlk i (by simpa using hil);simp only[hoi]at h1;have h2:=List.all_eq_true.1 h1 k (by simpa using hkl);simp only[hk,Bool.or_eq_true,Bool.not_eq_true', qY,decide_eq_true_eq,List.contains_iff_mem]at h2;rcases h2 with h2|h2
   · rw[<-Bool.not_eq_true,List.contains_iff_mem]at h2;exact absurd hd h2
   · exact⟨fun _=>⟨h2.2,rfl⟩,fun _=>⟨by simpa using hkl,hdeps k h2.1⟩⟩)
 have hst:=hstep f i oi (by simpa using hoi) (fun k=>listed.getD k false) w hdeps hl0 hI;have hdst:dT l.toArray i=oi.dst:=by simp only[dT,hoi,Option.bind_some]
 have hnext:∀v w', I (cP f i v) (cP (fun k=>listed.getD k false) i true) w' -> wpAny P md l.toArray Q fuel (listed.setIfInBounds i true) ((bN l.toArray f (fun k=>listed.getD k false) a l.length).put oi.dst v) w' :=by {
 intro v w' hI';rw[<-hdst,aEN hu v hl0 l.length hil];have:=ih (listed.setIfInBounds i true) (cP f i v) w' hs' hc' (hsh.set hi) (by rw[hLu];exact hI');rw[hLu]at this;exact this};unfold wpOp;simp only[hoi];rw[hsame.2];by_cases hw:Region.wanted oi (yielded l.toArray (bN l.toArray f (fun _=>true) a i).tmps)=true
 {
 rw[qD hw]at hst;rw[qD hw];left
 unfold Oper.wp;rw[hsame.1];exact aLP hnext hst}
 {
 rw[qC hw]at hst;rw[qC hw];exact hnext _ _ hst}}
def aVU(ops:Array Oper)(d:Tmp):Bool:=(List.range ops.size).all fun j=>dT ops j != some d
def sT(P:Program)(ops:Array Oper)(md:Region.Mode)(I:(Nat->Value)->(Nat->Bool)->World->Prop)(f:Nat->Value)(a:Act):Nat->List Oper->Prop
  | _,[]=>True
  | k,o::r=>(∀b:Act,b.tmps.size=a.tmps.size->(∀j d,j<k->dT ops j=some d->d<a.tmps.size->b.tmps[d]? =some (f j))->(∀d,aVU ops d=true->b.tmps[d]? =a.tmps[d]?)->tL P ops md I f k o b)/\sT P ops md I f a (k+1) r
theorem zS{l:List Oper}{f:Nat->Value}{a:Act}:∀(r:List Oper) (k:Nat),l.drop k=r->sT P l.toArray md I f a k r->∀i o,k<=i->l[i]? =some o ->
    ∀b:Act,b.tmps.size=a.tmps.size->(∀j d,j<i->dT l.toArray j=some d->d<a.tmps.size->b.tmps[d]? =some (f j))->(∀d,aVU l.toArray d=true->b.tmps[d]? =a.tmps[d]?)->tL P l.toArray md I f i o b
  | [],k,h,_,i,o,hi,ho=>by
    have hk:l.length<=k:=List.drop_eq_nil_iff.1 h;have:=(qU.1 ho).1;omega
  | o' :: r,k,h,hS,i,o,hi,ho=>by
    have hk:l[k]? =some o' :=by have:=congrArg (fun r=>r[0]?) h;simpa using this
    have hr:l.drop (k+1)=r:=by rw[<-List.tail_drop,h];rfl
    by_cases e:i=k
    · subst e
      have:o' =o:=Option.some.inj (hk.symm.trans ho);subst this;exact hS.1
    · exact zS r (k+1) hr hS.2 i o (by omega) ho
theorem aEO{id:Nat}{Q:Exit->Act->World->Prop}{a:Act}{w:World}{l:List Oper}(I:(Nat->Value)->(Nat->Bool)->World->Prop)(hm:P.follows .mixedOrders=true)(hB:aPX .any l.toArray=true)
    (h0:I (fun _=>undef) (fun _=>false) w.drew) (hstep:∀f,sT P l.toArray .any I f a 0 l)
    (hend:∀f L w', (∀k,k<l.length->L k=true)->I f L w' -> Q .normal (aGZ f 0 l a) w'):(Code.region id l.toArray true).wp P Q a w:=by
  have hz:(fun k=>(Array.replicate l.toArray.size false).getD k false)=fun _=>false:=by funext k;exact eG _ _
  refine wp_region_any hm ?_;have hu:wM l.toArray=true:=by simp only[aPX,qY]at hB;exact hB.1.2
  have := aHA (P := P) (md := .any) (I := I) (a := a) (Q := Q) (l := l) hB (fun f i o ho => zS l 0 rfl (hstep f) i o (qT _) ho _ (jL _)
      (fun j d hj hd hlt=>by rw[lN hu hd rfl hj,qD hlt])
      (fun d hd=>lM fun j hj _ e=>by
        have hjl:j<l.toArray.size:=by
          have:=(qU.1 ho).1;simp;omega
        have h1:=List.all_eq_true.1 hd j (by simpa using hjl);rw[e]at h1;simp at h1))
    (fun f L w' hL hI=>by rw[<-zR f a l 0 rfl];exact hend f L w' hL hI) l.toArray.size (Array.replicate l.toArray.size false) (fun _=>undef) w.drew (by simp) (by simp) (by intro j oj _ hl;rw[eG]at hl;cases hl) (by rw[hz];exact h0)
  rw[hz]at this;have e:bN l.toArray (fun _=>undef) (fun _=>false) a l.length=a:=by
    have:∀n,bN l.toArray (fun _=>undef) (fun _=>false) a n=a:=by
      intro n;induction n with
      | zero=>rfl
      | succ n ih=>unfold bN;rw[qC (by simp)];exact ih
    exact this _
  rw[e]at this;exact this
theorem aEP{ops:Array Oper}{f:Nat->Value}{k:Nat}{o:Oper}{a:Act}(hg:o.guard=none)
    (h:∀L w,(∀j∈iO md o,L j=true)->L k=false->I f L w->gM P (fun v w' =>I (cP f k v) (cP L k true) w') ((execOp a.eval o).run P w)):tL P ops md I f k o a:=fun L w hd hn hI=>by
 rw[qD (by simp[Region.wanted,hg])];exact h L w hd hn hI
end
def rcEq(u v u' v' :Nat)(wt t wt' t' :Int):Bool:=(u == u')&&(v == v')&&(wt == wt')&&(t == t')
@[go_sem high] theorem aYL(u v u' v' :Nat)(wt t wt' t' :Int)(w:World):(Op.equalIn 10000 72 (.agg #[.int .u64 u,.int .u64 v,.int .i64 wt,.int .i64 t]) (.agg #[.int .u64 u', .int .u64 v', .int .i64 wt', .int .i64 t'])).run Tryz.prog w=.ok (rcEq u v u' v' wt t wt' t') w:=by
 have hc:∀(a b:Nat),((a:Int) == (b:Int))=(a == b):=fun a b=>by rw[Bool.eq_iff_iff];simp only[beq_iff_eq];omega
 rw[show(10000:Nat)=9999+1 from rfl,run_equalIn_struct w 9999 _ _ _ (by kernel_rfl) (by kernel_rfl)];unfold rcEq;simp only[Program.fieldsOf,Tryz.underlying72,Op.eqFields];go_simp;by_cases h1:u=u' <;> by_cases h2:v=v' <;> by_cases h3:wt=wt' <;> by_cases h4:t=t' <;> simp[h1,h2,h3,h4]
@[go_sem] theorem aVV(op:BinOp)(x y:Operand)(xs ys:Array Value)(w:World):(eqGuard op 72 x y (.agg xs) (.agg ys)).run Tryz.prog w=.ok () w:=run_eqGuard_agg w op 72 x y xs ys (by kernel_rfl)
theorem Fr.of_drewN37(w:World)(k:Nat):Fr [] w (w.drewN k):=(Fr.refl [] w).drewN k
end Go.Proofs.YtjdgpcjbgjnahaaGreatDoor
