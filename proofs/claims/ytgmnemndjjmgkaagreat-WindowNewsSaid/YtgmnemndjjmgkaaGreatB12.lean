/- Windows that may be nil: asked, agree. -/
import Derived.Test.YtgmnemndjjmgkaaGreatB11
import Derived.Test.YtgmnemndjjmgkaaGreatB9
import Derived.Test.YtgmnemndjjmgkaaGreatB10
set_option linter.unusedSimpArgs false
set_option linter.unusedVariables false
/- The document's window: what is connected to an id by the edges that expire at a time or later. -/
namespace Go.Proofs.YtgmnemndjjmgkaaGreat
open Go.RowKit
set_option maxRecDepth 10000
set_option maxHeartbeats 1600000
structure Prt (L:List Lv) (f:Int) (u:Nat) (l:List Nat):Prop where
  lt:l.Pairwise (· < ·)
  me:u∈l
  rl:∀x∈l,Rl L f u x
def shutE(f:Int)(l:List Nat)(e:Lv):Prop:=f≤e.x→(e.u∈l↔e.v∈l)
section
variable {L:List Lv} {f:Int} {u:Nat} {l:List Nat}
theorem Prt.one:Prt L f u [u]:=⟨List.pairwise_singleton ..,by simp,fun x hx=>by rw[qP.1 hx];exact .refl _⟩
theorem Prt.put(h:Prt L f u l){e:Lv}(he:e∈L)(hx:f≤e.x)(hm:e.u∈l∨e.v∈l):Prt L f u (insN e.v (insN e.u l)):=by
 refine⟨insN_lt (insN_lt h.lt),by rw[insN_mem,insN_mem];exact .inr (.inr h.me),fun x hx' =>?_⟩;have hu:Rl L f u e.u:=hm.elim (h.rl _) fun k=>(h.rl _ k).trans (Rl.edge' he hx);have hv:Rl L f u e.v:=hm.elim (fun k=>(h.rl _ k).trans (Rl.edge he hx)) (h.rl _);rw[insN_mem,insN_mem]at hx';rcases hx' with rfl|rfl|hx'
 · exact hv
 · exact hu
 · exact h.rl x hx'
theorem Prt.shut(h:Prt L f u l)(hc:∀e∈L,shutE f l e):∀x,x∈l↔Rl L f u x:=fun x=>
  ⟨h.rl x,fun hx=>(Rl.inv (fun y=>y∈l) (fun e he hx=>hc e he hx) hx).1 h.me⟩
theorem Prt.len(h:Prt L f u l):l.length≤(idsL L).length+1:=by
 have hs:∀x∈l,x∈u::idsL L:=fun x hx=>by
   by_cases e:u=x
   · subst e;exact List.mem_cons_self
   · obtain ⟨d, hd, h1, _⟩ := (h.rl x hx).last e
     exact List.mem_cons_of_mem _ (idsL_mem.2 ⟨d,hd,h1⟩)
 have hn:l.Nodup:=h.lt.imp fun h=>Nat.ne_of_lt h;simpa using nodup_sub_len hn hs
theorem insN_grow{x:Nat}(hp:l.Pairwise (· < ·))(hx:x∉l):(insN x l).length=l.length+1:=by
 have h1:(insN x l).Perm (x::l):=(List.perm_ext_iff_of_nodup ((insN_lt hp).imp fun h=>Nat.ne_of_lt h) (qX.2 ⟨hx,hp.imp fun h=>Nat.ne_of_lt h⟩)).2 fun y=>by rw[insN_mem];simp
 simpa using h1.length_eq
theorem Prt.more(h:Prt L f u l){e:Lv}(hm:(e.u∈l∧e.v∉l)∨(e.u∉l∧e.v∈l)):l.length<(insN e.v (insN e.u l)).length:=by
 rcases hm with⟨h1,h2⟩|⟨h1,h2⟩
 · rw[insN_has h.lt h1,insN_grow h.lt h2];omega
 · rw[insN_has (insN_lt h.lt) (insN_mem.2 (.inr h2)),insN_grow h.lt h1];omega
end
def lenOf:Value→Nat
  | .slice _ n _=>n
  | _=>0
def partM(M:Nat)(x b:Value):Nat:=match b with|.bool true=>1+(M-lenOf x)|_=>0
section
variable {w w' :World} {p:Nat} {o:Ob} {a:Option Addr} {c:Nat}
theorem rw_part(hb:Blk w p 115 (rfC o (.slice a o.L.length c)))(hr:RowV w (.slice a o.L.length c) o.L)(hl:o.L.length≤16384)(u:Nat)(f:Int):
    Calls Tryz.prog 118 #[wptr p,.int .u64 u,.int .i64 f] w fun e w' =>∃v l,e=.returned v∧RowU w' v l∧Fr [] w w' ∧ (∀q,v.ownBlock=some q→w.heap.size≤q)∧l.Pairwise (· < ·)∧(∀x,x∈l↔Rl o.L f u x)∧l.length≤(idsL o.L).length+1:=by
  obtain⟨M,hM⟩:∃M,M=(idsL o.L).length+1:=⟨_,rfl⟩;have hMl:M≤32769:=by rw[hM];have:=idsL_len2 o.L _ rfl;omega
  obtain⟨n,hn⟩:∃n,n=o.L.length:=⟨_,rfl⟩;rw[←hn]at hb hr hl;have H:=qB (zR hb (zR hr (zR hn hM)));have c6:=hb.cell 6;simp only[rfC,zS,zT]at c6;clear hb hr hn hM;go_enter Tryz.func118,Tryz.ntmps118
  go_wp2_with fail
  have HS:=qB (show RowU (w.alloc (.cells #[.int .u64 u] 26)) (.slice (some ⟨w.heap.size,0,none⟩) 1 1) [u]∧Fr [] w (w.alloc (.cells #[.int .u64 u] 26)) from
    ⟨⟨by simp[encId],.inr ⟨w.heap.size,1,#[.int .u64 u],rfl,zB _,Blk.new w [.int .u64 u] 26,qS _,by decide,by simp,by simp[encId]⟩⟩,(Fr.refl [] w).alloc _⟩)
  go_loopw [7,8] (fun x y wr=>∃(a1:Option Addr) (n1 c1:Nat) (b:Bool) (out:List Nat),x=.slice a1 n1 c1∧y=.bool b∧Hid (n1=out.length∧RowU wr (.slice a1 n1 c1) out∧Fr [] w wr∧(∀q,(Value.slice a1 n1 c1).ownBlock=some q→w.heap.size≤q)∧Prt o.L f u out∧(b=false→∀e∈o.L,shutE f out e))) (fun x y _=>partM M x y)
  case atStart=>exact⟨_,1,1,true,[u],rfl,rfl,qB ⟨rfl,HS.out.1,HS.out.2,fun q hq=>by simp[Value.ownBlock]at hq;omega,Prt.one,fun e=>by cases e⟩⟩
  case round=>
    clear HS;obtain⟨a1,n1,c1,b,out,rfl,rfl,HR⟩:=hrel;rename World=>wr
    cases b with
    | false=>
      go_wp2_with fail
      go_ret;obtain⟨r1,r2,r3,r4,r5,r6⟩:=HR.out;refine⟨_,rfl,out,r2,r3,r4,r5.lt,r5.shut (r6 trivial),r5.len⟩
    | true=>
      have hn1:n1≤M:=by have h1:=HR.out.1;have h2:=HR.out.2.2.2.2.1.len;have h3:=H.out.2.2.2;omega
      have HN1:=qB (zR hn1 (zR HR.out.1 hMl));clear hn1;go_wp2_with fail
      go_loopw [7,8,9] (fun x y z wr=>∃(a2:Option Addr) (n2 c2:Nat) (b:Bool) (i:Nat) (out' :List Nat),x=.slice a2 n2 c2∧y=.bool b∧z=.int .i64 i∧i≤n∧Hid (n2=out'.length∧RowU wr (.slice a2 n2 c2) out' ∧ Fr [] w wr∧(∀q,(Value.slice a2 n2 c2).ownBlock=some q→w.heap.size≤q)∧Prt o.L f u out' ∧ (b=false→out' =out∧∀j (hj:j<o.L.length),j<i→shutE f out o.L[j])∧(b=true→n1<n2))) (fun _ _ z _=>n-(intOf z).toNat)
      case atStart=>exact⟨a1,n1,c1,false,0,out,rfl,rfl,rfl,zB _,qB ⟨HR.out.1,HR.out.2.1,HR.out.2.2.1,HR.out.2.2.2.1,HR.out.2.2.2.2.1,fun _=>⟨rfl,fun j hj h=>by omega⟩,fun e=>by cases e⟩⟩
      case round=>
        clear HR;obtain⟨a2,n2,c2,b,i,out', rfl,rfl,rfl,hi,HR⟩:=hrel;rename_i wr;have c6:=HR.out.2.2.1.cell c6 (by simp);by_cases hlt:i<n
        · have hiL : i < o.L.length := by have := H.out.2.2.1; omega
          obtain⟨b1,c1', e1,hx1,hx2,hx3,r1⟩:=(H.out.2.1.fr0 HR.out.2.2.1).at hiL;rw[←H.out.2.2.1]at e1;simp only[qY,true_and]at e1;obtain⟨rfl,rfl⟩:=e1;clear hx1 hx2 hx3;have hi1:(i:Int)<n:=by omega
          have hi0:(0:Int)≤i:=by omega
          obtain⟨x0,x1,x2,x3,x4,x5,x6⟩:=r1;clear x0 x1;obtain⟨x,hx⟩:∃x,x=o.L[i]'hiL:=⟨_,rfl⟩;rw[←hx]at x2 x3 x4 x5 x6;have HX:=qB (show o.L[i]? =some x by rw[hx];exact qT hiL);clear hx hiL;go_wp2_with fail
          clear x2 x3 x4 x5;have hF1:Fr [] wr (wr.alloc (.cells #[.int .u64 x.u,.int .u64 x.v,.int .i64 x.wt,.int .i64 x.t] 42)):=(Fr.refl [] wr).alloc _;have hbx:=Blk.new wr [.int .u64 x.u,.int .u64 x.v,.int .i64 x.wt,.int .i64 x.t] 42;have x6:=hF1.cell x6 (by simp);have c6:=hF1.cell c6 (by simp);have q0:=hbx.cell 0;have q1:=hbx.cell 1;simp only[zS,zT]at q0 q1;have HRw:=qB (show RowU (wr.alloc (.cells #[.int .u64 x.u,.int .u64 x.v,.int .i64 x.wt,.int .i64 x.t] 42)) (.slice a2 n2 c2) out' ∧ Fr [] w (wr.alloc (.cells #[.int .u64 x.u,.int .u64 x.v,.int .i64 x.wt,.int .i64 x.t] 42)) from⟨HR.out.2.1.fr0 hF1,HR.out.2.2.1.trans' hF1⟩);obtain⟨rb,hrb⟩:∃rb,rb=wr.heap.size:=⟨_,rfl⟩;rw[←hrb]at q0 q1 ⊢;have HP:=qB (show n2=out'.length∧(∀q,(Value.slice a2 n2 c2).ownBlock=some q→w.heap.size≤q)∧Prt o.L f u out' ∧ (b=false→out' =out∧∀j (hj:j<o.L.length),j<i→shutE f out o.L[j])∧(b=true→n1<n2) from⟨HR.out.1,HR.out.2.2.2⟩);clear hF1 hbx hrb HR;generalize wr.alloc (.cells #[.int .u64 x.u,.int .u64 x.v,.int .i64 x.wt,.int .i64 x.t] 42)=w2 at *;have hol:out'.length≤60000:=by have h1:=HP.out.2.2.1.len;have h2:=idsL_len2 o.L _ rfl;have h3:=H.out.2.2.1;omega
          have HOL:=qB hol;clear hol;obtain⟨bu,hbu⟩:∃bu,bu=decide (x.u∈out'):=⟨_,rfl⟩;obtain⟨bv,hbv⟩:∃bv,bv=decide (x.v∈out'):=⟨_,rfl⟩;have HHu:=qB (fun(nq:Nat)=>rw_has (HRw.out.1.fr0 ((Fr.refl [] w2).drewN nq)) x.u (by have:=HOL.out;omega));have HHv:=qB (fun(nq:Nat)=>rw_has (HRw.out.1.fr0 ((Fr.refl [] w2).drewN nq)) x.v (by have:=HOL.out;omega));rw[←hbu]at HHu;rw[←hbv]at HHv;have HB:=qB (zR hbu hbv);clear hbu hbv;by_cases hfx:f≤x.x
          · have d1 : decide (x.x ≥ f) = true := qO hfx
            have d2:decide (f≤x.x)=true:=qO hfx;by_cases heq:bu=bv
            · have HS := qB (show shutE f out' x from fun _ => by have h1 := HB.out.1; have h2 := HB.out.2; rw [heq, h2] at h1; exact (decide_eq_decide.1 h1).symm)
              subst heq;clear hfx;go_quiet (first|(go_at_call 128;with_reducible refine qR (HHu.out _))|(go_at_call 128;with_reducible refine qR (HHv.out _)))
              have HF3:=(Fr.refl [] w2).drewN nq;generalize w2.drewN nq=w3 at *;have HN:Hid (n2=out'.length∧RowU w3 (.slice a2 n2 c2) out' ∧ Fr [] w w3∧(∀q,(Value.slice a2 n2 c2).ownBlock=some q→w.heap.size≤q)∧Prt o.L f u out' ∧ (b=false→out' =out∧∀j (hj:j<o.L.length),j<i+1→shutE f out o.L[j])∧(b=true→n1<n2)):=qB (by
                obtain⟨p1,p2,p3,p4,p5⟩:=HP.out;refine⟨p1,HRw.out.1.fr0 HF3,HRw.out.2.trans' HF3,p2,p3,fun e=>⟨(p4 e).1,fun j hj hji=>?_⟩,p5⟩;by_cases hji' :j<i
                · exact(p4 e).2 j hj hji'
                · have hj' : j = i := by omega
                  subst hj';have hx:o.L[j]'hj=x:=by have:=HX.out;rw[qT hj]at this;exact Option.some.inj this
                  rw[hx,←(p4 e).1];exact HS.out)
              clear HF3 HP HRw q0 q1 x6;go_wp2_with fail
              go_roundw
              case rel=>exact⟨a2,n2,c2,b,i+1,out', rfl,rfl,by go_num,by omega,HN⟩
              case measure=>simp[intOf];omega
            · have hcase : (bu = true ∧ bv = false) ∨ (bu = false ∧ bv = true) := by cases bu <;> cases bv <;> simp_all
              clear heq hfx;rcases hcase with⟨rfl,rfl⟩|⟨rfl,rfl⟩
              all_goals
                go_quiet (first|(go_at_call 128;with_reducible refine qR (HHu.out _))|(go_at_call 128;with_reducible refine qR (HHv.out _)))
                have HF3:=(Fr.refl [] w2).drewN nq;generalize w2.drewN nq=w3 at *;have q0:=HF3.cell q0 (by simp);have q1:=HF3.cell q1 (by simp);have HG:=qB (show f≤x.x∧((x.u∈out' ∧ x.v∉out')∨(x.u∉out' ∧ x.v∈out')) from⟨of_decide_eq_true d2,by have h1:=HB.out.1;have h2:=HB.out.2;first|exact .inl (by simpa using zR h1 h2)|exact .inr (by simpa using zR h1 h2)⟩);have HPut:=qB (show ∀w', Fr [] w3 w' → Calls Tryz.prog 126 #[.slice a2 n2 c2,.int .u64 x.u] w' fun e w1=>∃a1 n1 k1,e=.returned (.slice a1 n1 k1)∧Fr [] w3 w1 ∧
                    Calls Tryz.prog 126 #[.slice a1 n1 k1,.int .u64 x.v] w1 fun e w2=>∃a2 n2 k2,e=.returned (.slice a2 n2 k2)∧RowU w2 (.slice a2 n2 k2) (insN x.v (insN x.u out'))∧Fr [] w3 w2∧∀q,(Value.slice a2 n2 k2).ownBlock=some q→w.heap.size≤q from fun w' hf=>by
                  have hol:=HOL.out;have hr:=(HRw.out.1.fr0 HF3).fr0 hf;refine(rw_put hr HP.out.2.2.1.lt x.u (by omega)).mono ?_;rintro _ w1 ⟨v1,rfl,h1,hF1,hq1⟩;obtain⟨a1,k1,rfl⟩:=h1.slice;refine⟨_,_,_,rfl,hf.trans' hF1,(rw_put h1 (insN_lt HP.out.2.2.1.lt) x.v (by have:=insN_len x.u out'; have:=HP.out.2.2.1.len;have:=idsL_len2 o.L _ rfl;have:=H.out.2.2.1;omega)).mono ?_⟩;rintro _ w2 ⟨v2,rfl,h2,hF2,hq2⟩;obtain⟨a2,k2,rfl⟩:=h2.slice;refine⟨_,_,_,rfl,h2,(hf.trans' hF1).trans' hF2,fun q hq=>?_⟩;have s0:=((HRw.out.2.trans' HF3).trans' hf).size;have s1:=hF1.size;rcases hq2 q hq with e|e
                  · rcases hq1 q e with e | e
                    · exact HP.out.2.1 q e
                    · omega
                  · omega)
                have HW3:=qB (HRw.out.2.trans' HF3);have HQ:=qB (fun(w' :World) (hf:Fr [] w3 w')=>zR (hf.cell q0 (by simp)) (hf.cell q1 (by simp)));clear HF3 HRw x6;go_wp2_with fail
                go_region_held3 (fun w' => w'.cell? ⟨rb, 0, none⟩ = some (.int .u64 x.u) ∧ w'.cell? ⟨rb, 1, none⟩ = some (.int .u64 x.v))
                  (first
                    | go_keep
                    | exact HQ.out _ hfB
                    | exact HQ.out _ hfA)
                  (first
                    | (go_at_call 126;with_reducible refine Calls.mono (HPut.out _ (Fr.refl [] w3).drew) ?_;rintro r wA ⟨a3,n3,k3,rfl,hfA,hcA⟩)
                    | (go_at_call 126;with_reducible refine Calls.mono hcA ?_;rintro r wB ⟨a4,n4,k4,rfl,hB,hfB,hqB⟩))
                have HN:Hid (n4=(insN x.v (insN x.u out')).length∧RowU wB (.slice a4 n4 k4) (insN x.v (insN x.u out'))∧Fr [] w wB∧(∀q,(Value.slice a4 n4 k4).ownBlock=some q→w.heap.size≤q)∧Prt o.L f u (insN x.v (insN x.u out'))∧(true=false→insN x.v (insN x.u out')=out∧∀j (hj:j<o.L.length),j<i+1→shutE f out o.L[j])∧(true=true→n1<n4)):=qB (by
                  obtain⟨p1,p2,p3,p4,p5⟩:=HP.out;obtain⟨a5,k5,e5⟩:=hB.slice;simp only[qY]at e5;have hm:=p3.more HG.out.2;have hxm:x∈o.L:=List.mem_of_getElem? HX.out;refine⟨e5.2.1,hB,HW3.out.trans' hfB,hqB,p3.put hxm HG.out.1 (HG.out.2.imp And.left And.right),fun e=>(by cases e),fun _=>?_⟩;have:=e5.2.1;cases b with
                  | true=>have:=p5 rfl;omega
                  | false=>have h1:=(p4 rfl).1;have h2:=HN1.out.2.1;rw[h1]at hm this p1;omega)
                clear hB hfB hqB hcA hfA HPut HQ HP q0 q1;go_wp2_with fail
                go_roundw
                case rel=>exact⟨a4,n4,k4,true,i+1,_,rfl,rfl,by go_num,by omega,HN⟩
                case measure=>simp[intOf];omega
          · have d1 : decide (x.x ≥ f) = false := qK hfx
            have d2:decide (f≤x.x)=false:=qK hfx;have HS:=qB (show shutE f out' x from fun h=>(hfx h).elim);clear hfx;go_quiet (fail)
            have HF3:=(Fr.refl [] w2).drewN nq;generalize w2.drewN nq=w3 at *;have HN:Hid (n2=out'.length∧RowU w3 (.slice a2 n2 c2) out' ∧ Fr [] w w3∧(∀q,(Value.slice a2 n2 c2).ownBlock=some q→w.heap.size≤q)∧Prt o.L f u out' ∧ (b=false→out' =out∧∀j (hj:j<o.L.length),j<i+1→shutE f out o.L[j])∧(b=true→n1<n2)):=qB (by
              obtain⟨p1,p2,p3,p4,p5⟩:=HP.out;refine⟨p1,HRw.out.1.fr0 HF3,HRw.out.2.trans' HF3,p2,p3,fun e=>⟨(p4 e).1,fun j hj hji=>?_⟩,p5⟩;by_cases hji' :j<i
              · exact(p4 e).2 j hj hji'
              · have hj' : j = i := by omega
                subst hj';have hx:o.L[j]'hj=x:=by have:=HX.out;rw[qT hj]at this;exact Option.some.inj this
                rw[hx,←(p4 e).1];exact HS.out)
            clear HF3 HP HRw q0 q1 x6;go_wp2_with fail
            go_roundw
            case rel=>exact⟨a2,n2,c2,b,i+1,out', rfl,rfl,by go_num,by omega,HN⟩
            case measure=>simp[intOf];omega
        · obtain rfl : i = n := by omega
          have HN:Hid (n2=out'.length∧RowU wr (.slice a2 n2 c2) out' ∧ Fr [] w wr∧(∀q,(Value.slice a2 n2 c2).ownBlock=some q→w.heap.size≤q)∧Prt o.L f u out' ∧ (b=false→∀e∈o.L,shutE f out' e)):=qB (by
            obtain⟨p1,p2,p3,p4,p5,p6,p7⟩:=HR.out;refine⟨p1,p2,p3,p4,p5,fun e d hd=>?_⟩;obtain⟨j,hj,rfl⟩:=List.mem_iff_getElem.1 hd;rw[(p6 e).1];exact(p6 e).2 j hj (by have:=H.out.2.2.1;omega))
          have HM:Hid (partM M (.slice a2 n2 c2) (.bool b)<partM M (.slice a1 n1 c1) (.bool true)):=qB (by
            obtain⟨p1,p2,p3,p4,p5,p6,p7⟩:=HR.out;have h1:=p5.len;have h2:=H.out.2.2.2;cases b with
            | true=>have:=p7 rfl;show 1+(M-n2)<1+(M-n1);omega
            | false=>show 0<1+(M-n1);omega)
          clear HR;go_wp2_with fail
          go_roundw
          case rel=>exact⟨a2,n2,c2,b,out', rfl,rfl,HN⟩
          case measure=>exact HM.out
end
end Go.Proofs.YtgmnemndjjmgkaaGreat
namespace Go.Proofs.YtgmnemndjjmgkaaGreat
open Go.RowKit Classical
set_option maxRecDepth 10000
set_option maxHeartbeats 1600000
def codeL(L:List Lv)(l:List Nat):Nat:=if ∀x∈l,x∈idsL L then 0 else 13
section
variable {w w' :World} {p:Nat} {o:Ob} {a:Option Addr} {c:Nat}
theorem rw_check(hb:Blk w p 115 (rfC o (.slice a o.L.length c)))(hr:RowV w (.slice a o.L.length c) o.L)(hl:o.L.length≤16384){v:Value}{l:List Nat}(hv:RowU w v l)(hn:l.length≤60000):
    Calls Tryz.prog 127 #[wptr p,v] w fun e w' =>e=.returned (.int .i64 (codeL o.L l:Nat))∧Fr [] w w' :=by
 obtain⟨av,cv,rfl⟩:=hv.slice;have HV:=qB (rfv_w hb);have c6:=hb.cell 6;simp only[rfC,zS,zT]at c6;obtain⟨n,hn'⟩:∃n,n=o.L.length:=⟨_,rfl⟩;rw[←hn']at hr c6 hl;have H:=qB (zR hr (zR hv hn'));have HLN:=qB (zR hl hn);clear hb hr hv hl hn';go_enter Tryz.func127,Tryz.ntmps127
 go_wp2_with fail
 refine HV.out.mono ?_;rintro _ w ⟨rfl,rfl⟩;clear HV;go_wp2_with fail
 go_loopw [5] (fun x wr=>∃i:Nat,i≤l.length∧x=.int .i64 i∧Hid (Fr [] w wr∧∀j (hj:j<l.length),j<i→l[j]∈idsL o.L)) (fun x _=>l.length-(intOf x).toNat)
 case atStart=>exact⟨0,zB _,rfl,qB ⟨Fr.refl _ _,fun j hj h=>by omega⟩⟩
 case round=>
  obtain⟨i,hi,rfl,HR⟩:=hrel;rename_i wr;by_cases hlt:i<l.length
  {
  obtain⟨b1,c1', e1,hb1,r1⟩:=(H.out.2.1.fr0 HR.out.1).at hlt;simp only[qY,true_and]at e1;obtain⟨rfl,rfl⟩:=e1;clear hb1;have hi1:(i:Int)<l.length:=by omega
  have hi0:(0:Int)≤i:=by omega
  obtain⟨x,hx⟩:∃x,x=l[i]'hlt:=⟨_,rfl⟩;rw[←hx]at r1;have HX:=qB (show l[i]? =some x by rw[hx];exact qT hlt);clear hx;have c6:=HR.out.1.cell c6 (by simp);have HI:=qB (rw_ids (H.out.1.fr0 (HR.out.1.trans' (Fr.refl [] wr).drew)) (by have:=H.out.2.2;have:=HLN.out.1;omega));have HQ:=qB (fun(w' :World) (hf:Fr [] wr.drew w')=>zR (hf.cell (((Fr.refl [] wr).drew).cell c6 (by simp)) (by simp)) (hf.cell (((Fr.refl [] wr).drew).cell r1 (by simp)) (by simp)));obtain⟨bx,hbx⟩:∃bx,bx=decide (x∈idsL o.L):=⟨_,rfl⟩;have HBX:=qB hbx;have HIL:=qB (show(idsL o.L).length≤65536 by have:=idsL_len2 o.L _ rfl;have:=H.out.2.2;have:=HLN.out.1;omega);clear hbx;cases bx with
  | true=>{
  go_wp2_with fail
  go_region_held3 (fun w' => w'.cell? ⟨p, 6, none⟩ = some (.slice a n c) ∧ w'.cell? ⟨b1, i, none⟩ = some (.int .u64 x))
    (first
      | go_keep
      | (exact HQ.out _ hF5))
    (first
      | (go_at_call 128;refine(rw_has hr5 x HIL.out).mono ?_;rintro _ w6 ⟨hee,rfl⟩;rw[←HBX.out]at hee;subst hee)
      | (go_at_call 79;refine HI.out.mono ?_;rintro _ w5 ⟨v5,rfl,hr5,hF5,hq5⟩))
  have HN:=qB (show Fr [] w w6∧∀j (hj:j<l.length),j<i+1→l[j]∈idsL o.L from⟨(HR.out.1.trans' (Fr.refl [] wr).drew).trans' hF5,fun j hj hji=>by
    by_cases h:j<i
    · exact HR.out.2 j hj h
    · have hj' : j = i := by omega
      subst hj';have hx:l[j]'hj=x:=by have:=HX.out;rw[qT hj]at this;exact Option.some.inj this
      rw[hx];exact of_decide_eq_true HBX.out.symm⟩)
  clear hr5 hF5 hq5 HQ HI HR r1;go_wp2_with fail
  go_roundw
  case rel=>exact⟨i+1,by omega,by go_num,HN⟩
  case measure=>simp[intOf];omega}
  | false=>{
  go_wp2_with fail
  go_region_held3 (fun w' => w'.cell? ⟨p, 6, none⟩ = some (.slice a n c) ∧ w'.cell? ⟨b1, i, none⟩ = some (.int .u64 x))
    (first
      | go_keep
      | (exact HQ.out _ hF5))
    (first
      | (go_at_call 128;refine(rw_has hr5 x HIL.out).mono ?_;rintro _ w6 ⟨hee,rfl⟩;rw[←HBX.out]at hee;subst hee)
      | (go_at_call 79;refine HI.out.mono ?_;rintro _ w5 ⟨v5,rfl,hr5,hF5,hq5⟩))
  have HN:=qB (show Fr [] w w6 from(HR.out.1.trans' (Fr.refl [] wr).drew).trans' hF5);have HC:=qB (show codeL o.L l=13 from qH fun h=>absurd (h x (List.mem_of_getElem? HX.out)) (of_decide_eq_false HBX.out.symm));clear hr5 hF5 hq5 HQ HI HR r1;go_wp2_with fail
  go_ret;exact⟨by rw[HC.out];rfl,HN.out⟩}}
  {
  obtain rfl:i=l.length:=by omega
  have HC:=qB (show codeL o.L l=0 from qI fun x hx=>by
    obtain⟨j,hj,rfl⟩:=List.mem_iff_getElem.1 hx;exact HR.out.2 j hj hj)
  have HN:=qB HR.out.1;go_wp2_with fail
  go_ret;exact⟨by rw[HC.out];rfl,HN.out⟩}
end
section
variable {W wr w w' :World} {p:Nat} {o:Ob} {ts:List Th}
theorem codeL_two(L:List Lv)(u v:Nat):(codeL L [u,v]:Int)=codeI L u v:=by
 unfold codeL codeI;by_cases h:inL L u∧inL L v
 {
 rw[qI h,qI (fun x hx=>by
   rcases qF.1 hx with rfl|hx
   · exact idsL_mem.2 h.1
   · rw[qP.1 hx];exact idsL_mem.2 h.2)]
 rfl}
 {
 rw[qH h,qH (fun k=>h ⟨idsL_mem.1 (k u (by simp)),idsL_mem.1 (k v (by simp))⟩)];rfl}
theorem codeL_one(L:List Lv)(u:Nat):(codeL L [u]:Int)=codeI L u u:=by
 unfold codeL codeI;by_cases h:inL L u
 {
 rw[qI (fun x hx=>by rw[qP.1 hx];exact idsL_mem.2 h),qI ⟨h,h⟩];rfl}
 {
 rw[qH (fun k=>h (idsL_mem.1 (k u (by simp)))),qH (fun k=>h k.1)];rfl}
theorem rowU_two(w:World)(u v:Nat):RowU (w.alloc (.cells #[.int .u64 u,.int .u64 v] 26)) (.slice (some ⟨w.heap.size,0,none⟩) 2 2) [u,v]:=
  ⟨by simp[encId],.inr ⟨w.heap.size,2,#[.int .u64 u,.int .u64 v],rfl,zB _,Blk.new w [.int .u64 u,.int .u64 v] 26,qS _,by decide,by simp,by simp[encId]⟩⟩
theorem rowU_one(w:World)(u:Nat):RowU (w.alloc (.cells #[.int .u64 u] 26)) (.slice (some ⟨w.heap.size,0,none⟩) 1 1) [u]:=
  ⟨by simp[encId],.inr ⟨w.heap.size,1,#[.int .u64 u],rfl,zB _,Blk.new w [.int .u64 u] 26,qS _,by decide,by simp,by simp[encId]⟩⟩
theorem rd_conn(h:Wd W wr (thF p o::ts))(hl:o.L.length≤16384)(u v:Nat):
    Calls Tryz.prog 74 #[wptr p,.int .u64 u,.int .u64 v] wr fun e w' =>e=.returned (.tuple #[.bool (connI o.L u v),.int .i64 (codeI o.L u v)])∧Wd W w' (thF p o::ts):=by
 have hF1:Fr [] wr (wr.alloc (.cells #[.int .u64 u,.int .u64 v] 26)):=(Fr.refl [] wr).alloc _;obtain⟨_,a,c,h1,h2,_⟩:=(h.fr0 hF1).get;have HC:=qB (rw_check h1 h2 hl (rowU_two wr u v) (by simp));rw[codeL_two]at HC;have HW:=qB (h.fr0 hF1);have HP:=qB (fun(w' :World) (hf:Fr [] (wr.alloc (.cells #[.int .u64 u,.int .u64 v] 26)) w')=>rw_part (hf.blk h1 (by simp)) (h2.fr0 hf) hl u allT);obtain⟨ci,hci⟩:∃ci,ci=codeI o.L u v:=⟨_,rfl⟩;obtain⟨bi,hbi⟩:∃bi,bi=connI o.L u v:=⟨_,rfl⟩;rw[←hci]at HC ⊢;rw[←hbi];have HE:=qB (zR hci hbi);clear h h1 h2 hF1 hci hbi;by_cases hin:inL o.L u∧inL o.L v
 {
 have e:ci=0:=HE.out.1.trans (qI hin);have HB:=qB (show bi=decide (Rl o.L allT u v) by rw[HE.out.2];unfold connI;exact decide_eq_decide.2 ⟨fun k=>k.2.2,fun k=>⟨hin.1,hin.2,k⟩⟩);subst e;clear hin;go_enter Tryz.func74,Tryz.ntmps74
 go_wp2_with fail
 refine HC.out.mono ?_;rintro _ w2 ⟨rfl,hF2⟩;have HW2:=qB (HW.out.fr0 hF2);have HP2:=qB (HP.out w2 hF2);clear hF2 HP HW HC;go_wp2_with fail
 refine HP2.out.mono ?_;rintro _ w3 ⟨v3,l3,rfl,hr3,hF3,_,hlt3,hm3,hn3⟩;have HW3:=qB (HW2.out.fr0 hF3);have HH:=qB (rw_has hr3 v (by have:=idsL_len2 o.L _ rfl;omega));have HB2:=qB (show decide (v∈l3)=bi by rw[HB.out];exact decide_eq_decide.2 (hm3 v));rw[HB2.out]at HH;clear hr3 hF3 hlt3 hm3 hn3 HP2 HW2;go_wp2_with fail
 refine HH.out.mono ?_;rintro _ w3 ⟨rfl,rfl⟩;go_wp2_with fail
 go_ret2;exact⟨rfl,HW3.out⟩}
 {
 have e:ci=13:=HE.out.1.trans (qH hin);have e2:bi=false:=by rw[HE.out.2];unfold connI;exact qK fun h=>hin ⟨h.1,h.2.1⟩
 subst e;subst e2;clear hin HP;go_enter Tryz.func74,Tryz.ntmps74
 go_wp2_with fail
 refine HC.out.mono ?_;rintro _ w2 ⟨rfl,hF2⟩;have HW2:=qB (HW.out.fr0 hF2);clear hF2 HW HC;go_wp2_with fail
 go_ret2;exact⟨rfl,HW2.out⟩}
theorem rd_size(h:Wd W wr (thF p o::ts))(hl:o.L.length≤16384)(u:Nat):
    Calls Tryz.prog 75 #[wptr p,.int .u64 u] wr fun e w' =>e=.returned (.tuple #[.int .i64 (sizeI o.L u:Nat),.int .i64 (codeI o.L u u)])∧Wd W w' (thF p o::ts):=by
 have hF1:Fr [] wr (wr.alloc (.cells #[.int .u64 u] 26)):=(Fr.refl [] wr).alloc _;obtain⟨_,a,c,h1,h2,_⟩:=(h.fr0 hF1).get;have HC:=qB (rw_check h1 h2 hl (rowU_one wr u) (by simp));rw[codeL_one]at HC;have HW:=qB (h.fr0 hF1);have HP:=qB (fun(w' :World) (hf:Fr [] (wr.alloc (.cells #[.int .u64 u] 26)) w')=>rw_part (hf.blk h1 (by simp)) (h2.fr0 hf) hl u allT);obtain⟨ci,hci⟩:∃ci,ci=codeI o.L u u:=⟨_,rfl⟩;obtain⟨bi,hbi⟩:∃bi,bi=sizeI o.L u:=⟨_,rfl⟩;rw[←hci]at HC ⊢;rw[←hbi];have HE:=qB (zR hci hbi);clear h h1 h2 hF1 hci hbi;by_cases hin:inL o.L u
 {
 have e:ci=0:=HE.out.1.trans (qI ⟨hin,hin⟩);have HB:=qB (show bi=((idsL o.L).filter fun v=>decide (Rl o.L allT u v)).length by rw[HE.out.2];exact qI hin);have HI:=qB hin;subst e;clear hin;go_enter Tryz.func75,Tryz.ntmps75
 go_wp2_with fail
 refine HC.out.mono ?_;rintro _ w2 ⟨rfl,hF2⟩;have HW2:=qB (HW.out.fr0 hF2);have HP2:=qB (HP.out w2 hF2);clear hF2 HP HW HC;go_wp2_with fail
 refine HP2.out.mono ?_;rintro _ w3 ⟨v3,l3,rfl,hr3,hF3,_,hlt3,hm3,hn3⟩;have HW3:=qB (HW2.out.fr0 hF3);obtain⟨a3,k3,rfl⟩:=hr3.slice;have e3:l3.length=bi:=by {
 rw[HB.out];apply List.Perm.length_eq;rw[List.perm_ext_iff_of_nodup (hlt3.imp fun h=>Nat.ne_of_lt h) ((idsL_nodup o.L).filter _)];intro x;rw[hm3 x,zJ,decide_eq_true_eq];refine⟨fun hx=>⟨?_,hx⟩,And.right⟩;by_cases e:u=x
 · subst e;exact idsL_mem.2 HI.out
 {
 obtain⟨d,hd,h1,_⟩:=hx.last e;exact idsL_mem.2 ⟨d,hd,h1⟩}};rw[e3];clear hr3 hF3 hlt3 hm3 hn3 HP2 HW2 e3;go_wp2_with fail
 go_ret2;exact⟨rfl,HW3.out⟩}
 {
 have e:ci=13:=HE.out.1.trans (qH fun h=>hin h.1);have e2:bi=0:=HE.out.2.trans (qH hin);subst e;subst e2;clear hin HP;go_enter Tryz.func75,Tryz.ntmps75
 go_wp2_with fail
 refine HC.out.mono ?_;rintro _ w2 ⟨rfl,hF2⟩;have HW2:=qB (HW.out.fr0 hF2);clear hF2 HW HC;go_wp2_with fail
 go_ret2;exact⟨rfl,HW2.out⟩}
end
section
variable {L:List Lv} {f:Int} {a b u v:Nat}
theorem rl_thr(h:Rl L f a b)(hne:a≠b):∃e∈L,f≤e.x∧Rl L e.x a b:=by
 induction h with
 | refl=>exact absurd rfl hne
 | @step b c e0 h0 h1 h2 h3 ih=>{
 by_cases hab:a=b
 {
 subst hab;exact⟨e0,h1,h2,.step e0 (.refl _) h1 (Int.le_refl _) h3⟩}
 {
 obtain⟨e1,k1,k2,k3⟩:=ih hab;by_cases hle:e1.x≤e0.x
 · exact⟨e1,k1,k2,.step e0 k3 h1 hle h3⟩
 · exact⟨e0,h1,h2,.step e0 (k3.less (by omega)) h1 (Int.le_refl _) h3⟩}}
def UInv(L:List Lv)(u v i:Nat)(fd:Bool)(at' :Int):Prop:=
  (fd=false→at' =0∧∀j (hj:j<L.length),j<i→¬Rl L L[j].x u v)∧(fd=true→(∃e∈L,e.x=at' ∧ Rl L at' u v)∧∀j (hj:j<L.length),j<i→Rl L L[j].x u v→L[j].x≤at')
theorem UInv.zero:UInv L u v 0 false 0:=⟨fun _=>⟨rfl,fun j _ h=>by omega⟩,fun e=>by cases e⟩
theorem UInv.skip{i:Nat}{fd:Bool}{at' :Int}(h:UInv L u v i fd at')(hi:i<L.length)(hx:Rl L L[i].x u v→fd=true∧L[i].x≤at'):UInv L u v (i+1) fd at' :=by
 refine⟨fun e=>⟨(h.1 e).1,fun j hj hji hr=>?_⟩,fun e=>⟨(h.2 e).1,fun j hj hji hr=>?_⟩⟩
 {
 by_cases h' :j<i
 · exact(h.1 e).2 j hj h' hr
 {
 obtain rfl:j=i:=by omega
 rw[(hx hr).1]at e;cases e}}
 {
 by_cases h' :j<i
 · exact(h.2 e).2 j hj h' hr
 {
 obtain rfl:j=i:=by omega
 exact(hx hr).2}}
theorem UInv.take{i:Nat}{fd:Bool}{at' :Int}(h:UInv L u v i fd at')(hi:i<L.length)(hx:Rl L L[i].x u v)(ht:fd=false∨at' < L[i].x):UInv L u v (i+1) true L[i].x:=by
 refine⟨fun e=>(by cases e),fun _=>⟨⟨L[i],List.getElem_mem hi,rfl,hx⟩,fun j hj hji hr=>?_⟩⟩;by_cases h' :j<i
 {
 cases hf:fd with
 | false=>exact absurd hr ((h.1 hf).2 j hj h')
 | true=>{
 have:=(h.2 hf).2 j hj h' hr;rcases ht with e|e
 · rw[hf]at e;cases e
 · omega}}
 {
 obtain rfl:j=i:=by omega
 exact Int.le_refl _}
theorem UInv.done{fd:Bool}{at' :Int}(h:UInv L u v L.length fd at')(hne:u≠v)(hu:inL L u)(hv:inL L v)(hx:∀e∈L,allT≤e.x):untB L u v=fd∧untR L u v=at' :=by
 cases fd with
 | false=>{
 have hb:untB L u v=false:=qK fun⟨_,_,_,hr⟩=>by
   obtain⟨e,he,_,k⟩:=rl_thr hr hne;obtain⟨j,hj,rfl⟩:=List.mem_iff_getElem.1 he;exact(h.1 rfl).2 j hj hj k
 exact⟨hb,by rw[untR_no hb,(h.1 rfl).1]⟩}
 | true=>{
 obtain⟨⟨e,he,ex,hr⟩,hmax⟩:=h.2 rfl;have hb:untB L u v=true:=qO ⟨hu,hv,hne,hr.less (by rw[←ex];exact hx e he)⟩;refine⟨hb,untR_eq hb ⟨hr,fun h1=>?_⟩⟩;obtain⟨d,hd,k1,k2⟩:=rl_thr h1 hne;obtain⟨j,hj,rfl⟩:=List.mem_iff_getElem.1 hd;have:=hmax j hj hj k2;omega}
end
section
variable {W wr w w' :World} {p:Nat} {o:Ob} {ts:List Th}
theorem rd_until(h:Wd W wr (thF p o::ts))(hl:o.L.length≤16384)(hx:∀e∈o.L,allT≤e.x)(u v:Nat):
    Calls Tryz.prog 76 #[wptr p,.int .u64 u,.int .u64 v] wr fun e w' =>e=.returned (.tuple #[.int .i64 (untR o.L u v),.bool (untB o.L u v),.int .i64 (codeI o.L u v)])∧Wd W w' (thF p o::ts):=by
 have hF1:Fr [] wr (wr.alloc (.cells #[.int .u64 u,.int .u64 v] 26)):=(Fr.refl [] wr).alloc _;obtain⟨_,a,c,h1,h2,_⟩:=(h.fr0 hF1).get;have HC:=qB (rw_check h1 h2 hl (rowU_two wr u v) (by simp));rw[codeL_two]at HC;have HW:=qB (h.fr0 hF1);obtain⟨n,hn⟩:∃n,n=o.L.length:=⟨_,rfl⟩;have HP:=qB (fun(w' :World) (hf:Fr [] (wr.alloc (.cells #[.int .u64 u,.int .u64 v] 26)) w') (t:Int)=>rw_part (hf.blk h1 (by simp)) (h2.fr0 hf) hl u t);have h1' :=h1;have h2' :=h2;rw[←hn]at hl h1' h2';have H2:=qB (zR h1' (zR h2' (zR hn hx)));obtain⟨ci,hci⟩:∃ci,ci=codeI o.L u v:=⟨_,rfl⟩;obtain⟨bi,hbi⟩:∃bi,bi=untB o.L u v:=⟨_,rfl⟩;obtain⟨ri,hri⟩:∃ri,ri=untR o.L u v:=⟨_,rfl⟩;rw[←hci]at HC ⊢;rw[←hbi,←hri];have HE:=qB (zR hci (zR hbi hri));clear h h1 h2 h1' h2' hF1 hci hbi hri hn hx;by_cases hin:inL o.L u∧inL o.L v
 {
 have e:ci=0:=HE.out.1.trans (qI hin);subst e;by_cases hne:u=v
 {
 have d1:((u:Int) == v)=true:=by simp;omega
 have e1:bi=false:=by rw[HE.out.2.1];exact qK fun h=>h.2.2.1 hne
 have e2:ri=0:=by rw[HE.out.2.2];exact untR_no (by rw[←HE.out.2.1];exact e1)
 subst e1;subst e2;clear hin HP H2 hne;go_enter Tryz.func76,Tryz.ntmps76
 go_wp2_with fail
 refine HC.out.mono ?_;rintro _ w2 ⟨rfl,hF2⟩;have HW2:=qB (HW.out.fr0 hF2);clear hF2 HW HC;go_wp2_with fail
 go_ret3;exact⟨rfl,HW2.out⟩}
 {
 have d1:((u:Int) == v)=false:=by simp;omega
 have HI:=qB (zR hne hin);clear hne hin;go_enter Tryz.func76,Tryz.ntmps76
 go_wp2_with fail
 refine HC.out.mono ?_;rintro _ w2 ⟨rfl,hF2⟩;have H3:=qB (zR (hF2.blk H2.out.1 (by simp)) (zR (H2.out.2.1.fr0 hF2) H2.out.2.2));have HP2:=qB (fun(w' :World) (hf:Fr [] w2 w') (t:Int)=>HP.out w' (hF2.trans' hf) t);have HW2:=qB (HW.out.fr0 hF2);have c6:=H3.out.1.cell 6;simp only[rfC,zS,zT]at c6;clear hF2 HW HC HP H2;go_wp2_with fail
 clear d1;go_loopw [10,11,12] (fun x y z wr=>∃(at' :Int) (fd:Bool) (i:Nat),i≤n∧x=.int .i64 at' ∧ y=.bool fd∧z=.int .i64 i∧Hid (Fr [] w2 wr∧UInv o.L u v i fd at')) (fun _ _ z _=>n-(intOf z).toNat)
 case atStart=>exact⟨0,false,0,zB _,rfl,rfl,rfl,qB ⟨Fr.refl _ _,UInv.zero⟩⟩
 case round=>
  obtain⟨at', fd,i,hi,rfl,rfl,rfl,HR⟩:=hrel;rename_i wr;have c6:=HR.out.1.cell c6 (by simp);by_cases hlt:i<n
  {
  have hiL:i<o.L.length:=by have:=H3.out.2.2.1;omega
  obtain⟨b1,c1', e1,hx1,hx2,hx3,r1⟩:=(H3.out.2.1.fr0 HR.out.1).at hiL;rw[←H3.out.2.2.1]at e1;simp only[qY,true_and]at e1;obtain⟨rfl,rfl⟩:=e1;clear hx1 hx2 hx3;have hi1:(i:Int)<n:=by omega
  have hi0:(0:Int)≤i:=by omega
  obtain⟨x0,x1,x2,x3,x4,x5,x6⟩:=r1;clear x0 x1 x2 x3 x4 x5;obtain⟨t,ht⟩:∃t,t=(o.L[i]'hiL).x:=⟨_,rfl⟩;rw[←ht]at x6;have HX:=qB (show ∃h:i<o.L.length,t=(o.L[i]'h).x from⟨hiL,ht⟩);have HPt:=qB (HP2.out wr HR.out.1 t);clear ht hiL;by_cases htest:fd=true∧¬at' < t
  {
  obtain⟨rfl,hnt⟩:=htest;have d1:decide (t>at')=false:=qK hnt;have d2:decide (at' < t)=false:=qK hnt;have HN:=qB (show Fr [] w2 wr∧UInv o.L u v (i+1) true at' from⟨HR.out.1,by
    obtain⟨hiL,ht⟩:=HX.out;exact HR.out.2.skip hiL fun _=>⟨rfl,by rw[←ht];omega⟩⟩)
  clear HR hnt HPt;go_wp2_with fail
  go_roundw
  case rel=>exact⟨at', true,i+1,by omega,rfl,rfl,by go_num,HN⟩
  case measure=>simp[intOf];omega}
  {
  have hcase:fd=false∨(fd=true∧at' < t):=by {
  cases hfd:fd with
  | false=>exact .inl rfl
  | true=>exact .inr ⟨rfl,by rw[hfd]at htest;simpa using htest⟩};have HT:=qB (show fd=false∨at' < t from hcase.imp id And.right);rcases hcase with rfl|⟨rfl,htt⟩
  {
  clear htest;go_wp2_with fail
  refine HPt.out.mono ?_;rintro _ w3 ⟨v3,l3,rfl,hr3,hF3,_,hlt3,hm3,hn3⟩;have HH:=qB (rw_has hr3 v (by have h1:=idsL_len2 o.L _ rfl;have h2:=H3.out.2.2.1;omega));by_cases hr:Rl o.L t u v
  {
  rw[qO ((hm3 v).2 hr)]at HH;have HN:=qB (show Fr [] w2 w3∧UInv o.L u v (i+1) true t from⟨HR.out.1.trans' hF3,by
    obtain⟨hiL,ht⟩:=HX.out;have k:=HR.out.2;have kt:=HT.out;rw[ht]at hr kt ⊢;exact k.take hiL hr (.inl rfl)⟩)
  clear hr3 hF3 hlt3 hm3 hn3 HR HPt hr;go_wp2_with fail
  refine HH.out.mono ?_;rintro _ w3 ⟨rfl,rfl⟩;go_wp2_with fail
  go_roundw
  case rel=>exact⟨t,true,i+1,by omega,rfl,rfl,by go_num,HN⟩
  case measure=>simp[intOf];omega}
  {
  rw[qK fun h=>hr ((hm3 v).1 h)]at HH;have HN:=qB (show Fr [] w2 w3∧UInv o.L u v (i+1) false at' from⟨HR.out.1.trans' hF3,by
    obtain⟨hiL,ht⟩:=HX.out;exact HR.out.2.skip hiL fun h=>absurd (by rw[←ht]at h;exact h) hr⟩)
  clear hr3 hF3 hlt3 hm3 hn3 HR HPt hr;go_wp2_with fail
  refine HH.out.mono ?_;rintro _ w3 ⟨rfl,rfl⟩;go_wp2_with fail
  go_roundw
  case rel=>exact⟨at', false,i+1,by omega,rfl,rfl,by go_num,HN⟩
  case measure=>simp[intOf];omega}}
  {
  have d1:decide (t>at')=true:=qO htt;have d2:decide (at' < t)=true:=qO htt;clear htest htt;go_wp2_with fail
  refine HPt.out.mono ?_;rintro _ w3 ⟨v3,l3,rfl,hr3,hF3,_,hlt3,hm3,hn3⟩;have HH:=qB (rw_has hr3 v (by have h1:=idsL_len2 o.L _ rfl;have h2:=H3.out.2.2.1;omega));by_cases hr:Rl o.L t u v
  {
  rw[qO ((hm3 v).2 hr)]at HH;have HN:=qB (show Fr [] w2 w3∧UInv o.L u v (i+1) true t from⟨HR.out.1.trans' hF3,by
    obtain⟨hiL,ht⟩:=HX.out;have k:=HR.out.2;have kt:=HT.out;rw[ht]at hr kt ⊢;exact k.take hiL hr kt⟩)
  clear hr3 hF3 hlt3 hm3 hn3 HR HPt hr;go_wp2_with fail
  refine HH.out.mono ?_;rintro _ w3 ⟨rfl,rfl⟩;go_wp2_with fail
  go_roundw
  case rel=>exact⟨t,true,i+1,by omega,rfl,rfl,by go_num,HN⟩
  case measure=>simp[intOf];omega}
  {
  rw[qK fun h=>hr ((hm3 v).1 h)]at HH;have HN:=qB (show Fr [] w2 w3∧UInv o.L u v (i+1) true at' from⟨HR.out.1.trans' hF3,by
    obtain⟨hiL,ht⟩:=HX.out;exact HR.out.2.skip hiL fun h=>absurd (by rw[←ht]at h;exact h) hr⟩)
  clear hr3 hF3 hlt3 hm3 hn3 HR HPt hr;go_wp2_with fail
  refine HH.out.mono ?_;rintro _ w3 ⟨rfl,rfl⟩;go_wp2_with fail
  go_roundw
  case rel=>exact⟨at', true,i+1,by omega,rfl,rfl,by go_num,HN⟩
  case measure=>simp[intOf];omega}}}}
  {
  obtain rfl:i=n:=by omega
  have HD:=qB (show untB o.L u v=fd∧untR o.L u v=at' from UInv.done (by have:=HR.out.2;rw[H3.out.2.2.1]at this;exact this) HI.out.1 HI.out.2.1 HI.out.2.2 H3.out.2.2.2);have HW3:=qB (HW2.out.fr0 HR.out.1);clear HR;go_wp2_with fail
  go_ret3;exact⟨by rw[HE.out.2.1,HE.out.2.2,HD.out.1,HD.out.2];rfl,HW3.out⟩}}}
 {
 have e:ci=13:=HE.out.1.trans (qH hin);have e1:bi=false:=by rw[HE.out.2.1];exact qK fun h=>hin ⟨h.1,h.2.1⟩
 have e2:ri=0:=by rw[HE.out.2.2];exact untR_no (by rw[←HE.out.2.1];exact e1)
 subst e;subst e1;subst e2;clear hin HP H2;go_enter Tryz.func76,Tryz.ntmps76
 go_wp2_with fail
 refine HC.out.mono ?_;rintro _ w2 ⟨rfl,hF2⟩;have HW2:=qB (HW.out.fr0 hF2);clear hF2 HW HC;go_wp2_with fail
 go_ret3;exact⟨rfl,HW2.out⟩}
end
set_option maxHeartbeats 400000
section
variable {L:List Lv} {x:Nat}
theorem part_first{l:List Nat}(hp:l.Pairwise (· < ·))(hm:∀y,y∈l↔Rl L allT x y){i:Nat}(hi:i<(idsL L).length)(hx:(idsL L)[i]=x)(h0:0<l.length):l[0]=x↔¬∃b∈(idsL L).take i,Rl L allT x b:=by
 have hlt:=List.pairwise_iff_getElem.1 (idsL_lt L);have hmin:∀y∈l,l[0]≤y:=fun y hy=>by
   obtain⟨j,hj,rfl⟩:=List.mem_iff_getElem.1 hy;by_cases e:j=0
   · subst e;exact qS _
   · exact Nat.le_of_lt (List.pairwise_iff_getElem.1 hp 0 j h0 hj (by omega))
 constructor
 {
 rintro e ⟨b,hb,hr⟩;obtain⟨j,hj,rfl⟩:=List.mem_iff_getElem.1 hb;rw[List.length_take]at hj;rw[List.getElem_take]at hr;have h1:=hmin _ ((hm _).2 hr);have h2:=hlt j i (by omega) hi (by omega);omega}
 {
 intro h;have h1:=hmin x ((hm x).2 (.refl _));have h2:=(hm _).1 (List.getElem_mem h0);by_cases e:l[0]=x
 · exact e
 {
 exfalso
 obtain⟨d,hd,h3,_⟩:=h2.last (fun k=>e k.symm);have h4:l[0]∈idsL L:=idsL_mem.2 ⟨d,hd,h3⟩;obtain⟨j,hj,ej⟩:=List.mem_iff_getElem.1 h4;have hji:j<i:=by {
 by_cases k:j<i
 · exact k
 {
 exfalso
 by_cases k2:j=i
 · subst k2;exact e (ej.symm.trans hx)
 · have:=hlt i j hi hj (by omega);omega}};exact h ⟨l[0],by rw[←ej];exact List.mem_iff_getElem.2 ⟨j,by rw[List.length_take];omega,by rw[List.getElem_take]⟩,h2⟩}}
theorem ncl_take{i:Nat}(hi:i<(idsL L).length):ncl (Rl L allT) ((idsL L).take (i+1))=ncl (Rl L allT) ((idsL L).take i)+if ∃b∈(idsL L).take i,Rl L allT (idsL L)[i] b then 0 else 1:=by
 rw[List.take_add_one,qT hi];exact ncl_snoc (fun _ _ h=>h.symm) (fun _ _ _ h k=>h.trans k) _ _
end
section
variable {W wr w w' :World} {p:Nat} {o:Ob} {ts:List Th}
theorem rd_count(h:Wd W wr (thF p o::ts))(hl:o.L.length≤16384):Calls Tryz.prog 61 #[wptr p] wr fun e w' =>e=.returned (.tuple #[.int .i64 o.L.length,.int .i64 (idsL o.L).length,.int .i64 (compI o.L:Nat)])∧Fr [] wr w' :=by
 obtain⟨_,a,c,h1,h2,_⟩:=h.get;have HV:=qB (rfv_w h1);have HI:=qB (rw_ids h2 hl);have c6:=h1.cell 6;simp only[rfC,zS,zT]at c6;have HP:=qB (fun(w' :World) (hf:Fr [] wr w') (u:Nat)=>rw_part (hf.blk h1 (by simp)) (h2.fr0 hf) hl u allT);obtain⟨n,hn⟩:∃n,n=o.L.length:=⟨_,rfl⟩;rw[←hn]at c6 HI ⊢;have hnl:n≤16384:=by rw[hn];exact hl
 clear hl;obtain⟨ds,hds⟩:∃ds,ds=idsL o.L:=⟨_,rfl⟩;have hdl:ds.length≤32768:=by rw[hds];have h3:=idsL_len2 o.L _ rfl;rw[←hn]at h3;omega
 rw[←hds]at HI ⊢;obtain⟨nd,hnd⟩:∃nd,nd=ds.length:=⟨_,rfl⟩;rw[←hnd]at hdl ⊢;obtain⟨ci,hci⟩:∃ci,ci=compI o.L:=⟨_,rfl⟩;rw[←hci];have hcl:ci≤nd:=by rw[hci,hnd,hds];exact(show ncl (Rl o.L allT) (idsL o.L)≤(idsL o.L).length from ncl_le _)
 have HE:=qB (zR hds (zR hnd hci));clear h h1 h2 hn hds hnd hci;go_enter Tryz.func61,Tryz.ntmps61
 go_wp2_with fail
 refine HV.out.mono ?_;rintro _ wr ⟨rfl,rfl⟩;go_wp2_with fail
 refine HI.out.mono ?_;rintro _ w2 ⟨v2,rfl,hr2,hF2,_⟩;obtain⟨a2,k2,rfl⟩:=hr2.slice;rw[←HE.out.2.1]at hr2 ⊢;have HR2:=qB (zR hr2 hF2);have c6:=hF2.cell c6 (by simp);clear hr2 hF2 HI HV;go_wp2_with fail
 go_loopw [6,7] (fun x z wr=>∃i k:Nat,i≤nd∧k≤i∧x=.int .i64 k∧z=.int .i64 i∧Hid (Fr [] w2 wr∧k=ncl (Rl o.L allT) (ds.take i))) (fun _ z _=>nd-(intOf z).toNat)
 case atStart=>exact⟨0,0,zB _,zB _,rfl,rfl,qB ⟨Fr.refl _ _,rfl⟩⟩
 case round=>
  obtain⟨i,k,hi,hki,rfl,rfl,HR⟩:=hrel;rename World=>wx
  by_cases hlt:i<nd
  {
  have hiL:i<ds.length:=by have:=HE.out.2.1;omega
  obtain⟨b1,c1', e1,hb1,r1⟩:=(HR2.out.1.fr0 HR.out.1).at hiL;rw[←HE.out.2.1]at e1;simp only[qY,true_and]at e1;obtain⟨rfl,rfl⟩:=e1;clear hb1;have hi1:(i:Int)<nd:=by omega
  have hi0:(0:Int)≤i:=by omega
  obtain⟨x,hx⟩:∃x,x=ds[i]'hiL:=⟨_,rfl⟩;rw[←hx]at r1;have HX:=qB (show ∃h:i<ds.length,x=ds[i]'h from⟨hiL,hx⟩);clear hx hiL;have HPx:=qB (HP.out wx.drew ((HR2.out.2.trans' HR.out.1).trans' (Fr.refl [] wx).drew) x);have HQ:=qB (fun(w' :World) (hf:Fr [] wx.drew w')=>hf.cell (((Fr.refl [] wx).drew).cell r1 (by simp)) (by simp));go_wp2_with fail
  go_region_with (go_at_call 118;refine HPx.out.mono ?_;rintro _ w3 ⟨v3,l3,rfl,hr3,hF3,_,hlt3,hm3,hn3⟩;have h0:0<l3.length:=List.length_pos_iff_exists_mem.2 ⟨x,(hm3 x).2 (.refl _)⟩;obtain⟨b3,k3,e3,hb3,q3⟩:=hr3.at h0;subst e3;obtain⟨x3,hx3⟩:∃x3,x3=l3[0]'h0:=⟨_,rfl⟩;rw[←hx3]at q3;have H3:=qB (zR hF3 (zR hlt3 (zR hm3 (show ∃h:0<l3.length,x3=l3[0]'h from⟨h0,hx3⟩))));have h0i:(0:Int)<l3.length:=(by omega);have r3:=HQ.out _ hF3;clear hx3 hb3 hlt3 hm3 hn3 hr3 hF3)
  all_goals
   have HL:=qB (show x3=x↔¬∃b∈ds.take i,Rl o.L allT x b by
     obtain⟨_,k2,k3,h0,e0⟩:=H3.out;obtain⟨hiL,ex⟩:=HX.out;rw[e0];have hds:=HE.out.1;subst hds;exact part_first k2 k3 hiL ex.symm h0)
   have HS:=qB (show ncl (Rl o.L allT) (ds.take (i+1))=k+if x3=x then 1 else 0 by
     obtain⟨hiL,ex⟩:=HX.out;have hk:=HR.out.2;have hds:=HE.out.1;have hl:=HL.out;subst hds;rw[ncl_take hiL,←hk,←ex];by_cases e:x3=x
     · rw[qI e,qH (hl.1 e)]
     · rw[qH e,qI (Classical.not_not.1 fun h=>e (hl.2 h))])
   have HF:=qB ((HR.out.1.trans' (Fr.refl [] wx).drew).trans' H3.out.1);by_cases hxx:x3=x
   {
   have d1:((x3:Int) == x)=true:=by simp;omega
   have HN:=qB (show Fr [] w2 _∧k+1=ncl (Rl o.L allT) (ds.take (i+1)) from⟨HF.out,by rw[HS.out,qI hxx]⟩);clear hxx HL HS HF H3 HPx HQ HR r1 q3 r3 h0 h0i;try rw[d1]
   go_wp2_with fail
   go_roundw
   case rel=>exact⟨i+1,k+1,by omega,by omega,by go_num,by go_num,HN⟩
   case measure=>simp[intOf];omega}
   {
   have d1:((x3:Int) == x)=false:=by simp;omega
   have HN:=qB (show Fr [] w2 _∧k=ncl (Rl o.L allT) (ds.take (i+1)) from⟨HF.out,by rw[HS.out,qH hxx];rfl⟩);clear hxx HL HS HF H3 HPx HQ HR r1 q3 r3 h0 h0i;try rw[d1]
   go_wp2_with fail
   go_roundw
   case rel=>exact⟨i+1,k,by omega,by omega,rfl,by go_num,HN⟩
   case measure=>simp[intOf];omega}}
  {
  obtain rfl:i=nd:=by omega
  have HK:=qB (show k=ci by
    rw[HR.out.2,HE.out.2.2,HE.out.2.1,List.take_length,HE.out.1];rfl)
  have HF:=qB (HR2.out.2.trans' HR.out.1);have c6:=HR.out.1.cell c6 (by simp);clear HR;go_wp2_with fail
  go_ret3;exact⟨by rw[HK.out];rfl,HF.out⟩}
end
end Go.Proofs.YtgmnemndjjmgkaaGreat
namespace Go.Proofs.YtgmnemndjjmgkaaGreat
open Go.RowKit
set_option maxRecDepth 10000
set_option maxHeartbeats 1600000
section
variable {W wr w w' :World} {ts:List Th}
theorem rd_new_no(m E V D:Int)(w:World)(hc:cfgB m E V D=false):
    Calls Tryz.prog 60 #[.agg #[.int .i64 m,.int .i64 E,.int .i64 V,.int .i64 D]] w fun e w' =>e=.returned (.tuple #[.pointer none,.int .i64 2])∧Fr [] w w' :=by
 have hb:=Blk.new w [.int .i64 m,.int .i64 E,.int .i64 V,.int .i64 D] 55;have r0:=hb.cell 0;have r1:=hb.cell 1;have r2:=hb.cell 2;have r3:=hb.cell 3;simp only[zS,zT]at r0 r1 r2 r3;have HR:=qB (right_w m E V D (w.alloc (.cells #[.int .i64 m,.int .i64 E,.int .i64 V,.int .i64 D] 55)));rw[hc]at HR;have HF:=qB ((Fr.refl [] w).alloc (.cells #[.int .i64 m,.int .i64 E,.int .i64 V,.int .i64 D] 55));clear hb hc;go_enter Tryz.func60,Tryz.ntmps60
 go_wp2_with fail
 refine HR.out.mono ?_;rintro _ w2 ⟨rfl,hF2⟩;have HF2:=qB (HF.out.trans' hF2);clear hF2 HF HR r0 r1 r2 r3;go_wp2_with fail
 go_ret2;exact⟨rfl,HF2.out⟩
theorem rd_new(h:Wd W wr ts)(m D:Int)(E V:Nat)(hc:cfgB m E V D=true):
    Calls Tryz.prog 60 #[.agg #[.int .i64 m,.int .i64 E,.int .i64 V,.int .i64 D]] wr fun e w' =>∃q,e=.returned (.tuple #[wptr q,.int .i64 0])∧Wd W w' (thF q (Ob.new m E V D 0)::ts):=by
 have hb:=Blk.new wr [.int .i64 m,.int .i64 E,.int .i64 V,.int .i64 D] 55;have r0:=hb.cell 0;have r1:=hb.cell 1;have r2:=hb.cell 2;have r3:=hb.cell 3;simp only[zS,zT]at r0 r1 r2 r3;have HR:=qB (right_w m E V D (wr.alloc (.cells #[.int .i64 m,.int .i64 E,.int .i64 V,.int .i64 D] 55)));rw[hc]at HR;have HF:=qB ((Fr.refl [] wr).alloc (.cells #[.int .i64 m,.int .i64 E,.int .i64 V,.int .i64 D] 55));have HW:=qB h;clear hb hc h;go_enter Tryz.func60,Tryz.ntmps60
 go_wp2_with fail
 refine HR.out.mono ?_;rintro _ w2 ⟨rfl,hF2⟩;have r0:=hF2.cell r0 (by simp);have r1:=hF2.cell r1 (by simp);have r2:=hF2.cell r2 (by simp);have r3:=hF2.cell r3 (by simp);have HN:=qB (show Wd W (w2.alloc (.cells #[.bool true,.int .i64 m,.int .i64 E,.int .i64 V,.int .i64 D,.int .i64 0,.slice none 0 0,.int .u64 0,.int .u64 0] 115)) (thF w2.heap.size (Ob.new m E V D 0)::ts) from by
   have hF:Fr [] w2 (w2.alloc (.cells #[.bool true,.int .i64 m,.int .i64 E,.int .i64 V,.int .i64 D,.int .i64 0,.slice none 0 0,.int .u64 0,.int .u64 0] 115)):=(Fr.refl [] w2).alloc _;refine(HW.out.fr0 (HF.out.trans' hF2)).new (K:=[w2.heap.size]) hF ⟨none,0,?_,⟨rfl,.inl ⟨rfl,rfl⟩⟩,(fun q hq=>by cases hq),rfl⟩ (fun q hq=>Nat.le_of_eq (qP.1 hq).symm);exact Blk.new w2 (rfC (Ob.new m E V D 0) (.slice none 0 0)) 115)
 clear hF2 HF HR HW;go_wp2_with fail
 go_ret2;exact⟨_,rfl,HN.out⟩
end
set_option maxHeartbeats 800000
section
variable {w:World}
theorem rn_valid:Calls Tryz.prog 117 #[.pointer none] w fun e w' =>e=.returned (.bool false)∧w' =w:=by
 go_enter Tryz.func117,Tryz.ntmps117
 go_wp2
 go_ret;exact⟨rfl,rfl⟩
theorem rn_count:Calls Tryz.prog 61 #[.pointer none] w fun e w' =>e=.returned (.tuple #[.int .i64 0,.int .i64 0,.int .i64 0])∧w' =w:=by
 have HV:=qB (rn_valid (w:=w));go_enter Tryz.func61,Tryz.ntmps61
 go_wp2_with fail
 refine HV.out.mono ?_;rintro _ w ⟨rfl,rfl⟩;go_wp2
 go_ret3;exact⟨rfl,rfl⟩
theorem rn_added:Calls Tryz.prog 62 #[.pointer none] w fun e w' =>e=.returned (.tuple #[.int .u64 0,.int .u64 0])∧w' =w:=by
 have HV:=qB (rn_valid (w:=w));go_enter Tryz.func62,Tryz.ntmps62
 go_wp2_with fail
 refine HV.out.mono ?_;rintro _ w ⟨rfl,rfl⟩;go_wp2
 go_ret2;exact⟨rfl,rfl⟩
theorem rn_version:Calls Tryz.prog 63 #[.pointer none] w fun e w' =>e=.returned (.int .u64 0)∧w' =w:=by
 have HV:=qB (rn_added (w:=w));go_enter Tryz.func63,Tryz.ntmps63
 go_wp2_with fail
 refine HV.out.mono ?_;rintro _ w ⟨rfl,rfl⟩;go_wp2
 go_ret;exact⟨rfl,rfl⟩
theorem rn_now:Calls Tryz.prog 64 #[.pointer none] w fun e w' =>e=.returned (.int .i64 0)∧w' =w:=by
 have HV:=qB (rn_valid (w:=w));go_enter Tryz.func64,Tryz.ntmps64
 go_wp2_with fail
 refine HV.out.mono ?_;rintro _ w ⟨rfl,rfl⟩;go_wp2
 go_ret;exact⟨rfl,rfl⟩
theorem rn_live:Calls Tryz.prog 66 #[.pointer none] w fun e w' =>e=.returned (.slice none 0 0)∧w' =w:=by
 have HV:=qB (rn_valid (w:=w));go_enter Tryz.func66,Tryz.ntmps66
 go_wp2_with fail
 refine HV.out.mono ?_;rintro _ w ⟨rfl,rfl⟩;go_wp2
 go_ret;exact⟨rfl,rfl⟩
theorem rn_ids:Calls Tryz.prog 67 #[.pointer none] w fun e w' =>e=.returned (.slice none 0 0)∧w' =w:=by
 have HV:=qB (rn_valid (w:=w));go_enter Tryz.func67,Tryz.ntmps67
 go_wp2_with fail
 refine HV.out.mono ?_;rintro _ w ⟨rfl,rfl⟩;go_wp2
 go_ret;exact⟨rfl,rfl⟩
theorem rn_copy:Calls Tryz.prog 73 #[.pointer none] w fun e w' =>e=.returned (.pointer none)∧w' =w:=by
 have HV:=qB (rn_valid (w:=w));go_enter Tryz.func73,Tryz.ntmps73
 go_wp2_with fail
 refine HV.out.mono ?_;rintro _ w ⟨rfl,rfl⟩;go_wp2
 go_ret;exact⟨rfl,rfl⟩
theorem rn_tick(t:Int):Calls Tryz.prog 72 #[.pointer none,.int .i64 t] w fun e w' =>e=.returned (.int .i64 1)∧w' =w:=by
 have HV:=qB (rn_valid (w:=w));go_enter Tryz.func72,Tryz.ntmps72
 go_wp2_with fail
 refine HV.out.mono ?_;rintro _ w ⟨rfl,rfl⟩;go_wp2
 go_ret;exact⟨rfl,rfl⟩
theorem rn_add(u v:Nat)(wt t:Int):Calls Tryz.prog 71 #[.pointer none,recA u v wt t] w fun e w' =>e=.returned (.int .i64 1)∧Fr [] w w' :=by
 have HV:=qB (rn_valid (w:=w.alloc (.cells #[.int .u64 u,.int .u64 v,.int .i64 wt,.int .i64 t] 42)));have HF:=qB ((Fr.refl [] w).alloc (.cells #[.int .u64 u,.int .u64 v,.int .i64 wt,.int .i64 t] 42));go_enter Tryz.func71,Tryz.ntmps71
 go_wp2_with fail
 refine HV.out.mono ?_;rintro _ w2 ⟨rfl,rfl⟩;go_wp2
 go_ret;exact⟨rfl,HF.out⟩
theorem rn_config:Calls Tryz.prog 65 #[.pointer none] w fun e w' =>e=.returned (.agg #[.int .i64 0,.int .i64 0,.int .i64 0,.int .i64 0])∧Fr [] w w' :=by
 have hb:=Blk.new w [.int .i64 0,.int .i64 0,.int .i64 0,.int .i64 0] 55;have r0:=hb.cell 0;have r1:=hb.cell 1;have r2:=hb.cell 2;have r3:=hb.cell 3;simp only[zS,zT]at r0 r1 r2 r3;have HV:=qB (rn_valid (w:=w.alloc (.cells #[.int .i64 0,.int .i64 0,.int .i64 0,.int .i64 0] 55)));have HF:=qB ((Fr.refl [] w).alloc (.cells #[.int .i64 0,.int .i64 0,.int .i64 0,.int .i64 0] 55));clear hb;go_enter Tryz.func65,Tryz.ntmps65
 go_wp2_with fail
 refine HV.out.mono ?_;rintro _ w2 ⟨rfl,rfl⟩;go_wp2
 exact bodyPost_ret (v:=.agg #[.int .i64 0,.int .i64 0,.int .i64 0,.int .i64 0]) (by simp[results,Tryz.results65,go_sem,r0,r1,r2,r3]) rfl ⟨rfl,HF.out⟩
theorem rn_check(v:Value):Calls Tryz.prog 127 #[.pointer none,v] w fun e w' =>e=.returned (.int .i64 1)∧w' =w:=by
 have HV:=qB (rn_valid (w:=w));go_enter Tryz.func127,Tryz.ntmps127
 go_wp2_with fail
 refine HV.out.mono ?_;rintro _ w ⟨rfl,rfl⟩;go_wp2
 go_ret;exact⟨rfl,rfl⟩
theorem rn_conn(u v:Nat):Calls Tryz.prog 74 #[.pointer none,.int .u64 u,.int .u64 v] w fun e w' =>e=.returned (.tuple #[.bool false,.int .i64 1])∧Fr [] w w' :=by
 have HC:=qB (fun v w' =>rn_check (w:=w') v);have HF:=qB ((Fr.refl [] w).alloc (.cells #[.int .u64 u,.int .u64 v] 26));go_enter Tryz.func74,Tryz.ntmps74
 go_wp2_with fail
 refine(HC.out _ _).mono ?_;rintro _ w2 ⟨rfl,rfl⟩;go_wp2
 go_ret2;exact⟨rfl,HF.out⟩
theorem rn_size(u:Nat):Calls Tryz.prog 75 #[.pointer none,.int .u64 u] w fun e w' =>e=.returned (.tuple #[.int .i64 0,.int .i64 1])∧Fr [] w w' :=by
 have HC:=qB (fun v w' =>rn_check (w:=w') v);have HF:=qB ((Fr.refl [] w).alloc (.cells #[.int .u64 u] 26));go_enter Tryz.func75,Tryz.ntmps75
 go_wp2_with fail
 refine(HC.out _ _).mono ?_;rintro _ w2 ⟨rfl,rfl⟩;go_wp2
 go_ret2;exact⟨rfl,HF.out⟩
theorem rn_until(u v:Nat):Calls Tryz.prog 76 #[.pointer none,.int .u64 u,.int .u64 v] w fun e w' =>e=.returned (.tuple #[.int .i64 0,.bool false,.int .i64 1])∧Fr [] w w' :=by
 have HC:=qB (fun v w' =>rn_check (w:=w') v);have HF:=qB ((Fr.refl [] w).alloc (.cells #[.int .u64 u,.int .u64 v] 26));go_enter Tryz.func76,Tryz.ntmps76
 go_wp2_with fail
 refine(HC.out _ _).mono ?_;rintro _ w2 ⟨rfl,rfl⟩;go_wp2
 go_ret3;exact⟨rfl,HF.out⟩
end
def BadW(w:World)(v:Value):Prop:=v=.pointer none∨∃b,v=wptr b∧w.cell? ⟨b,4,none⟩=some (.pointer none)
theorem BadW.fr{w w' :World}{v:Value}{S:List Nat}(h:BadW w v)(hf:Fr S w w')(hs:∀b,v=wptr b→b∉S):BadW w' v:=by
 rcases h with h|⟨b,h,c⟩
 · exact .inl h
 · exact .inr ⟨b,h,hf.cell c (hs b h)⟩
theorem BadW.fr0{w w' :World}{v:Value}(h:BadW w v)(hf:Fr [] w w'):BadW w' v:=h.fr hf (by simp)
theorem BadW.none(w:World):BadW w (.pointer none):=.inl rfl
section
variable {w:World} {v:Value}
theorem bad_valid(h:BadW w v):Calls Tryz.prog 41 #[v] w fun e w' =>e=.returned (.bool false)∧w' =w:=by
 rcases h with rfl|⟨b,rfl,c4⟩
 {
 go_enter Tryz.func41,Tryz.ntmps41
 go_wp2
 go_ret;exact⟨rfl,rfl⟩}
 {
 go_enter Tryz.func41,Tryz.ntmps41
 go_wp2
 go_ret;exact⟨rfl,rfl⟩}
theorem bad_count(h:BadW w v):Calls Tryz.prog 18 #[v] w fun e w' =>e=.returned (.tuple #[.int .i64 0,.int .i64 0,.int .i64 0])∧w' =w:=by
 have HV:=qB (bad_valid h);clear h;go_enter Tryz.func18,Tryz.ntmps18
 go_wp2_with fail
 refine HV.out.mono ?_;rintro _ w ⟨rfl,rfl⟩;go_wp2
 go_ret3;exact⟨rfl,rfl⟩
theorem bad_added(h:BadW w v):Calls Tryz.prog 23 #[v] w fun e w' =>e=.returned (.tuple #[.int .u64 0,.int .u64 0])∧w' =w:=by
 have HV:=qB (bad_valid h);clear h;go_enter Tryz.func23,Tryz.ntmps23
 go_wp2_with fail
 refine HV.out.mono ?_;rintro _ w ⟨rfl,rfl⟩;go_wp2
 go_ret2;exact⟨rfl,rfl⟩
theorem bad_version(h:BadW w v):Calls Tryz.prog 22 #[v] w fun e w' =>e=.returned (.int .u64 0)∧w' =w:=by
 have HV:=qB (bad_valid h);clear h;go_enter Tryz.func22,Tryz.ntmps22
 go_wp2_with fail
 refine HV.out.mono ?_;rintro _ w ⟨rfl,rfl⟩;go_wp2
 go_ret;exact⟨rfl,rfl⟩
theorem bad_now(h:BadW w v):Calls Tryz.prog 16 #[v] w fun e w' =>e=.returned (.int .i64 0)∧w' =w:=by
 have HV:=qB (bad_valid h);clear h;go_enter Tryz.func16,Tryz.ntmps16
 go_wp2_with fail
 refine HV.out.mono ?_;rintro _ w ⟨rfl,rfl⟩;go_wp2
 go_ret;exact⟨rfl,rfl⟩
theorem bad_live(h:BadW w v):Calls Tryz.prog 19 #[v] w fun e w' =>e=.returned (.slice none 0 0)∧w' =w:=by
 have HV:=qB (bad_valid h);clear h;go_enter Tryz.func19,Tryz.ntmps19
 go_wp2_with fail
 refine HV.out.mono ?_;rintro _ w ⟨rfl,rfl⟩;go_wp2
 go_ret;exact⟨rfl,rfl⟩
theorem bad_ids(h:BadW w v):Calls Tryz.prog 24 #[v] w fun e w' =>e=.returned (.slice none 0 0)∧w' =w:=by
 have HV:=qB (bad_valid h);clear h;go_enter Tryz.func24,Tryz.ntmps24
 go_wp2_with fail
 refine HV.out.mono ?_;rintro _ w ⟨rfl,rfl⟩;go_wp2
 go_ret;exact⟨rfl,rfl⟩
theorem bad_copy(h:BadW w v):Calls Tryz.prog 20 #[v] w fun e w' =>e=.returned (.pointer none)∧w' =w:=by
 have HV:=qB (bad_valid h);clear h;go_enter Tryz.func20,Tryz.ntmps20
 go_wp2_with fail
 refine HV.out.mono ?_;rintro _ w ⟨rfl,rfl⟩;go_wp2
 go_ret;exact⟨rfl,rfl⟩
theorem bad_tick(h:BadW w v)(t:Int):Calls Tryz.prog 17 #[v,.int .i64 t] w fun e w' =>e=.returned (.int .i64 1)∧w' =w:=by
 have HV:=qB (bad_valid h);clear h;go_enter Tryz.func17,Tryz.ntmps17
 go_wp2_with fail
 refine HV.out.mono ?_;rintro _ w ⟨rfl,rfl⟩;go_wp2
 go_ret;exact⟨rfl,rfl⟩
theorem bad_add(h:BadW w v)(u x:Nat)(wt t:Int):Calls Tryz.prog 21 #[v,recA u x wt t] w fun e w' =>e=.returned (.int .i64 1)∧Fr [] w w' :=by
 have HV:=qB (bad_valid (h.fr0 ((Fr.refl [] w).alloc (.cells #[.int .u64 u,.int .u64 x,.int .i64 wt,.int .i64 t] 42))));clear h;have HF:=qB ((Fr.refl [] w).alloc (.cells #[.int .u64 u,.int .u64 x,.int .i64 wt,.int .i64 t] 42));go_enter Tryz.func21,Tryz.ntmps21
 go_wp2_with fail
 refine HV.out.mono ?_;rintro _ w1 ⟨rfl,rfl⟩;go_wp2
 go_ret;exact⟨rfl,HF.out⟩
theorem bad_ends(h:BadW w v)(u x:Nat):Calls Tryz.prog 38 #[v,.int .u64 u,.int .u64 x] w fun e w' =>e=.returned (.tuple #[.int .i64 0,.int .i64 0,.int .i64 1])∧w' =w:=by
 have HV:=qB (bad_valid h);clear h;go_enter Tryz.func38,Tryz.ntmps38
 go_wp2_with fail
 refine HV.out.mono ?_;rintro _ w ⟨rfl,rfl⟩;go_wp2
 go_ret3;exact⟨rfl,rfl⟩
theorem bad_connected(h:BadW w v)(u x:Nat):Calls Tryz.prog 15 #[v,.int .u64 u,.int .u64 x] w fun e w' =>e=.returned (.tuple #[.bool false,.int .i64 1])∧w' =w:=by
 have HV:=qB (bad_ends h u x);clear h;go_enter Tryz.func15,Tryz.ntmps15
 go_wp2_with fail
 refine HV.out.mono ?_;rintro _ w ⟨rfl,rfl⟩;go_wp2
 go_ret2;exact⟨rfl,rfl⟩
theorem bad_until(h:BadW w v)(u x:Nat):Calls Tryz.prog 14 #[v,.int .u64 u,.int .u64 x] w fun e w' =>e=.returned (.tuple #[.int .i64 0,.bool false,.int .i64 1])∧w' =w:=by
 have HV:=qB (bad_ends h u x);clear h;go_enter Tryz.func14,Tryz.ntmps14
 go_wp2_with fail
 refine HV.out.mono ?_;rintro _ w ⟨rfl,rfl⟩;go_wp2
 go_ret3;exact⟨rfl,rfl⟩
theorem bad_size(h:BadW w v)(u:Nat):Calls Tryz.prog 26 #[v,.int .u64 u] w fun e w' =>e=.returned (.tuple #[.int .i64 0,.int .i64 1])∧w' =w:=by
 have HV:=qB (bad_ends h u u);clear h;go_enter Tryz.func26,Tryz.ntmps26
 go_wp2_with fail
 refine HV.out.mono ?_;rintro _ w ⟨rfl,rfl⟩;go_wp2
 go_ret2;exact⟨rfl,rfl⟩
theorem bad_config(h:BadW w v):Calls Tryz.prog 33 #[v] w fun e w' =>e=.returned (.agg #[.int .i64 0,.int .i64 0,.int .i64 0,.int .i64 0])∧Fr [] w w' :=by
 have HV:=qB (bad_valid (h.fr0 ((Fr.refl [] w).alloc (.cells #[.int .i64 0,.int .i64 0,.int .i64 0,.int .i64 0] 55))));clear h;have HF:=qB ((Fr.refl [] w).alloc (.cells #[.int .i64 0,.int .i64 0,.int .i64 0,.int .i64 0] 55));have hb:=Blk.new w [.int .i64 0,.int .i64 0,.int .i64 0,.int .i64 0] 55;have r0:=hb.cell 0;have r1:=hb.cell 1;have r2:=hb.cell 2;have r3:=hb.cell 3;simp only[zS,zT]at r0 r1 r2 r3;clear hb;go_enter Tryz.func33,Tryz.ntmps33
 go_wp2_with fail
 refine HV.out.mono ?_;rintro _ w1 ⟨rfl,rfl⟩;go_wp2
 exact bodyPost_ret (v:=.agg #[.int .i64 0,.int .i64 0,.int .i64 0,.int .i64 0]) (by simp[results,Tryz.results33,go_sem,r0,r1,r2,r3]) rfl ⟨rfl,HF.out⟩
end
set_option maxHeartbeats 400000
def thN(f:Nat→Ob→Th)(v:Value)(so:Option Ob):Th:=
  ⟨fun w K=>match so with|some o=>∃p,v=wptr p∧(f p o).P w K|none=>v=.pointer none∧K=[],
    fun {w K} h=>by
      cases so with
      | none=>rw[h.2];simp
      | some o=>obtain⟨p,_,h⟩:=h;exact(f p o).lt h,
    fun {w w' S K} h hf hs=>by
      cases so with
      | none=>exact h
      | some o=>obtain⟨p,e,h⟩:=h;exact⟨p,e,(f p o).fr h hf hs⟩⟩
def qL:Option Ob→List Lv|some o=>o.L|none=>[]
def qA:Option Ob→Nat|some o=>o.last|none=>0
def qG:Option Ob→Nat|some o=>o.gone|none=>0
def qN:Option Ob→Int|some o=>o.now|none=>0
def qM:Option Ob→Int|some o=>o.m|none=>0
def qE:Option Ob→Nat|some o=>o.E|none=>0
def qV:Option Ob→Nat|some o=>o.V|none=>0
def qD:Option Ob→Int|some o=>o.D|none=>0
noncomputable def qC(so:Option Ob)(u v:Nat):Int:=match so with|some o=>codeI o.L u v|none=>1
def qAddC(so:Option Ob)(u v:Nat)(t:Int):Nat:=match so with|some o=>o.addC u v t|none=>1
def qAdd(so:Option Ob)(u v:Nat)(wt t:Int):Option Ob:=match so with|some o=>some (o.add u v wt t)|none=>none
def qTickC(so:Option Ob)(t:Int):Int:=match so with|some o=>chkT o.m o.now t|none=>1
def qTick(so:Option Ob)(t:Int):Option Ob:=match so with|some o=>some (o.tickS t)|none=>none
def QOk(so:Option Ob):Prop:=∀o,so=some o→o.Ok
theorem connI_nil(u v:Nat):connI [] u v=false:=by unfold connI inL;simp
theorem sizeI_nil(u:Nat):sizeI [] u=0:=by unfold sizeI inL;simp
theorem untB_nil(u v:Nat):untB [] u v=false:=by unfold untB inL;simp
theorem untR_nil(u v:Nat):untR [] u v=0:=untR_no (untB_nil u v)
section
variable {W wr w w' :World} {f:Nat→Ob→Th} {v:Value} {so:Option Ob} {o:Ob} {ts:List Th} {p:Nat}
theorem Wd.head{t:Th}(h:Wd W wr (t::ts)):∃K,t.P wr K∧∀t' :Th,t'.P wr K→Wd W wr (t' :: ts):=by
 obtain⟨K,h1,hs⟩:=h.open;exact⟨K,h1,fun t' h' =>hs ⟨K,h', Fr.refl _ _,fun q hq=>.inl hq⟩⟩
theorem Wd.isW(h:Wd W wr (thN f v (some o)::ts)):∃p,v=wptr p∧Wd W wr (f p o::ts):=by
 obtain⟨K,⟨p,e,h1⟩,hs⟩:=h.head;exact⟨p,e,hs _ h1⟩
theorem Wd.back(h:Wd W wr (f p o::ts)):Wd W wr (thN f (wptr p) (some o)::ts):=by
 obtain⟨K,h1,hs⟩:=h.head;exact hs _ ⟨p,rfl,h1⟩
theorem Wd.isN(h:Wd W wr (thN f v none::ts)):v=.pointer none:=by
 obtain⟨K,h1,_⟩:=h.head;exact h1.1
theorem Wd.mkNil(h:Wd W wr ts):Wd W wr (thN f (.pointer none) none::ts):=h.new (K:=[]) (Fr.refl _ _) ⟨rfl,rfl⟩ (by simp)
theorem pv_count(h:Wd W wr (thN thO v so::ts)):Calls Tryz.prog 18 #[v] wr fun e w' =>e=.returned (.tuple #[.int .i64 (qL so).length,.int .i64 (idsL (qL so)).length,.int .i64 (compI (qL so):Nat)])∧Wd W w' (thN thO v so::ts):=by
 cases so with
 | none=>{
 obtain rfl:=h.isN;refine(bad_count (BadW.none wr)).mono ?_;rintro _ w' ⟨rfl,hF⟩;exact⟨rfl,hF▸h⟩}
 | some o=>{
 obtain⟨p,rfl,h1⟩:=h.isW;refine(td_count h1).mono ?_;rintro _ w' ⟨rfl,hF⟩;exact⟨rfl,(h1.fr0 hF).back⟩}
theorem pv_added(h:Wd W wr (thN thO v so::ts)):Calls Tryz.prog 23 #[v] wr fun e w' =>e=.returned (.tuple #[.int .u64 (qA so),.int .u64 (qG so)])∧Wd W w' (thN thO v so::ts):=by
 cases so with
 | none=>{
 obtain rfl:=h.isN;refine(bad_added (BadW.none wr)).mono ?_;rintro _ w' ⟨rfl,hF⟩;exact⟨rfl,hF▸h⟩}
 | some o=>{
 obtain⟨p,rfl,h1⟩:=h.isW;refine(td_added h1).mono ?_;rintro _ w' ⟨rfl,hF⟩;exact⟨rfl,(h1.fr0 hF).back⟩}
theorem pv_version(h:Wd W wr (thN thO v so::ts)):Calls Tryz.prog 22 #[v] wr fun e w' =>e=.returned (.int .u64 (qA so+qG so:Nat))∧Wd W w' (thN thO v so::ts):=by
 cases so with
 | none=>{
 obtain rfl:=h.isN;refine(bad_version (BadW.none wr)).mono ?_;rintro _ w' ⟨rfl,hF⟩;exact⟨rfl,hF▸h⟩}
 | some o=>{
 obtain⟨p,rfl,h1⟩:=h.isW;refine(td_version h1).mono ?_;rintro _ w' ⟨rfl,hF⟩;exact⟨rfl,(h1.fr0 hF).back⟩}
theorem pv_now(h:Wd W wr (thN thO v so::ts)):Calls Tryz.prog 16 #[v] wr fun e w' =>e=.returned (.int .i64 (qN so))∧Wd W w' (thN thO v so::ts):=by
 cases so with
 | none=>{
 obtain rfl:=h.isN;refine(bad_now (BadW.none wr)).mono ?_;rintro _ w' ⟨rfl,hF⟩;exact⟨rfl,hF▸h⟩}
 | some o=>{
 obtain⟨p,rfl,h1⟩:=h.isW;refine(td_now h1).mono ?_;rintro _ w' ⟨rfl,hF⟩;exact⟨rfl,hF▸h1.back⟩}
theorem pv_config(h:Wd W wr (thN thO v so::ts)):Calls Tryz.prog 33 #[v] wr fun e w' =>e=.returned (.agg #[.int .i64 (qM so),.int .i64 (qE so),.int .i64 (qV so),.int .i64 (qD so)])∧Wd W w' (thN thO v so::ts):=by
 cases so with
 | none=>{
 obtain rfl:=h.isN;refine(bad_config (BadW.none wr)).mono ?_;rintro _ w' ⟨rfl,hF⟩;exact⟨rfl,h.fr0 hF⟩}
 | some o=>{
 obtain⟨p,rfl,h1⟩:=h.isW;refine(td_config h1).mono ?_;rintro _ w' ⟨rfl,hF⟩;exact⟨rfl,(h1.fr0 hF).back⟩}
theorem pv_conn(h:Wd W wr (thN thO v so::ts))(u x:Nat)(hu:u<18446744073709551616)(hx:x<18446744073709551616):Calls Tryz.prog 15 #[v,.int .u64 u,.int .u64 x] wr fun e w' =>e=.returned (.tuple #[.bool (connI (qL so) u x),.int .i64 (qC so u x)])∧Wd W w' (thN thO v so::ts):=by
 cases so with
 | none=>{
 obtain rfl:=h.isN;refine(bad_connected (BadW.none wr) u x).mono ?_;rintro _ w' ⟨rfl,hF⟩;exact⟨by rw[show qL none=[] from rfl,connI_nil];rfl,hF▸h⟩}
 | some o=>{
 obtain⟨p,rfl,h1⟩:=h.isW;refine(td_conn h1 u x hu hx).mono ?_;rintro _ w' ⟨rfl,hF⟩;exact⟨rfl,hF.back⟩}
theorem pv_size(h:Wd W wr (thN thO v so::ts))(u:Nat)(hu:u<18446744073709551616):Calls Tryz.prog 26 #[v,.int .u64 u] wr fun e w' =>e=.returned (.tuple #[.int .i64 (sizeI (qL so) u:Nat),.int .i64 (qC so u u)])∧Wd W w' (thN thO v so::ts):=by
 cases so with
 | none=>{
 obtain rfl:=h.isN;refine(bad_size (BadW.none wr) u).mono ?_;rintro _ w' ⟨rfl,hF⟩;exact⟨by rw[show qL none=[] from rfl,sizeI_nil];rfl,hF▸h⟩}
 | some o=>{
 obtain⟨p,rfl,h1⟩:=h.isW;refine(td_size h1 u hu).mono ?_;rintro _ w' ⟨rfl,hF⟩;exact⟨rfl,hF.back⟩}
theorem pv_until(h:Wd W wr (thN thO v so::ts))(u x:Nat)(hu:u<18446744073709551616)(hx:x<18446744073709551616):Calls Tryz.prog 14 #[v,.int .u64 u,.int .u64 x] wr fun e w' =>e=.returned (.tuple #[.int .i64 (untR (qL so) u x),.bool (untB (qL so) u x),.int .i64 (qC so u x)])∧Wd W w' (thN thO v so::ts):=by
 cases so with
 | none=>{
 obtain rfl:=h.isN;refine(bad_until (BadW.none wr) u x).mono ?_;rintro _ w' ⟨rfl,hF⟩;exact⟨by rw[show qL none=[] from rfl,untR_nil,untB_nil];rfl,hF▸h⟩}
 | some o=>{
 obtain⟨p,rfl,h1⟩:=h.isW;refine(td_until h1 u x hu hx).mono ?_;rintro _ w' ⟨rfl,hF⟩;exact⟨rfl,hF.back⟩}
theorem pv_add(h:Wd W wr (thN thO v so::ts))(u x:Nat)(hu:u<18446744073709551616)(hx:x<18446744073709551616)(wt t:Int)(ht1:-9223372036854775808≤t)(ht2:t≤9223372036854775807):Calls Tryz.prog 21 #[v,recA u x wt t] wr fun e w' =>e=.returned (.int .i64 (qAddC so u x t:Nat))∧Wd W w' (thN thO v (qAdd so u x wt t)::ts):=by
 cases so with
 | none=>{
 obtain rfl:=h.isN;refine(bad_add (BadW.none wr) u x wt t).mono ?_;rintro _ w' ⟨rfl,hF⟩;exact⟨rfl,h.fr0 hF⟩}
 | some o=>{
 obtain⟨p,rfl,h1⟩:=h.isW;refine(td_add h1 u x hu hx wt t ht1 ht2).mono ?_;rintro _ w' ⟨rfl,hF⟩;exact⟨rfl,hF.back⟩}
theorem pv_tick(h:Wd W wr (thN thO v so::ts))(t:Int)(ht1:-9223372036854775808≤t)(ht2:t≤9223372036854775807):Calls Tryz.prog 17 #[v,.int .i64 t] wr fun e w' =>e=.returned (.int .i64 (qTickC so t))∧Wd W w' (thN thO v (qTick so t)::ts):=by
 cases so with
 | none=>{
 obtain rfl:=h.isN;refine(bad_tick (BadW.none wr) t).mono ?_;rintro _ w' ⟨rfl,hF⟩;exact⟨rfl,hF▸h⟩}
 | some o=>{
 obtain⟨p,rfl,h1⟩:=h.isW;refine(td_tick h1 t ht1 ht2).mono ?_;rintro _ w' ⟨rfl,hF⟩;exact⟨rfl,hF.back⟩}
theorem pv_copy(h:Wd W wr (thN thO v so::ts)):Calls Tryz.prog 20 #[v] wr fun e w' =>∃v', e=.returned v' ∧ Wd W w' (thN thO v' so::thN thO v so::ts):=by
 cases so with
 | none=>{
 obtain rfl:=h.isN;refine(bad_copy (BadW.none wr)).mono ?_;rintro _ w' ⟨rfl,hF⟩;exact⟨_,rfl,(hF▸h).mkNil⟩}
 | some o=>{
 obtain⟨p,rfl,h1⟩:=h.isW;refine(td_copy h1).mono ?_;rintro _ w' ⟨q,rfl,hF⟩;exact⟨_,rfl,hF.swap.back.swap.back⟩}
theorem pv_ids(h:Wd W wr (thN thO v so::ts)):Calls Tryz.prog 24 #[v] wr fun e w' =>∃v', e=.returned v' ∧ Wd W w' (thU v' (idsL (qL so))::thN thO v so::ts):=by
 cases so with
 | none=>{
 obtain rfl:=h.isN;refine(bad_ids (BadW.none wr)).mono ?_;rintro _ w' ⟨rfl,hF⟩;exact⟨_,rfl,(hF▸h).new (K:=[]) (Fr.refl _ _) ⟨⟨rfl,.inl ⟨rfl,rfl⟩⟩,rfl⟩ (by simp)⟩}
 | some o=>{
 obtain⟨p,rfl,h1⟩:=h.isW;refine(td_ids h1).mono ?_;rintro _ w' ⟨q,rfl,hF⟩;exact⟨_,rfl,hF.swap.back.swap⟩}
theorem pv_live(h:Wd W wr (thN thO v so::ts)):Calls Tryz.prog 19 #[v] wr fun e w' =>∃v' l,e=.returned v' ∧ (l.map core=qL so∧(l.map (·.slot)).Nodup∧∀e∈l,e.slot<qE so)∧Wd W w' (thV v' l::thN thO v so::ts):=by
 cases so with
 | none=>{
 obtain rfl:=h.isN;refine(bad_live (BadW.none wr)).mono ?_;rintro _ w' ⟨rfl,hF⟩;exact⟨_,[],rfl,⟨rfl,.nil,by simp⟩,(hF▸h).new (K:=[]) (Fr.refl _ _) ⟨⟨rfl,.inl ⟨rfl,rfl⟩⟩,rfl⟩ (by simp)⟩}
 | some o=>{
 obtain⟨p,rfl,h1⟩:=h.isW;refine(td_live h1).mono ?_;rintro _ w' ⟨q,l,rfl,hl,hF⟩;exact⟨_,l,rfl,hl,hF.swap.back.swap⟩}
theorem pd_count(h:Wd W wr (thN thF v so::ts))(hok:QOk so):Calls Tryz.prog 61 #[v] wr fun e w' =>e=.returned (.tuple #[.int .i64 (qL so).length,.int .i64 (idsL (qL so)).length,.int .i64 (compI (qL so):Nat)])∧Wd W w' (thN thF v so::ts):=by
 cases so with
 | none=>{
 obtain rfl:=h.isN;refine(rn_count).mono ?_;rintro _ w' ⟨rfl,hF⟩;exact⟨rfl,hF▸h⟩}
 | some o=>{
 obtain⟨p,rfl,h1⟩:=h.isW;refine(rd_count h1 (Ob.lenE (hok o rfl))).mono ?_;rintro _ w' ⟨rfl,hF⟩;exact⟨rfl,(h1.fr0 hF).back⟩}
theorem pd_added(h:Wd W wr (thN thF v so::ts)):Calls Tryz.prog 62 #[v] wr fun e w' =>e=.returned (.tuple #[.int .u64 (qA so),.int .u64 (qG so)])∧Wd W w' (thN thF v so::ts):=by
 cases so with
 | none=>{
 obtain rfl:=h.isN;refine(rn_added).mono ?_;rintro _ w' ⟨rfl,hF⟩;exact⟨rfl,hF▸h⟩}
 | some o=>{
 obtain⟨p,rfl,h1⟩:=h.isW;refine(rd_added h1).mono ?_;rintro _ w' ⟨rfl,hF⟩;exact⟨rfl,(h1.fr0 hF).back⟩}
theorem pd_version(h:Wd W wr (thN thF v so::ts))(hok:QOk so):Calls Tryz.prog 63 #[v] wr fun e w' =>e=.returned (.int .u64 (qA so+qG so:Nat))∧Wd W w' (thN thF v so::ts):=by
 cases so with
 | none=>{
 obtain rfl:=h.isN;refine(rn_version).mono ?_;rintro _ w' ⟨rfl,hF⟩;exact⟨rfl,hF▸h⟩}
 | some o=>{
 obtain⟨p,rfl,h1⟩:=h.isW;refine(rd_version h1 (by have h2:=(hok o rfl).last;have h3:=(hok o rfl).max;omega)).mono ?_;rintro _ w' ⟨rfl,hF⟩;exact⟨rfl,(h1.fr0 hF).back⟩}
theorem pd_now(h:Wd W wr (thN thF v so::ts)):Calls Tryz.prog 64 #[v] wr fun e w' =>e=.returned (.int .i64 (qN so))∧Wd W w' (thN thF v so::ts):=by
 cases so with
 | none=>{
 obtain rfl:=h.isN;refine(rn_now).mono ?_;rintro _ w' ⟨rfl,hF⟩;exact⟨rfl,hF▸h⟩}
 | some o=>{
 obtain⟨p,rfl,h1⟩:=h.isW;refine(rd_now h1).mono ?_;rintro _ w' ⟨rfl,hF⟩;exact⟨rfl,hF▸h1.back⟩}
theorem pd_config(h:Wd W wr (thN thF v so::ts)):Calls Tryz.prog 65 #[v] wr fun e w' =>e=.returned (.agg #[.int .i64 (qM so),.int .i64 (qE so),.int .i64 (qV so),.int .i64 (qD so)])∧Wd W w' (thN thF v so::ts):=by
 cases so with
 | none=>{
 obtain rfl:=h.isN;refine(rn_config).mono ?_;rintro _ w' ⟨rfl,hF⟩;exact⟨rfl,h.fr0 hF⟩}
 | some o=>{
 obtain⟨p,rfl,h1⟩:=h.isW;refine(rd_config h1).mono ?_;rintro _ w' ⟨rfl,hF⟩;exact⟨rfl,(h1.fr0 hF).back⟩}
theorem pd_conn(h:Wd W wr (thN thF v so::ts))(hok:QOk so)(u x:Nat):Calls Tryz.prog 74 #[v,.int .u64 u,.int .u64 x] wr fun e w' =>e=.returned (.tuple #[.bool (connI (qL so) u x),.int .i64 (qC so u x)])∧Wd W w' (thN thF v so::ts):=by
 cases so with
 | none=>{
 obtain rfl:=h.isN;refine(rn_conn u x).mono ?_;rintro _ w' ⟨rfl,hF⟩;exact⟨by rw[show qL none=[] from rfl,connI_nil];rfl,h.fr0 hF⟩}
 | some o=>{
 obtain⟨p,rfl,h1⟩:=h.isW;refine(rd_conn h1 (Ob.lenE (hok o rfl)) u x).mono ?_;rintro _ w' ⟨rfl,hF⟩;exact⟨rfl,hF.back⟩}
theorem pd_size(h:Wd W wr (thN thF v so::ts))(hok:QOk so)(u:Nat):Calls Tryz.prog 75 #[v,.int .u64 u] wr fun e w' =>e=.returned (.tuple #[.int .i64 (sizeI (qL so) u:Nat),.int .i64 (qC so u u)])∧Wd W w' (thN thF v so::ts):=by
 cases so with
 | none=>{
 obtain rfl:=h.isN;refine(rn_size u).mono ?_;rintro _ w' ⟨rfl,hF⟩;exact⟨by rw[show qL none=[] from rfl,sizeI_nil];rfl,h.fr0 hF⟩}
 | some o=>{
 obtain⟨p,rfl,h1⟩:=h.isW;refine(rd_size h1 (Ob.lenE (hok o rfl)) u).mono ?_;rintro _ w' ⟨rfl,hF⟩;exact⟨rfl,hF.back⟩}
theorem pd_until(h:Wd W wr (thN thF v so::ts))(hok:QOk so)(u x:Nat):Calls Tryz.prog 76 #[v,.int .u64 u,.int .u64 x] wr fun e w' =>e=.returned (.tuple #[.int .i64 (untR (qL so) u x),.bool (untB (qL so) u x),.int .i64 (qC so u x)])∧Wd W w' (thN thF v so::ts):=by
 cases so with
 | none=>{
 obtain rfl:=h.isN;refine(rn_until u x).mono ?_;rintro _ w' ⟨rfl,hF⟩;exact⟨by rw[show qL none=[] from rfl,untR_nil,untB_nil];rfl,h.fr0 hF⟩}
 | some o=>{
 obtain⟨p,rfl,h1⟩:=h.isW;refine(rd_until h1 (Ob.lenE (hok o rfl)) (fun e he=>by have h2:=(hok o rfl).x e he;unfold allT;omega) u x).mono ?_;rintro _ w' ⟨rfl,hF⟩;exact⟨rfl,hF.back⟩}
theorem pd_add(h:Wd W wr (thN thF v so::ts))(hok:QOk so)(u x:Nat)(wt t:Int)(ht2:t≤9223372036854775807):Calls Tryz.prog 71 #[v,recA u x wt t] wr fun e w' =>e=.returned (.int .i64 (qAddC so u x t:Nat))∧Wd W w' (thN thF v (qAdd so u x wt t)::ts):=by
 cases so with
 | none=>{
 obtain rfl:=h.isN;refine(rn_add u x wt t).mono ?_;rintro _ w' ⟨rfl,hF⟩;exact⟨rfl,h.fr0 hF⟩}
 | some o=>{
 obtain⟨p,rfl,h1⟩:=h.isW;refine(rd_add h1 (hok o rfl) u x wt t ht2).mono ?_;rintro _ w' ⟨rfl,hF⟩;exact⟨rfl,hF.back⟩}
theorem pd_tick(h:Wd W wr (thN thF v so::ts))(hok:QOk so)(t:Int)(ht2:t≤9223372036854775807):Calls Tryz.prog 72 #[v,.int .i64 t] wr fun e w' =>e=.returned (.int .i64 (qTickC so t))∧Wd W w' (thN thF v (qTick so t)::ts):=by
 cases so with
 | none=>{
 obtain rfl:=h.isN;refine(rn_tick t).mono ?_;rintro _ w' ⟨rfl,hF⟩;exact⟨rfl,hF▸h⟩}
 | some o=>{
 obtain⟨p,rfl,h1⟩:=h.isW;refine(rd_tick h1 (hok o rfl) t ht2).mono ?_;rintro _ w' ⟨rfl,hF⟩;exact⟨rfl,hF.back⟩}
theorem pd_copy(h:Wd W wr (thN thF v so::ts))(hok:QOk so):Calls Tryz.prog 73 #[v] wr fun e w' =>∃v', e=.returned v' ∧ Wd W w' (thN thF v' so::thN thF v so::ts):=by
 cases so with
 | none=>{
 obtain rfl:=h.isN;refine(rn_copy).mono ?_;rintro _ w' ⟨rfl,hF⟩;exact⟨_,rfl,(hF▸h).mkNil⟩}
 | some o=>{
 obtain⟨p,rfl,h1⟩:=h.isW;refine(rd_copy h1 (Ob.lenE (hok o rfl))).mono ?_;rintro _ w' ⟨q,rfl,hF⟩;exact⟨_,rfl,hF.swap.back.swap.back⟩}
theorem pd_ids(h:Wd W wr (thN thF v so::ts))(hok:QOk so):Calls Tryz.prog 67 #[v] wr fun e w' =>∃v', e=.returned v' ∧ Wd W w' (thU v' (idsL (qL so))::thN thF v so::ts):=by
 cases so with
 | none=>{
 obtain rfl:=h.isN;refine(rn_ids).mono ?_;rintro _ w' ⟨rfl,hF⟩;exact⟨_,rfl,(hF▸h).new (K:=[]) (Fr.refl _ _) ⟨⟨rfl,.inl ⟨rfl,rfl⟩⟩,rfl⟩ (by simp)⟩}
 | some o=>{
 obtain⟨p,rfl,h1⟩:=h.isW;refine(rd_ids h1 (Ob.lenE (hok o rfl))).mono ?_;rintro _ w' ⟨q,rfl,hF⟩;exact⟨_,rfl,hF.swap.back.swap⟩}
theorem pd_live(h:Wd W wr (thN thF v so::ts))(hok:QOk so):Calls Tryz.prog 66 #[v] wr fun e w' =>∃v', e=.returned v' ∧ Wd W w' (thV v' (qL so)::thN thF v so::ts):=by
 cases so with
 | none=>{
 obtain rfl:=h.isN;refine(rn_live).mono ?_;rintro _ w' ⟨rfl,hF⟩;exact⟨_,rfl,(hF▸h).new (K:=[]) (Fr.refl _ _) ⟨⟨rfl,.inl ⟨rfl,rfl⟩⟩,rfl⟩ (by simp)⟩}
 | some o=>{
 obtain⟨p,rfl,h1⟩:=h.isW;refine(rd_live h1 (Ob.lenE (hok o rfl))).mono ?_;rintro _ w' ⟨a,c,rfl,hF⟩;exact⟨_,rfl,hF.swap.back.swap⟩}
end
set_option maxHeartbeats 800000
def cfEq(a b c d a' b' c' d' :Int):Bool:=(a == a')&&(b == b')&&(c == c')&&(d == d')
theorem cfEq_self(a b c d:Int):cfEq a b c d a b c d=true:=by simp[cfEq]
@[go_sem high] theorem eqIn_cfg37(a b c d a' b' c' d' :Int)(w:World):(Op.equalIn 10000 55 (.agg #[.int .i64 a,.int .i64 b,.int .i64 c,.int .i64 d]) (.agg #[.int .i64 a', .int .i64 b', .int .i64 c', .int .i64 d'])).run Tryz.prog w=.ok (cfEq a b c d a' b' c' d') w:=by
 rw[show(10000:Nat)=9999+1 from rfl,run_equalIn_struct w 9999 _ _ _ (by kernel_rfl) (by kernel_rfl)];unfold cfEq;simp only[Program.fieldsOf,Tryz.underlying55,Op.eqFields];go_simp;by_cases h1:a=a' <;> by_cases h2:b=b' <;> by_cases h3:c=c' <;> by_cases h4:d=d' <;> simp[h1,h2,h3,h4]
@[go_sem] theorem guard_cfg37(op:BinOp)(x y:Operand)(xs ys:Array Value)(w:World):(eqGuard op 55 x y (.agg xs) (.agg ys)).run Tryz.prog w=.ok () w:=run_eqGuard_agg w op 55 x y xs ys (by kernel_rfl)
set_option maxHeartbeats 1600000
theorem Ob.ids_le{o:Ob}(h:o.Ok):(idsL o.L).length≤65536:=by have:=h.leV;have:=h.mV;omega
section
variable {W wr:World} {v d:Value} {so:Option Ob} {ts:List Th}
@[go_sem] theorem fld_cfgE(a b c e:Int)(w:World):(Instr.field 55 (.agg #[.int .i64 a,.int .i64 b,.int .i64 c,.int .i64 e]) 1).run Tryz.prog w=.ok (.int .i64 b) w:=by kernel_rfl
theorem Hs.under{n:Nat}{t:Th}{ts us:List Th}{K:List Nat}(h:Hs n wr (t::ts) K)(hu:∀K,Hs n wr ts K→∃K', Hs n wr us K' ∧ ∀q∈K', q∈K):∃K', Hs n wr (t::us) K' ∧ ∀q∈K', q∈K:=by
 obtain⟨K1,K2,h2,h3,h4,h5,rfl⟩:=h;obtain⟨K', k1,k2⟩:=hu K2 h4;exact⟨K1++K', ⟨K1,K', h2,h3,k1,fun q hq hm=>h5 q hq (k2 q hm),rfl⟩,fun q hq=>by simp only[qJ]at hq ⊢;exact hq.imp id (k2 q)⟩
theorem Wd.fourth{a b c d:Th}{ts:List Th}(h:Wd W wr (a::b::c::d::ts)):Wd W wr (d::a::b::c::ts):=
  (h.under fun _ hk=>by
 obtain⟨K1,k1,s1⟩:=Hs.under hk (fun _=>Hs.swap);obtain⟨K2,k2,s2⟩:=Hs.swap k1;exact⟨K2,k2,fun q hq=>s1 q (s2 q hq)⟩).swap
theorem qL_core(h:QOk so):(qL so).map core=qL so:=by
 cases so with
 | none=>rfl
 | some o=>{
 refine(List.map_congr_left fun e he=>?_).trans (List.map_id _);have:=(h o rfl).sl e he;show { e with slot:=0 }=e
 rw[←this]}
theorem QOk.len(h:QOk so):(qL so).length≤16384:=by
 cases so with
 | none=>exact zB _
 | some o=>exact Ob.lenE (h o rfl)
theorem QOk.ids(h:QOk so):(idsL (qL so)).length≤65536:=by
 cases so with
 | none=>exact zB _
 | some o=>exact Ob.ids_le (h o rfl)
theorem asked_w(h:Wd W wr (thN thO v so::thN thF d so::ts))(hok:QOk so)(u x:Nat)(hu:u<18446744073709551616)(hx:x<18446744073709551616):
    Calls Tryz.prog 36 #[v,d,.int .u64 u,.int .u64 x] wr fun e w' =>e=.returned (.bool true)∧Wd W w' (thN thO v so::thN thF d so::ts):=by
 have HO:=qB (zR hok (zR hu hx));clear hok hu hx;have hW:=h;clear h;go_enter Tryz.func36,Tryz.ntmps36
 have H:=qB (pv_conn hW u x HO.out.2.1 HO.out.2.2);clear hW;go_wp2_with fail
 refine H.out.mono ?_;rintro _ w1 ⟨rfl,hV⟩;have hW:=hV.swap;clear H hV;have H:=qB (pd_conn hW HO.out.1 u x);clear hW;go_wp2_with fail
 refine H.out.mono ?_;rintro _ w1 ⟨rfl,hV⟩;have hW:=hV.swap;clear H hV;have H:=qB (pv_size hW u HO.out.2.1);clear hW;go_wp2_with fail
 refine H.out.mono ?_;rintro _ w1 ⟨rfl,hV⟩;have hW:=hV.swap;clear H hV;have H:=qB (pd_size hW HO.out.1 u);clear hW;go_wp2_with fail
 refine H.out.mono ?_;rintro _ w1 ⟨rfl,hV⟩;have hW:=hV.swap;clear H hV;have H:=qB (pv_until hW u x HO.out.2.1 HO.out.2.2);clear hW;go_wp2_with fail
 refine H.out.mono ?_;rintro _ w1 ⟨rfl,hV⟩;have hW:=hV.swap;clear H hV;have H:=qB (pd_until hW HO.out.1 u x);clear hW;go_wp2_with fail
 refine H.out.mono ?_;rintro _ w1 ⟨rfl,hV⟩;have hW:=hV.swap;clear H hV;have HW:=qB hW;clear hW;go_wp2_with fail
 go_ret;exact⟨rfl,HW.out⟩
theorem agree_w(h:Wd W wr (thN thO v so::thN thF d so::ts))(hok:QOk so)(u x:Nat)(hu:u<18446744073709551616)(hx:x<18446744073709551616):
    Calls Tryz.prog 28 #[v,d,.int .u64 u,.int .u64 x] wr fun e w' =>e=.returned (.bool true)∧Wd W w' (thN thO v so::thN thF d so::ts):=by
 have HO:=qB (zR hok (zR hu hx));clear hok hu hx;have hW:=h;clear h;have hcf:=cfEq_self (qM so) (qE so) (qV so) (qD so);go_enter Tryz.func28,Tryz.ntmps28
 have H:=qB (pv_count hW);clear hW;go_wp2_with fail
 refine H.out.mono ?_;rintro _ w1 ⟨rfl,hV⟩;have hW:=hV.swap;clear H hV;have H:=qB (pd_count hW HO.out.1);clear hW;go_wp2_with fail
 refine H.out.mono ?_;rintro _ w1 ⟨rfl,hV⟩;have hW:=hV.swap;clear H hV;have H:=qB (pv_added hW);clear hW;go_wp2_with fail
 refine H.out.mono ?_;rintro _ w1 ⟨rfl,hV⟩;have hW:=hV.swap;clear H hV;have H:=qB (pd_added hW);clear hW;go_wp2_with fail
 refine H.out.mono ?_;rintro _ w1 ⟨rfl,hV⟩;have hW:=hV.swap;clear H hV;have H:=qB (pv_version hW);clear hW;go_wp2_with fail
 refine H.out.mono ?_;rintro _ w1 ⟨rfl,hV⟩;have hW:=hV.swap;clear H hV;have H:=qB (pd_version hW HO.out.1);clear hW;go_wp2_with fail
 refine H.out.mono ?_;rintro _ w1 ⟨rfl,hV⟩;have hW:=hV.swap;clear H hV;have H:=qB (pv_now hW);clear hW;go_wp2_with fail
 refine H.out.mono ?_;rintro _ w1 ⟨rfl,hV⟩;have hW:=hV.swap;clear H hV;have H:=qB (pd_now hW);clear hW;go_wp2_with fail
 refine H.out.mono ?_;rintro _ w1 ⟨rfl,hV⟩;have hW:=hV.swap;clear H hV;have H:=qB (pv_config hW);clear hW;go_wp2_with fail
 refine H.out.mono ?_;rintro _ w1 ⟨rfl,hV⟩;have hW:=hV.swap;clear H hV;have H:=qB (pd_config hW);clear hW;go_wp2_with fail
 refine H.out.mono ?_;rintro _ w1 ⟨rfl,hV⟩;have hW:=hV.swap;clear H hV;have H:=qB (pv_live hW);clear hW;go_wp2_with fail
 refine H.out.mono ?_;rintro _ w1 ⟨v1,l1,rfl,hl1,hW⟩;have H:=qB (pd_live hW.third HO.out.1);have HL1:=qB hl1;clear hW hl1 hcf;go_wp2_with fail
 refine H.out.mono ?_;rintro _ w1 ⟨v2,rfl,hW⟩;have H:=qB (pv_config hW.fourth);clear hW;go_wp2_with fail
 refine H.out.mono ?_;rintro _ w1 ⟨rfl,hW⟩;have hlen1:l1.length=(qL so).length:=by rw[←HL1.out.1,List.length_map]
 have H:=qB (lives_w (n:=qE so) hW.fourth.rowV hW.swap.rowV (HL1.out.1.trans (qL_core HO.out.1).symm) HL1.out.2.1 HL1.out.2.2 (by rw[hlen1];have:=HO.out.1.len;omega));have HW:=qB hW.drop2.drop3;clear hW hlen1;go_wp2_with fail
 refine H.out.mono ?_;rintro _ w1 ⟨rfl,hF⟩;have hW:=HW.out.fr0 hF;have H:=qB (pv_ids hW);clear hF hW HW HL1;go_wp2_with fail
 refine H.out.mono ?_;rintro _ w1 ⟨v3,rfl,hW⟩;have H:=qB (pd_ids hW.third HO.out.1);clear hW;go_wp2_with fail
 refine H.out.mono ?_;rintro _ w1 ⟨v4,rfl,hW⟩;have H:=qB (ids37_w hW.third.rowU hW.rowU HO.out.1.ids);have HW:=qB (hW.drop.drop2.swap);clear hW;go_wp2_with fail
 refine H.out.mono ?_;rintro _ w1 ⟨rfl,hF⟩;have H:=qB (asked_w (HW.out.fr0 hF) HO.out.1 u x HO.out.2.1 HO.out.2.2);clear hF HW;go_wp2_with fail
 refine H.out.mono ?_;rintro _ w1 ⟨rfl,hW⟩;have H:=qB (asked_w hW HO.out.1 u u HO.out.2.1 HO.out.2.1);clear hW;go_wp2_with fail
 refine H.out.mono ?_;rintro _ w1 ⟨rfl,hW⟩;have HW:=qB hW;clear hW H;go_wp2_with fail
 go_ret;exact⟨rfl,HW.out⟩
end
end Go.Proofs.YtgmnemndjjmgkaaGreat
