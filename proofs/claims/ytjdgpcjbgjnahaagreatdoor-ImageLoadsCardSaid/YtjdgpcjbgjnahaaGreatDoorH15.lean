/- Restore, as the document has it: the room for the ids is asked at the end alone; the plain law. -/
import Derived.Test.YtjdgpcjbgjnahaaGreatDoorH9
import Derived.Test.YtjdgpcjbgjnahaaGreatDoorH3
import Derived.Test.YtjdgpcjbgjnahaaGreatDoorH14
import Derived.Test.YtjdgpcjbgjnahaaGreatDoorH10
import Derived.Test.YtjdgpcjbgjnahaaGreatDoorH11
import Derived.Test.YtjdgpcjbgjnahaaGreatDoorH13
import Derived.Lib.SmallJoins
set_option maxRecDepth 10000
set_option maxHeartbeats 1600000
set_option linter.unusedSimpArgs false
set_option linter.unusedVariables false
/- The document's sums of numbers that are not below 0. -/
namespace Go.Proofs.YtjdgpcjbgjnahaaGreatDoor
open Go.RowKit
def wd(x:Nat):Nat->Nat
  | 0=>x%4294967296
  | 1=>x/4294967296
  | _=>0
def wdC(x:Nat):List Value:=[.int .u64 (wd x 0:Nat),.int .u64 (wd x 1:Nat),.int .u64 0,.int .u64 0,.int .u64 0,.int .u64 0]
theorem aLV(x:Nat){i:Nat}(hi:i<6):(wdC x)[i]? =some (.int .u64 (wd x i:Nat)):=by
 match i,hi with
 | 0,_=>rfl
 | 1,_=>rfl
 | 2,_=>rfl
 | 3,_=>rfl
 | 4,_=>rfl
 | 5,_=>rfl
def cry(x y:Nat):Nat->Nat
  | 0=>0
  | i+1=>(wd x i+wd y i+cry x y i)/4294967296
def dig(x y i:Nat):Nat:=(wd x i+wd y i+cry x y i)%4294967296
def tS(x y i:Nat):List Value:=(List.range 6).map fun j=>.int .u64 ((if j<i then dig x y j else 0:Nat):Int)
theorem aLW(x y:Nat){i:Nat}(hi:i<6):(tS x y i).set i (.int .u64 (dig x y i:Nat))=tS x y (i+1):=by
 match i,hi with
 | 0,_=>rfl
 | 1,_=>rfl
 | 2,_=>rfl
 | 3,_=>rfl
 | 4,_=>rfl
 | 5,_=>rfl
theorem aLX(x y i:Nat):(tS x y i).length=6:=by simp[tS]
theorem wF{x:Nat}(hx:x<=9223372036854775807)(i:Nat):wd x i<4294967296:=by
 match i with
 | 0=>exact Nat.mod_lt _ (by omega)
 | 1=>show x/4294967296<_;omega
 | n+2=>show 0<_;omega
theorem aLY{x y:Nat}(hx:x<=9223372036854775807)(hy:y<=9223372036854775807):∀i,cry x y i<=1
  | 0=>qS _
  | i+1=>by
    have h1:=wF hx i;have h2:=wF hy i;have h3:=aLY hx hy i;show(wd x i+wd y i+cry x y i)/4294967296<=1
    omega
theorem aPH{x y:Nat}(hx:x<=9223372036854775807)(hy:y<=9223372036854775807):dig x y 1*4294967296+dig x y 0=x+y/\dig x y 2=0/\dig x y 3=0/\dig x y 4=0/\dig x y 5=0:=by
 have e0:cry x y 1=(x%4294967296+y%4294967296+0)/4294967296:=rfl;have d0:dig x y 0=(x%4294967296+y%4294967296+0)%4294967296:=rfl;have d1:dig x y 1=(x/4294967296+y/4294967296+cry x y 1)%4294967296:=rfl;have e1:cry x y 2=(x/4294967296+y/4294967296+cry x y 1)/4294967296:=rfl;have h2:cry x y 2=0:=by rw[e1,e0];omega
 have h3:cry x y 3=0:=by show(0+0+cry x y 2)/4294967296=0;rw[h2]
 have h4:cry x y 4=0:=by show(0+0+cry x y 3)/4294967296=0;rw[h3]
 have h5:cry x y 5=0:=by show(0+0+cry x y 4)/4294967296=0;rw[h4]
 refine⟨by rw[d1,d0,e0];omega,?_,?_,?_,?_⟩
 · show(0+0+cry x y 2)%4294967296=0;rw[h2]
 · show(0+0+cry x y 3)%4294967296=0;rw[h3]
 · show(0+0+cry x y 4)%4294967296=0;rw[h4]
 · show(0+0+cry x y 5)%4294967296=0;rw[h5]
theorem aSO{x y:Nat}(hx:x<=9223372036854775807)(hy:y<=9223372036854775807)(w:World):
    Calls Tryz.prog 181 #[.agg (wdC x).toArray,.agg (wdC y).toArray] w fun e w' =>e=.returned (.agg (tS x y 6).toArray)/\Fr [] w w' :=by
 have key:Calls Tryz.prog 181 #[.agg #[.int .u64 (wd x 0:Nat),.int .u64 (wd x 1:Nat),.int .u64 0,.int .u64 0,.int .u64 0,.int .u64 0],.agg #[.int .u64 (wd y 0:Nat),.int .u64 (wd y 1:Nat),.int .u64 0,.int .u64 0,.int .u64 0,.int .u64 0]] w fun e w' =>e=.returned (.agg (tS x y 6).toArray)/\Fr [] w w' :=by {
 obtain⟨w0,hw0⟩:∃w0,w0=(((w.alloc (.cells #[.int .u64 (wd x 0:Nat),.int .u64 (wd x 1:Nat),.int .u64 0,.int .u64 0,.int .u64 0,.int .u64 0] 205)).alloc (.cells #[.int .u64 (wd y 0:Nat),.int .u64 (wd y 1:Nat),.int .u64 0,.int .u64 0,.int .u64 0,.int .u64 0] 205)).alloc (.cells #[.int .u64 0,.int .u64 0,.int .u64 0,.int .u64 0,.int .u64 0,.int .u64 0] 205)).alloc (.cells #[.int .u64 0,.int .u64 0,.int .u64 0,.int .u64 0,.int .u64 0,.int .u64 0] 205):=⟨_,rfl⟩;have ha:Blk w0 w.heap.size 205 (wdC x):=by rw[hw0];exact(((Blk.new w (wdC x) _).alloc _).alloc _).alloc _
 have hb:Blk w0 (w.heap.size+1) 205 (wdC y):=by {
 rw[hw0];have:=((Blk.new (w.alloc (.cells #[.int .u64 (wd x 0:Nat),.int .u64 (wd x 1:Nat),.int .u64 0,.int .u64 0,.int .u64 0,.int .u64 0] 205)) (wdC y) 205).alloc (.cells #[.int .u64 0,.int .u64 0,.int .u64 0,.int .u64 0,.int .u64 0,.int .u64 0] 205)).alloc (.cells #[.int .u64 0,.int .u64 0,.int .u64 0,.int .u64 0,.int .u64 0,.int .u64 0] 205);simp only[World.size_alloc]at this;exact this};have hr:Blk w0 (w.heap.size+1+1) 205 [.int .u64 0,.int .u64 0,.int .u64 0,.int .u64 0,.int .u64 0,.int .u64 0]:=by {
 rw[hw0];have:=(Blk.new ((w.alloc (.cells #[.int .u64 (wd x 0:Nat),.int .u64 (wd x 1:Nat),.int .u64 0,.int .u64 0,.int .u64 0,.int .u64 0] 205)).alloc (.cells #[.int .u64 (wd y 0:Nat),.int .u64 (wd y 1:Nat),.int .u64 0,.int .u64 0,.int .u64 0,.int .u64 0] 205)) [.int .u64 0,.int .u64 0,.int .u64 0,.int .u64 0,.int .u64 0,.int .u64 0] 205).alloc (.cells #[.int .u64 0,.int .u64 0,.int .u64 0,.int .u64 0,.int .u64 0,.int .u64 0] 205);simp only[World.size_alloc]at this;exact this};have ho:Blk w0 (w.heap.size+1+1+1) 205 (tS x y 0):=by {
 rw[hw0];have:=Blk.new (((w.alloc (.cells #[.int .u64 (wd x 0:Nat),.int .u64 (wd x 1:Nat),.int .u64 0,.int .u64 0,.int .u64 0,.int .u64 0] 205)).alloc (.cells #[.int .u64 (wd y 0:Nat),.int .u64 (wd y 1:Nat),.int .u64 0,.int .u64 0,.int .u64 0,.int .u64 0] 205)).alloc (.cells #[.int .u64 0,.int .u64 0,.int .u64 0,.int .u64 0,.int .u64 0,.int .u64 0] 205)) (tS x y 0) 205;simp only[World.size_alloc]at this;exact this};have hF0:Fr [] w w0:=by rw[hw0];exact((((Fr.refl [] w).alloc _).alloc _).alloc _).alloc _
 obtain⟨ba,hba⟩:∃ba,ba=w.heap.size:=⟨_,rfl⟩;have HW0:=qA hw0;go_enter Tryz.func181,Tryz.ntmps181
 clear hw0;go_wp2
 rw[<-HW0.out,<-hba];rw[<-hba]at ha hb hr ho;have HA:=qA (zI ha (zI hb (zI hr (zI hF0 hba))));clear ha hb hr hF0 hba HW0;go_loopw [6,7] (fun c1 c2 wr=>∃(i:Nat),i<=6/\c1=.int .u64 (cry x y i:Nat)/\c2=.int .i64 i/\Hid (Blk wr (ba+1+1+1) 205 (tS x y i)/\Fr [ba+1+1+1] w0 wr)) (fun _ c _=>6-(intOf c).toNat)
 case atStart=>exact⟨0,by omega,rfl,rfl,qA ⟨ho,Fr.refl _ _⟩⟩
 case round=>
  obtain⟨i,hi,rfl,rfl,HR⟩:=hrel;clear ho;rename World=>wr
  by_cases hi6:i<6
  {
  have hii:(i:Int)<6:=by omega
  have hi0:(0:Int)<=i:=by omega
  have ca:=(HR.out.2.blk HA.out.1 (by simp;omega)).cell i;have cb:=(HR.out.2.blk HA.out.2.1 (by simp)).cell i;rw[aLV x hi6]at ca;rw[aLV y hi6]at cb;have l1:=wF hx i;have l2:=wF hy i;have l3:=aLY hx hy i;have hset:=aLW x y hi6;have hcs:cry x y (i+1)=(wd x i+wd y i+cry x y i)/4294967296:=rfl;have hdg:dig x y i=(wd x i+wd y i+cry x y i)%4294967296:=rfl;rw[hdg]at hset;clear hdg;have Hset:=qA (zI hset hcs);clear hset hcs;generalize wd x i=a at *;generalize wd y i=b at *;generalize cry x y i=c at *;have hw1:IntKind.u64.wrap ((a:Int)+b)=((a+b:Nat):Int):=by simp[IntKind.wrap,IntKind.bits,IntKind.signed];omega
  have hw2:IntKind.u64.wrap (((a+b:Nat):Int)+c)=((a+b+c:Nat):Int):=by simp[IntKind.wrap,IntKind.bits,IntKind.signed];omega
  obtain⟨s,hs⟩:∃s,s=a+b+c:=⟨_,rfl⟩;have hw0:IntKind.u64.wrap ((a:Int)+b+c)=(s:Int):=by rw[hs];simp[IntKind.wrap,IntKind.bits,IntKind.signed];omega
  have hsl:s<=8589934592:=by omega
  rw[<-hs]at hw2 Hset;have hw3:IntKind.u64.wrap ((s:Int).tmod 4294967296)=((s%4294967296:Nat):Int):=by rw[Int.tmod_eq_emod_of_nonneg (by omega)];simp[IntKind.wrap,IntKind.bits,IntKind.signed];omega
  have hw4:IntKind.u64.wrap ((s:Int).tdiv 4294967296)=((s/4294967296:Nat):Int):=by rw[Int.tdiv_eq_ediv_of_nonneg (by omega)];simp[IntKind.wrap,IntKind.bits,IntKind.signed];omega
  have hm3:((s:Int)%4294967296)=((s%4294967296:Nat):Int):=by omega
  have hm4:((s:Int)/4294967296)=((s/4294967296:Nat):Int):=by omega
  have ht3:(s:Int).tmod 4294967296=((s%4294967296:Nat):Int):=by rw[Int.tmod_eq_emod_of_nonneg (by omega)];omega
  have ht4:(s:Int).tdiv 4294967296=((s/4294967296:Nat):Int):=by rw[Int.tdiv_eq_ediv_of_nonneg (by omega)];omega
  clear hs l1 l2 l3;obtain⟨d,hd⟩:∃d,d=s%4294967296:=⟨_,rfl⟩;obtain⟨k,hk⟩:∃k,k=s/4294967296:=⟨_,rfl⟩;rw[<-hd]at hw3 hm3 ht3 Hset;rw[<-hk]at hw4 hm4 ht4 Hset;clear hd hk;go_wp2
  go_quiet (fail)
  have HR2:=qA (zI (HR.out.1.drewN nq) (HR.out.2.drewN nq));have co:=HR2.out.1.cell i;have fo:=HR2.out.1.frozen i;have hex:∃u,(tS x y i)[i]? =some u:=⟨_,qL (by rw[aLX];exact hi6)⟩;obtain⟨u,hu⟩:=hex;rw[hu]at co;clear hu ca cb HR;generalize wr.drewN nq=ws at *;go_wp2_with fail
  go_roundw
  case rel=>
   refine⟨i+1,by omega,by rw[Hset.out.2],by go_num,qA ⟨?_,HR2.out.2.setCell _ _ (.inl (by simp))⟩⟩;rw[<-Hset.out.1];exact HR2.out.1.set i _
  case measure=>simp[intOf];omega}
  {
  obtain rfl:i=6:=by omega
  have hb6:=HR.out.1;have o0:=hb6.cell 0;have o1:=hb6.cell 1;have o2:=hb6.cell 2;have o3:=hb6.cell 3;have o4:=hb6.cell 4;have o5:=hb6.cell 5;have hrr:=HR.out.2.blk HA.out.2.2.1 (by simp);have r0:=hrr.cell 0;have r1:=hrr.cell 1;have r2:=hrr.cell 2;have r3:=hrr.cell 3;have r4:=hrr.cell 4;have r5:=hrr.cell 5;have f0:=hrr.frozen 0;have f1:=hrr.frozen 1;have f2:=hrr.frozen 2;have f3:=hrr.frozen 3;have f4:=hrr.frozen 4;have f5:=hrr.frozen 5;have d0:tS x y 6=[.int .u64 (dig x y 0:Nat),.int .u64 (dig x y 1:Nat),.int .u64 (dig x y 2:Nat),.int .u64 (dig x y 3:Nat),.int .u64 (dig x y 4:Nat),.int .u64 (dig x y 5:Nat)]:=rfl;rw[d0]at o0 o1 o2 o3 o4 o5;simp only[zJ,zK]at o0 o1 o2 o3 o4 o5 r0 r1 r2 r3 r4 r5;have hs0:=((((((hrr.set 0 (.int .u64 (dig x y 0:Nat))).set 1 (.int .u64 (dig x y 1:Nat))).set 2 (.int .u64 (dig x y 2:Nat))).set 3 (.int .u64 (dig x y 3:Nat))).set 4 (.int .u64 (dig x y 4:Nat))).set 5 (.int .u64 (dig x y 5:Nat)));have s0:=hs0.cell 0;have s1:=hs0.cell 1;have s2:=hs0.cell 2;have s3:=hs0.cell 3;have s4:=hs0.cell 4;have s5:=hs0.cell 5;simp only[zJ,zK,qY,qU]at s0 s1 s2 s3 s4 s5;have hFe:Fr [] w wr:=HA.out.2.2.2.1.trans HR.out.2 (fun b hb=>.inr (by rw[qH.1 hb,<-HA.out.2.2.2.2];omega));have hbl:∀v:Value,∀i w', Fr [] w w' -> Fr [] w (w'.setCell ⟨ba+1+1,i,none⟩ v):=fun v i w' h=>h.setCell _ _ (.inr (by rw[<-HA.out.2.2.2.2];show ba<=ba+1+1;omega));have HFe:=qA (hbl (.int .u64 (dig x y 5:Nat)) 5 _ (hbl (.int .u64 (dig x y 4:Nat)) 4 _ (hbl (.int .u64 (dig x y 3:Nat)) 3 _ (hbl (.int .u64 (dig x y 2:Nat)) 2 _ (hbl (.int .u64 (dig x y 1:Nat)) 1 _ (hbl (.int .u64 (dig x y 0:Nat)) 0 _ hFe))))));clear hb6 hrr d0 hs0 hFe hbl HR HA;go_wp2
  exact bodyPost_ret (v:=.agg #[.int .u64 (dig x y 0:Nat),.int .u64 (dig x y 1:Nat),.int .u64 (dig x y 2:Nat),.int .u64 (dig x y 3:Nat),.int .u64 (dig x y 4:Nat),.int .u64 (dig x y 5:Nat)]) (by simp[results,Tryz.results181,go_sem,s0,s1,s2,s3,s4,s5]) rfl ⟨rfl,HFe.out⟩}};exact key
section
variable {P:Program} {ops:Array Oper} {md:Region.Mode} (G:Nat->Sem Go.Next->Value->Prop) (must:Nat->Bool)
def sOp(ops:Array Oper)(i:Nat)(K:Act->Prop)(a:Act):Prop:=
  match ops[i]? with
  | none=>K a
  | some o=>if Region.wanted o (yielded ops a.tmps) then ∃v,G i (execOp a.eval o) v/\K (a.put o.dst v) else must i=false/\K (a.put o.dst undef)
def tT(ops:Array Oper)(Q:Act->Prop):Nat->List Oper->Act->Prop
  | _,[],a=>Q a
  | k,o::rest,a=>if Region.wanted o (yielded ops a.tmps) then ∃v,G k (execOp a.eval o) v/\tT ops Q (k+1) rest (a.put o.dst v) else must k=false/\tT ops Q (k+1) rest (a.put o.dst undef)
def aHI(md:Region.Mode)(ops:Array Oper)(Q:Act->Prop):Nat->Array Bool->Act->Prop
  | 0,listed,a=>Region.ready md ops listed=[]/\Q a
  | fuel+1,listed,a=>
    (Region.ready md ops listed=[]->Q a)/\∀i∈Region.ready md ops listed,sOp G must ops i (aHI md ops Q fuel (listed.setIfInBounds i true)) a
variable {G must}
def eW(G:Nat->Sem Go.Next->Value->Prop)(must:Nat->Bool)(ops:Array Oper)(i:Nat)(o:Oper)(v:Value)(a:Act):Prop:=
  (Region.wanted o (yielded ops a.tmps)=true/\G i (execOp a.eval o) v)∨(Region.wanted o (yielded ops a.tmps)=false/\must i=false/\v=undef)
theorem eW.op{i:Nat}{o:Oper}{v:Value}{a:Act}(hi:ops[i]? =some o)(hy:eW G must ops i o v a){K:Act->Prop}(h:K (a.put o.dst v)):sOp G must ops i K a:=by
 unfold sOp;simp only[hi];rcases hy with⟨hw,hv⟩|⟨hw,hm,rfl⟩
 · rw[qD hw];exact⟨v,hv,h⟩
 · rw[qC (by simp[hw])];exact⟨hm,h⟩
theorem eW.same{i:Nat}{o:Oper}{v:Value}{a a' :Act}(hy:eW G must ops i o v a)(he:execOp a'.eval o=execOp a.eval o)
    (hw:Region.wanted o (yielded ops a'.tmps)=Region.wanted o (yielded ops a.tmps)):eW G must ops i o v a' :=by
 unfold eW at *;rw[he,hw];exact hy
theorem aLZ{i:Nat}{a:Act}{K K' :Act->Prop}(h:∀a,K a->K' a)(hh:sOp G must ops i K a):sOp G must ops i K' a:=by
 unfold sOp at *;cases ho:ops[i]? with
 | none=>simp only[ho]at hh ⊢;exact h _ hh
 | some o=>{
 simp only[ho]at hh ⊢;by_cases hw:Region.wanted o (yielded ops a.tmps)=true
 · rw[qD hw]at *;obtain⟨v,h1,h2⟩:=hh;exact⟨v,h1,h _ h2⟩
 · rw[qC hw]at *;exact⟨hh.1,h _ hh.2⟩}
theorem uO{i:Nat}{o:Oper}{a:Act}{K:Act->Prop}(hi:ops[i]? =some o)(h:sOp G must ops i K a):∃v,eW G must ops i o v a/\K (a.put o.dst v):=by
 unfold sOp at h;simp only[hi]at h;by_cases hw:Region.wanted o (yielded ops a.tmps)=true
 {
 rw[qD hw]at h;obtain⟨v,h1,h2⟩:=h;exact⟨v,.inl ⟨hw,h1⟩,h2⟩}
 {
 rw[qC hw]at h;exact⟨undef,.inr ⟨by simpa using hw,h.1,rfl⟩,h.2⟩}
theorem aPI{i j:Nat}{oi oj:Oper}{v:Value}(hj:ops[j]? =some oj)(hap:oi.apart ops oj=true)
    (hsi:∀cs b,oi.op≠.select cs b) (hsj:∀cs b,oj.op≠.select cs b) {K:Act->Prop} {a:Act}
    (hy:eW G must ops i oi v a) (h:sOp G must ops j K (a.put oi.dst v)):
    sOp G must ops j (fun a' =>eW G must ops i oi v a' /\ K (a'.put oi.dst v)) a:=by
 obtain⟨h1,h2,h3⟩:=Oper.apart_spec hap;have keep:∀(a:Act),eW G must ops i oi v a->∀u,eW G must ops i oi v (a.put oj.dst u):=fun a hy u=>
   hy.same (execOp_put oi hsi a oj.dst u h3) (wanted_put oi a oj.dst u h3)
 unfold sOp at *;simp only[hj]at *;rw[wanted_put oj a oi.dst v h1]at h;by_cases hw:Region.wanted oj (yielded ops a.tmps)=true
 {
 rw[qD hw]at *;obtain⟨u,hu,hn⟩:=h;rw[execOp_put oj hsj a oi.dst v h1]at hu;exact⟨u,hu,keep a hy u,by rw[<-Act.put_comm a v u h2];exact hn⟩}
 {
 rw[qC hw]at *;exact⟨h.1,keep a hy _,by rw[<-Act.put_comm a v undef h2];exact h.2⟩}
theorem aDH{Q:Act->Prop}{i:Nat}{oi:Oper}{v:Value}(hi:ops[i]? =some oi)(hsel:∀(j:Nat) (o:Oper) cs b,ops[j]? =some o->o.op≠.select cs b):
    ∀(fuel:Nat) (listed:Array Bool) (a:Act),
      (∀j oj,ops[j]? =some oj->j≠i->listed.getD j true=false->(∀e∈oj.after,Region.binds md e=true->e.on≠i)->oi.apart ops oj=true) ->
      i∈Region.ready md ops listed->eW G must ops i oi v a ->
      aHI G must md ops Q fuel (listed.setIfInBounds i true) (a.put oi.dst v)->aHI G must md ops Q (fuel+1) listed a:=by
  intro fuel;induction fuel with
  | zero=>
    intro listed a _ hr hy H;refine⟨fun h=>(by rw[h]at hr;cases hr),fun j hj=>?_⟩;by_cases hji:j=i
    · subst hji;exact hy.op hi H
    · have := ready_mono hj hji
      rw[H.1]at this;cases this
  | succ fuel ih=>
    intro listed a hfree hr hy H;refine⟨fun h=>(by rw[h]at hr;cases hr),fun j hj=>?_⟩;by_cases hji:j=i
    · subst hji;exact hy.op hi H
    · have h1 := H.2 j (ready_mono hj hji)
      obtain⟨hjun,oj,hoj,hall⟩:=mem_ready.1 hj;have hnot:∀e∈oj.after,Region.binds md e=true->e.on≠i:=fun e he hb heq=>by
        have h1:=hall e he hb;have h0:=(mem_ready.1 hr).1;rw[heq]at h1;rcases Nat.lt_or_ge i listed.size with h' | h'
        · simp[h']at h0 h1;rw[h0]at h1;cases h1
        · simp[Array.getElem?_eq_none h']at h1
      have h2:=aPI hoj (hfree j oj hoj hji hjun hnot) (fun cs b=>hsel i oi cs b hi) (fun cs b=>hsel j oj cs b hoj) hy h1
      have hfree' :∀k ok,ops[k]? =some ok->k≠i->(listed.setIfInBounds j true).getD k true=false ->
          (∀e∈ok.after,Region.binds md e=true->e.on≠i)->oi.apart ops ok=true:=fun k ok hk hki hun hno=>by
        refine hfree k ok hk hki ?_ hno;by_cases hjk:j=k
        · subst hjk;exact hjun
        · rw[getD_set_ne true hjk]at hun;exact hun
      refine aLZ (fun a' h3=>ih (listed.setIfInBounds j true) a' hfree' (ready_mono hr (Ne.symm hji)) h3.1 ?_) h2;rw[Array.setIfInBounds_comm _ _ hji];exact h3.2
theorem aAY{Q:Act->Prop}(hs:Region.noSelect ops=true):∀(l:List Oper) (k:Nat) (listed:Array Bool) (a:Act),(∀j,l[j]? =ops[k+j]?) ->
    Region.lexFrom md ops l.length k listed=true->tT G must ops Q k l a->aHI G must md ops Q l.length listed a
  | [],_,_,_,_,hB,h=>⟨by simpa[Region.lexFrom] using hB,h⟩
  | o::l,k,listed,a,hl,hB,h=>by
    have h0:ops[k]? =some o:=by simpa using (hl 0).symm
    simp only[qZ,Region.lexFrom,qX]at hB;obtain⟨⟨hr,hf⟩,hB'⟩:=hB;have hst:sOp G must ops k (tT G must ops Q (k+1) l) a:=by unfold sOp;simp only[h0];exact h
    obtain⟨v,hy,hK⟩:=uO h0 hst
    exact aDH h0 (Region.noSelect_spec hs) l.length listed a (Region.free_spec h0 hf) (by simpa using hr) hy
      (aAY hs l (k+1) _ _ (fun j=>by have:=hl (j+1);simpa[Nat.add_assoc,Nat.add_comm 1 j] using this) hB' hK)
end
def aAZ(P:Program)(cs:List Nat)(C:Nat->World->Prop)(i:Nat)(s:Sem Go.Next)(v:Value):Prop:=
  if i∈cs then ∀w,C (cs.idxOf i) w->cR P (C (cs.idxOf i+1)) v (s.run P w) else ∀q w,C q w->Oper.quietUpon P (C q) w v (s.run P w)
section
variable {P:Program} {ops:Array Oper} {md:Region.Mode} {C:Nat->World->Prop} {cs:List Nat}
theorem aBA(hrow:rowB md ops cs=true)(hb:fC md ops=true){Q:Act->Prop}{Q' :Exit->Act->World->Prop}(hQ:∀a w,C cs.length w->Q a->Q' .normal a w):∀(fuel:Nat) (listed:Array Bool) (a:Act) (w:World),listed.size=ops.size ->
    rI md ops listed->C (cnt cs listed) w->aHI (aAZ P cs C) (fun i=>decide (i∈cs)) md ops Q fuel listed a->wpAny P md ops Q' fuel listed a w:=by
 have hend:∀listed:Array Bool,listed.size=ops.size->Region.ready md ops listed=[]->cnt cs listed=cs.length:=by {
 intro listed hs h0;unfold cnt;rw[List.countP_eq_length];intro c hc;exact iT hs hb h0 c (aBS hrow c hc)};have hnd:cs.Nodup:=(jM hrow).imp (fun h=>Nat.ne_of_lt h);intro fuel;induction fuel with
 | zero=>{
 intro listed a w hs _ hp h;exact⟨h.1,hQ _ _ (by rw[hend listed hs h.1]at hp;exact hp) h.2⟩}
 | succ fuel ih=>{
 intro listed a w hs hsh hp h;refine⟨fun h0=>hQ _ _ (by rw[hend listed hs h0]at hp;exact hp) (h.1 h0),fun i hi=>?_⟩;have hg:=h.2 i hi;obtain⟨hun,oi,hoi,_⟩:=mem_ready.1 hi;have hil:i<ops.size:=(qM.1 hoi).1;have hs' :(listed.setIfInBounds i true).size=ops.size:=by simp[hs]
 have hl0:listed.getD i false=false:=by simp[hs,hil]at hun ⊢;exact hun
 have next:∀a' w', C (cnt cs (listed.setIfInBounds i true)) w' -> aHI (aAZ P cs C) (fun i=>decide (i∈cs)) md ops Q fuel (listed.setIfInBounds i true) a' -> wpAny P md ops Q' fuel (listed.setIfInBounds i true) a' w' :=
   fun a' w' hp' hg' =>ih _ a' w' hs' (hsh.set hi) hp' hg'
 unfold sOp at hg;unfold wpOp;simp only[hoi]at hg ⊢;by_cases hmem:i∈cs
 {
 have hcs:=aDV (L:=listed) (by omega) hl0 hnd hmem;have hidx:cs.idxOf i=cnt cs listed:=by {
 have hlt:=List.idxOf_lt_length_of_mem hmem;have hget:cs[cs.idxOf i]? =some i:=by rw[qL hlt,List.getElem_idxOf]
 have h1:=fU hsh hrow _ _ hget;rw[hl0]at h1;have hge:cnt cs listed<=cs.idxOf i:=by {
 apply qQ;intro hx;have:=h1.2 (by omega);cases this};have h2:=fU (hsh.set hi) hrow _ _ hget;rw[hcs]at h2;have h3:(listed.setIfInBounds i true).getD i false=true:=by simp[hs,hil]
 have:=h2.1 h3;omega};by_cases hw:Region.wanted oi (yielded ops a.tmps)=true
 {
 rw[qD hw]at hg ⊢;obtain⟨v,hv,hk⟩:=hg;unfold aAZ at hv;rw[qD hmem,hidx]at hv;exact .inl (mX (fun w' hc' =>next _ w' (by rw[hcs];exact hc') hk) (hv w hp))}
 {
 rw[qC hw]at hg;exact absurd hmem (of_decide_eq_false hg.1)}}
 {
 have hcs:=uZ (L:=listed) hmem;by_cases hw:Region.wanted oi (yielded ops a.tmps)=true
 {
 rw[qD hw]at hg ⊢;obtain⟨v,hv,hk⟩:=hg;unfold aAZ at hv;left
 rw[qC hmem]at hv;exact mW hp (fun w' hc' =>next _ w' (by rw[hcs];exact hc') hk) (hv _ w hp)}
 {
 rw[qC hw]at hg ⊢;exact next _ w (by rw[hcs];exact hp) hg.2}}}
structure SW (P:Program) (ops:Array Oper) (cs:List Nat) (C:Nat->World->Prop) (Q:Act->Prop) (k:Nat) (l:List Oper) (a:Act):Prop where
  out:tT (aAZ P cs C) (fun i=>decide (i∈cs)) ops Q k l a
theorem wG(cs:List Nat){id:Nat}{Q:Exit->Act->World->Prop}{a:Act}{w:World}{l:List Oper}(C:Nat->World->Prop)(hm:P.follows .mixedOrders=true)(hB:Region.lexB .any l.toArray=true)(hk:(fC .any l.toArray&&rowB .any l.toArray cs)=true)
    (hC:C 0 w.drew) (h:SW P l.toArray cs C (fun a' =>∀w', C cs.length w' -> Q .normal a' w') 0 l a):(Code.region id l.toArray true).wp P Q a w:=by
 simp only[Region.lexB,qX]at hB;rw[qX]at hk;refine wp_region_any hm (aBA (Q:=fun a' =>∀w', C cs.length w' -> Q .normal a' w') (C:=C) (cs:=cs) hk.2 hk.1 (fun _ w' hw' h=>h w' hw') _ _ _ _ (by simp) ?_ ?_ ?_)
 · intro j oj _ hl;rw[dT]at hl;cases hl
 {
 have:cnt cs (Array.replicate l.toArray.size false)=0:=by unfold cnt;rw[List.countP_eq_zero];intro c _;rw[dT];simp
 rw[this];exact hC}
 {
 have:=aAY (G:=aAZ P cs C) (must:=fun i=>decide (i∈cs)) (md:=.any) hB.1 l 0 (Array.replicate l.toArray.size false) a (by simp) (by simpa using hB.2) h.out;simpa using this}
variable {Q:Act->Prop} {k:Nat} {o:Oper} {rest:List Oper} {a:Act}
theorem kA(hk:decide (k∈cs)=false)(hw:Region.wanted o (yielded ops a.tmps)=true)(v:Value)
    (h0:∀q w,C q w->Oper.quietUpon P (C q) w v ((execOp a.eval o).run P w)) (h:SW P ops cs C Q (k+1) rest (a.put o.dst v)):SW P ops cs C Q k (o::rest) a:=by
 refine⟨?_⟩;unfold tT;rw[qD hw];refine⟨v,?_,h.out⟩;unfold aAZ;rw[qC (of_decide_eq_false hk)];exact h0
theorem gH(hk:decide (k∈cs)=false)(hw:Region.wanted o (yielded ops a.tmps)=true)
    (h:∀K:Act->Prop,Hid (∀a,SW P ops cs C Q (k+1) rest a->K a)->Oper.pure_ P o a K):SW P ops cs C Q k (o::rest) a:=by
 obtain⟨v,h1,h2⟩:=h _ (qA fun a h=>h);refine kA hk hw v (fun q w _=>?_) h2;have:=h1 w;unfold Oper.quietUpon;unfold Oper.quietAt at *;revert this;generalize (execOp a.eval o).run P w=r;intro this;cases r with
 | halt x w' =>exact this.elim
 | ok x w' =>{
 cases x with
 | value u=>exact⟨this.1,this.2⟩
 | skip=>exact⟨this.1,this.2⟩
 | _=>exact this.elim}
theorem yB(q:Nat)(hk:(decide (k∈cs)&&decide (cs.idxOf k=q))=true)(hw:Region.wanted o (yielded ops a.tmps)=true)(v:Value)
    (h0:∀w,C q w->cR P (C (q+1)) v ((execOp a.eval o).run P w)) (h:SW P ops cs C Q (k+1) rest (a.put o.dst v)):SW P ops cs C Q k (o::rest) a:=by
 rw[qX]at hk;refine⟨?_⟩;unfold tT;rw[qD hw];refine⟨v,?_,h.out⟩;unfold aAZ;rw[qD (of_decide_eq_true hk.1),of_decide_eq_true hk.2];exact h0
theorem aMA(h:Q a):SW P ops cs C Q k [] a:=⟨h⟩
end
theorem aMB{x:Nat}(hx:x<=9223372036854775807)(w:World):
    Calls Tryz.prog 142 #[.int .i64 x] w fun e w' =>e=.returned (.agg #[.bool false,.int .u64 (wd x 0:Nat),.int .u64 (wd x 1:Nat),.int .u64 0,.int .u64 0,.int .u64 0,.int .u64 0])/\Fr [] w w' :=by
 have hw1:IntKind.u64.wrap (x:Int)=x:=by simp[IntKind.wrap,IntKind.bits,IntKind.signed];omega
 have hd0:decide ((x:Int)<0)=false:=qF (by omega);have ht3:(x:Int).tmod 4294967296=((wd x 0:Nat):Int):=by rw[Int.tmod_eq_emod_of_nonneg (by omega)];show _=((x%4294967296:Nat):Int);omega
 have ht4:(x:Int).tdiv 4294967296=((wd x 1:Nat):Int):=by rw[Int.tdiv_eq_ediv_of_nonneg (by omega)];show _=((x/4294967296:Nat):Int);omega
 have h0:=wF hx 0;have h1:=wF hx 1;have hm3:(x:Int)%4294967296=((wd x 0:Nat):Int):=by show _=((x%4294967296:Nat):Int);omega
 have hm4:(x:Int)/4294967296=((wd x 1:Nat):Int):=by show _=((x/4294967296:Nat):Int);omega
 generalize wd x 0=a at *;generalize wd x 1=b at *;have hw3:IntKind.u64.wrap (a:Int)=a:=by simp[IntKind.wrap,IntKind.bits,IntKind.signed];omega
 have hw4:IntKind.u64.wrap (b:Int)=b:=by simp[IntKind.wrap,IntKind.bits,IntKind.signed];omega
 clear h0 h1;go_enter Tryz.func142,Tryz.ntmps142
 go_wp2
 have hb:=(Blk.new w [.bool false,.int .u64 a,.int .u64 b,.int .u64 0,.int .u64 0,.int .u64 0,.int .u64 0] 207).alloc (.cells #[.bool false,.int .u64 a,.int .u64 b,.int .u64 0,.int .u64 0,.int .u64 0,.int .u64 0] 207);have r0:=hb.cell 0;have r1:=hb.cell 1;have r2:=hb.cell 2;have r3:=hb.cell 3;have r4:=hb.cell 4;have r5:=hb.cell 5;have r6:=hb.cell 6;simp only[zJ,zK]at r0 r1 r2 r3 r4 r5 r6;exact bodyPost_ret (v:=.agg #[.bool false,.int .u64 a,.int .u64 b,.int .u64 0,.int .u64 0,.int .u64 0,.int .u64 0]) (by simp[results,Tryz.results142,go_sem,r0,r1,r2,r3,r4,r5,r6]) rfl ⟨rfl,((Fr.refl [] w).alloc _).alloc _⟩
theorem aSP{x y:Nat}(hx:x<=9223372036854775807)(hy:y<=9223372036854775807)(w:World):
    Calls Tryz.prog 141 #[.agg #[.bool false,.int .u64 (wd x 0:Nat),.int .u64 (wd x 1:Nat),.int .u64 0,.int .u64 0,.int .u64 0,.int .u64 0],.agg #[.bool false,.int .u64 (wd y 0:Nat),.int .u64 (wd y 1:Nat),.int .u64 0,.int .u64 0,.int .u64 0,.int .u64 0]] w fun e w' =>e=.returned (.agg #[.bool false,.int .u64 (dig x y 0:Nat),.int .u64 (dig x y 1:Nat),.int .u64 (dig x y 2:Nat),.int .u64 (dig x y 3:Nat),.int .u64 (dig x y 4:Nat),.int .u64 (dig x y 5:Nat)])/\Fr [] w w' :=by
 obtain⟨w3,hw3⟩:∃w3,w3=((w.alloc (.cells #[.bool false,.int .u64 (wd x 0:Nat),.int .u64 (wd x 1:Nat),.int .u64 0,.int .u64 0,.int .u64 0,.int .u64 0] 207)).alloc (.cells #[.bool false,.int .u64 (wd y 0:Nat),.int .u64 (wd y 1:Nat),.int .u64 0,.int .u64 0,.int .u64 0,.int .u64 0] 207)).alloc (.cells #[.bool false,.int .u64 0,.int .u64 0,.int .u64 0,.int .u64 0,.int .u64 0,.int .u64 0] 207):=⟨_,rfl⟩;have ha:Blk w3 w.heap.size 207 [.bool false,.int .u64 (wd x 0:Nat),.int .u64 (wd x 1:Nat),.int .u64 0,.int .u64 0,.int .u64 0,.int .u64 0]:=by rw[hw3];exact((Blk.new w _ _).alloc _).alloc _
 have hb:Blk w3 (w.heap.size+1) 207 [.bool false,.int .u64 (wd y 0:Nat),.int .u64 (wd y 1:Nat),.int .u64 0,.int .u64 0,.int .u64 0,.int .u64 0]:=by {
 rw[hw3];have:=(Blk.new (w.alloc (.cells #[.bool false,.int .u64 (wd x 0:Nat),.int .u64 (wd x 1:Nat),.int .u64 0,.int .u64 0,.int .u64 0,.int .u64 0] 207)) [.bool false,.int .u64 (wd y 0:Nat),.int .u64 (wd y 1:Nat),.int .u64 0,.int .u64 0,.int .u64 0,.int .u64 0] 207).alloc (.cells #[.bool false,.int .u64 0,.int .u64 0,.int .u64 0,.int .u64 0,.int .u64 0,.int .u64 0] 207);simp only[World.size_alloc]at this;exact this};have hr:Blk w3 (w.heap.size+1+1) 207 [.bool false,.int .u64 0,.int .u64 0,.int .u64 0,.int .u64 0,.int .u64 0,.int .u64 0]:=by {
 rw[hw3];have:=Blk.new ((w.alloc (.cells #[.bool false,.int .u64 (wd x 0:Nat),.int .u64 (wd x 1:Nat),.int .u64 0,.int .u64 0,.int .u64 0,.int .u64 0] 207)).alloc (.cells #[.bool false,.int .u64 (wd y 0:Nat),.int .u64 (wd y 1:Nat),.int .u64 0,.int .u64 0,.int .u64 0,.int .u64 0] 207)) [.bool false,.int .u64 0,.int .u64 0,.int .u64 0,.int .u64 0,.int .u64 0,.int .u64 0] 207;simp only[World.size_alloc]at this;exact this};have hF0:Fr [] w w3:=by rw[hw3];exact(((Fr.refl [] w).alloc _).alloc _).alloc _
 have a0:=ha.cell 0;have a1:=ha.cell 1;have a2:=ha.cell 2;have a3:=ha.cell 3;have a4:=ha.cell 4;have a5:=ha.cell 5;have a6:=ha.cell 6;have b0:=hb.cell 0;have b1:=hb.cell 1;have b2:=hb.cell 2;have b3:=hb.cell 3;have b4:=hb.cell 4;have b5:=hb.cell 5;have b6:=hb.cell 6;simp only[zJ,zK]at a0 a1 a2 a3 a4 a5 a6 b0 b1 b2 b3 b4 b5 b6;have HM:=qA (fun w=>aSO hx hy w);have HW3:=qA hw3;rw[hw3]at a0 b0;clear hw3;go_enter Tryz.func141,Tryz.ntmps141
 go_wp2_with fail
 rw[<-HW3.out];rw[<-HW3.out]at a0 b0;obtain⟨ba,hba⟩:∃ba,ba=w.heap.size:=⟨_,rfl⟩;rw[<-hba]at a0 a1 a2 a3 a4 a5 a6 b0 b1 b2 b3 b4 b5 b6 hr ⊢;obtain⟨br,hbr⟩:∃br,br=ba+1+1:=⟨_,rfl⟩;rw[<-hbr]at hr ⊢;have HNe:=qA (show ba∉[br]/\ba+1∉[br] from⟨fun h=>by have:=qH.1 h;omega,fun h=>by have:=qH.1 h;omega⟩);have H3:=qA (zI hr (zI hF0 (zI hba hbr)));obtain⟨CX,hCX⟩:∃CX:Nat->World->Prop,CX=fun q w' =>match q with
   | 0=>Fr [br] w3 w' /\ Blk w' br 207 [.bool false,.int .u64 0,.int .u64 0,.int .u64 0,.int .u64 0,.int .u64 0,.int .u64 0]
   | _=>Fr [br] w3 w' /\ Blk w' br 207 [.bool false,.int .u64 (dig x y 0:Nat),.int .u64 (dig x y 1:Nat),.int .u64 (dig x y 2:Nat),.int .u64 (dig x y 3:Nat),.int .u64 (dig x y 4:Nat),.int .u64 (dig x y 5:Nat)]:=⟨_,rfl⟩
 have HCF:=qA (show ∀q w', CX q w' -> Fr [br] w3 w' from fun q w' h=>by
   rw[hCX]at h;match q,h with
   | 0,h=>exact h.1
   | n+1,h=>exact h.1)
 have HB0:=qA (show ∀w', CX 0 w' -> Fr [br] w3 w' /\ Blk w' br 207 [.bool false,.int .u64 0,.int .u64 0,.int .u64 0,.int .u64 0,.int .u64 0,.int .u64 0] from fun w' h=>by rw[hCX]at h;exact h);have HB1:=qA (show ∀w', CX 1 w' -> Fr [br] w3 w' /\ Blk w' br 207 [.bool false,.int .u64 (dig x y 0:Nat),.int .u64 (dig x y 1:Nat),.int .u64 (dig x y 2:Nat),.int .u64 (dig x y 3:Nat),.int .u64 (dig x y 4:Nat),.int .u64 (dig x y 5:Nat)] from fun w' h=>by rw[hCX]at h;exact h);have HC0:=qA (show CX 0 w3.drew by rw[hCX];exact⟨(Fr.refl _ w3).drew,hr.drew⟩);have HMr:=qA (show ∀q w', CX q w' -> Calls Tryz.prog 181 #[.agg #[.int .u64 (wd x 0:Nat),.int .u64 (wd x 1:Nat),.int .u64 0,.int .u64 0,.int .u64 0,.int .u64 0],.agg #[.int .u64 (wd y 0:Nat),.int .u64 (wd y 1:Nat),.int .u64 0,.int .u64 0,.int .u64 0,.int .u64 0]] w' fun e w'' =>e=.returned (.agg #[.int .u64 (dig x y 0:Nat),.int .u64 (dig x y 1:Nat),.int .u64 (dig x y 2:Nat),.int .u64 (dig x y 3:Nat),.int .u64 (dig x y 4:Nat),.int .u64 (dig x y 5:Nat)])/\CX q w'' from fun q w' h=>(HM.out w').mono fun e w'' k=>⟨k.1,by
   rw[hCX]at h ⊢;match q,h with
   | 0,h=>exact⟨h.1.trans k.2 (by simp),k.2.blk h.2 (by simp)⟩
   | n+1,h=>exact⟨h.1.trans k.2 (by simp),k.2.blk h.2 (by simp)⟩⟩)
 have HSt:=qA (show ∀w', CX 0 w' -> CX 1 (((((((w'.setCell ⟨br,0,none⟩ (.bool false)).setCell ⟨br,1,none⟩ (.int .u64 (dig x y 0:Nat))).setCell ⟨br,2,none⟩ (.int .u64 (dig x y 1:Nat))).setCell ⟨br,3,none⟩ (.int .u64 (dig x y 2:Nat))).setCell ⟨br,4,none⟩ (.int .u64 (dig x y 3:Nat))).setCell ⟨br,5,none⟩ (.int .u64 (dig x y 4:Nat))).setCell ⟨br,6,none⟩ (.int .u64 (dig x y 5:Nat))) from fun w' h=>by
   rw[hCX]at h ⊢;obtain⟨h1,h2⟩:=h;exact⟨(((((((h1.setCell ⟨br,0,none⟩ (.bool false) (.inl (by simp))).setCell ⟨br,1,none⟩ (.int .u64 (dig x y 0:Nat)) (.inl (by simp))).setCell ⟨br,2,none⟩ (.int .u64 (dig x y 1:Nat)) (.inl (by simp))).setCell ⟨br,3,none⟩ (.int .u64 (dig x y 2:Nat)) (.inl (by simp))).setCell ⟨br,4,none⟩ (.int .u64 (dig x y 3:Nat)) (.inl (by simp))).setCell ⟨br,5,none⟩ (.int .u64 (dig x y 4:Nat)) (.inl (by simp))).setCell ⟨br,6,none⟩ (.int .u64 (dig x y 5:Nat)) (.inl (by simp))),((((((h2.set 0 (.bool false)).set 1 (.int .u64 (dig x y 0:Nat))).set 2 (.int .u64 (dig x y 1:Nat))).set 3 (.int .u64 (dig x y 2:Nat))).set 4 (.int .u64 (dig x y 3:Nat))).set 5 (.int .u64 (dig x y 4:Nat))).set 6 (.int .u64 (dig x y 5:Nat))⟩)
 clear hr hF0 hba hbr hCX ha hb HM HW3;refine wG [8] CX (by kernel_rfl) (by kernel_rfl) (by kernel_rfl) HC0.out ?_;iterate 1 (refine gH (by decide) (by kernel_rfl) (fun KK hK=>?_);go_simp;refine hK.out _ ?_;clear hK KK)
 refine kA (by decide) (by kernel_rfl) (.bool false) (fun q w' hw' =>?_) ?_
 {
 have c0:=(HCF.out q w' hw').cell a0 HNe.out.1;have c1:=(HCF.out q w' hw').cell a1 HNe.out.1;have c2:=(HCF.out q w' hw').cell a2 HNe.out.1;have c3:=(HCF.out q w' hw').cell a3 HNe.out.1;have c4:=(HCF.out q w' hw').cell a4 HNe.out.1;have c5:=(HCF.out q w' hw').cell a5 HNe.out.1;have c6:=(HCF.out q w' hw').cell a6 HNe.out.1;go_simp;first|done|exact hw' | exact⟨rfl,hw'⟩};iterate 1 (refine gH (by decide) (by kernel_rfl) (fun KK hK=>?_);go_simp;refine hK.out _ ?_;clear hK KK)
 refine kA (by decide) (by kernel_rfl) (.agg #[.int .u64 (wd x 0:Nat),.int .u64 (wd x 1:Nat),.int .u64 0,.int .u64 0,.int .u64 0,.int .u64 0]) (fun q w' hw' =>?_) ?_
 {
 have c0:=(HCF.out q w' hw').cell a0 HNe.out.1;have c1:=(HCF.out q w' hw').cell a1 HNe.out.1;have c2:=(HCF.out q w' hw').cell a2 HNe.out.1;have c3:=(HCF.out q w' hw').cell a3 HNe.out.1;have c4:=(HCF.out q w' hw').cell a4 HNe.out.1;have c5:=(HCF.out q w' hw').cell a5 HNe.out.1;have c6:=(HCF.out q w' hw').cell a6 HNe.out.1;go_simp;first|done|exact hw' | exact⟨rfl,hw'⟩};iterate 1 (refine gH (by decide) (by kernel_rfl) (fun KK hK=>?_);go_simp;refine hK.out _ ?_;clear hK KK)
 refine kA (by decide) (by kernel_rfl) (.agg #[.int .u64 (wd y 0:Nat),.int .u64 (wd y 1:Nat),.int .u64 0,.int .u64 0,.int .u64 0,.int .u64 0]) (fun q w' hw' =>?_) ?_
 {
 have c0:=(HCF.out q w' hw').cell b0 HNe.out.2;have c1:=(HCF.out q w' hw').cell b1 HNe.out.2;have c2:=(HCF.out q w' hw').cell b2 HNe.out.2;have c3:=(HCF.out q w' hw').cell b3 HNe.out.2;have c4:=(HCF.out q w' hw').cell b4 HNe.out.2;have c5:=(HCF.out q w' hw').cell b5 HNe.out.2;have c6:=(HCF.out q w' hw').cell b6 HNe.out.2;go_simp;first|done|exact hw' | exact⟨rfl,hw'⟩};refine kA (by decide) (by kernel_rfl) (.agg #[.int .u64 (dig x y 0:Nat),.int .u64 (dig x y 1:Nat),.int .u64 (dig x y 2:Nat),.int .u64 (dig x y 3:Nat),.int .u64 (dig x y 4:Nat),.int .u64 (dig x y 5:Nat)]) (fun q w' hw' =>?_) ?_
 {
 go_simp;exact HMr.out q w' hw'};iterate 1 (refine gH (by decide) (by kernel_rfl) (fun KK hK=>?_);go_simp;refine hK.out _ ?_;clear hK KK)
 refine yB 0 (by decide) (by kernel_rfl) (undef) (fun w' hw' =>?_) ?_
 {
 obtain⟨hF,hbx⟩:=HB0.out w' hw';have e0:=hbx.cell 0;have z0:=hbx.frozen 0;have e1:=hbx.cell 1;have z1:=hbx.frozen 1;have e2:=hbx.cell 2;have z2:=hbx.frozen 2;have e3:=hbx.cell 3;have z3:=hbx.frozen 3;have e4:=hbx.cell 4;have z4:=hbx.frozen 4;have e5:=hbx.cell 5;have z5:=hbx.frozen 5;have e6:=hbx.cell 6;have z6:=hbx.frozen 6;simp only[zJ,zK]at e0 e1 e2 e3 e4 e5 e6;unfold cR;go_simp;exact HSt.out w' hw'};refine aMA ?_;intro w6 hC6;obtain⟨hF6,hb6⟩:=HB1.out w6 hC6;have r0:=hb6.cell 0;have r1:=hb6.cell 1;have r2:=hb6.cell 2;have r3:=hb6.cell 3;have r4:=hb6.cell 4;have r5:=hb6.cell 5;have r6:=hb6.cell 6;simp only[zJ,zK]at r0 r1 r2 r3 r4 r5 r6;have HFe:=qA (H3.out.2.1.trans hF6 (fun b hb=>.inr (by rw[qH.1 hb,H3.out.2.2.2,<-H3.out.2.2.1];omega)));clear a0 a1 a2 a3 a4 a5 a6 b0 b1 b2 b3 b4 b5 b6 hC6 hF6 hb6 HSt HMr HC0 HB0 HB1 HCF H3;go_wp2
 exact bodyPost_ret (v:=.agg #[.bool false,.int .u64 (dig x y 0:Nat),.int .u64 (dig x y 1:Nat),.int .u64 (dig x y 2:Nat),.int .u64 (dig x y 3:Nat),.int .u64 (dig x y 4:Nat),.int .u64 (dig x y 5:Nat)]) (by simp[results,Tryz.results141,go_sem,r0,r1,r2,r3,r4,r5,r6]) rfl ⟨rfl,HFe.out⟩
theorem aTW{x y:Nat}(hx:x<=9223372036854775807)(hy:y<=9223372036854775807)(w:World):
    Calls Tryz.prog 180 #[.agg #[.bool false,.int .u64 (dig x y 0:Nat),.int .u64 (dig x y 1:Nat),.int .u64 (dig x y 2:Nat),.int .u64 (dig x y 3:Nat),.int .u64 (dig x y 4:Nat),.int .u64 (dig x y 5:Nat)]] w fun e w' =>e=.returned (.tuple #[.int .i64 (gK x y),.bool (decide (x+y<=9223372036854775807))])/\Fr [] w w' :=by
 obtain⟨h1,h2,h3,h4,h5⟩:=aPH hx hy;rw[h2,h3,h4,h5];have l0:dig x y 0<4294967296:=Nat.mod_lt _ (by omega);have l1:dig x y 1<4294967296:=Nat.mod_lt _ (by omega);clear h2 h3 h4 h5;generalize dig x y 0=a at *;generalize dig x y 1=b at *;obtain⟨s,hs⟩:∃s,s=x+y:=⟨_,rfl⟩;rw[<-hs]at h1 ⊢;have hw1:IntKind.u64.wrap ((b:Int)*4294967296+a)=(s:Int):=by rw[<-h1];simp[IntKind.wrap,IntKind.bits,IntKind.signed];omega
 have hw2:IntKind.u64.wrap ((b:Int)*4294967296)=(b:Int)*4294967296:=by simp[IntKind.wrap,IntKind.bits,IntKind.signed];omega
 have hb:=Blk.new w [.bool false,.int .u64 a,.int .u64 b,.int .u64 0,.int .u64 0,.int .u64 0,.int .u64 0] 207;have r0:=hb.cell 0;have r1:=hb.cell 1;have r2:=hb.cell 2;have r3:=hb.cell 3;have r4:=hb.cell 4;have r5:=hb.cell 5;have r6:=hb.cell 6;simp only[zJ,zK]at r0 r1 r2 r3 r4 r5 r6;have HF:=qA ((Fr.refl [] w).alloc (.cells #[.bool false,.int .u64 a,.int .u64 b,.int .u64 0,.int .u64 0,.int .u64 0,.int .u64 0] 207));have hsum:((x:Int)+y)=(s:Int):=by omega
 by_cases hle:s<=9223372036854775807
 {
 have e1:gK x y=(s:Int):=by unfold gK;rw[qD (by omega)];exact hsum
 have e2:decide (s<=9223372036854775807)=true:=qG hle;rw[e1,e2];have d1:decide ((s:Int)>9223372036854775807)=false:=qF (by omega);have hw3:IntKind.i64.wrap (s:Int)=s:=by simp[IntKind.wrap,IntKind.bits,IntKind.signed];omega
 clear e1 e2 hsum hle hs h1 hb;go_enter Tryz.func180,Tryz.ntmps180
 go_wp2
 go_ret2;exact⟨rfl,HF.out⟩}
 {
 have e1:gK x y=0:=by unfold gK;exact qC (by omega)
 have e2:decide (s<=9223372036854775807)=false:=qF hle;rw[e1,e2];have d1:decide ((s:Int)>9223372036854775807)=true:=qG (by omega);clear e1 e2 hsum hle hs h1 hb;go_enter Tryz.func180,Tryz.ntmps180
 go_wp2
 go_ret2;exact⟨rfl,HF.out⟩}
theorem aTX{x y:Nat}(hx:x<=9223372036854775807)(hy:y<=9223372036854775807)(w:World):
    Calls Tryz.prog 140 #[.agg #[.bool false,.int .u64 (dig x y 0:Nat),.int .u64 (dig x y 1:Nat),.int .u64 (dig x y 2:Nat),.int .u64 (dig x y 3:Nat),.int .u64 (dig x y 4:Nat),.int .u64 (dig x y 5:Nat)]] w fun e w' =>e=.returned (.tuple #[.int .i64 (gK x y),.int .i64 (gJ x y)])/\Fr [] w w' :=by
 have HI:=qA (fun w=>aTW hx hy w);have hb:=Blk.new w [.bool false,.int .u64 (dig x y 0:Nat),.int .u64 (dig x y 1:Nat),.int .u64 (dig x y 2:Nat),.int .u64 (dig x y 3:Nat),.int .u64 (dig x y 4:Nat),.int .u64 (dig x y 5:Nat)] 207;have r0:=hb.cell 0;have r1:=hb.cell 1;have r2:=hb.cell 2;have r3:=hb.cell 3;have r4:=hb.cell 4;have r5:=hb.cell 5;have r6:=hb.cell 6;simp only[zJ,zK]at r0 r1 r2 r3 r4 r5 r6;have HF:=qA ((Fr.refl [] w).alloc (.cells #[.bool false,.int .u64 (dig x y 0:Nat),.int .u64 (dig x y 1:Nat),.int .u64 (dig x y 2:Nat),.int .u64 (dig x y 3:Nat),.int .u64 (dig x y 4:Nat),.int .u64 (dig x y 5:Nat)] 207));clear hb;by_cases hle:x+y<=9223372036854775807
 {
 have e2:decide (x+y<=9223372036854775807)=true:=qG hle;have e3:gJ x y=0:=by unfold gJ;exact qD (by omega)
 rw[e2]at HI;rw[e3];clear e2 e3 hle;generalize gK x y=sv at *;go_enter Tryz.func140,Tryz.ntmps140
 go_wp2_with fail
 refine(HI.out _).mono ?_;rintro _ w2 ⟨rfl,hF⟩;have HF2:=qA (HF.out.trans' hF);clear hF;go_wp2
 go_ret2;exact⟨rfl,HF2.out⟩}
 {
 have e2:decide (x+y<=9223372036854775807)=false:=qF hle;have e3:gJ x y=7:=by unfold gJ;exact qC (by omega)
 have e1:gK x y=0:=by unfold gK;exact qC (by omega)
 rw[e2,e1]at HI;rw[e3,e1];clear e1 e2 e3 hle;go_enter Tryz.func140,Tryz.ntmps140
 go_wp2_with fail
 refine(HI.out _).mono ?_;rintro _ w2 ⟨rfl,hF⟩;have HF2:=qA (HF.out.trans' hF);clear hF;go_wp2
 go_ret2;exact⟨rfl,HF2.out⟩}
theorem aFA{x y:Int}(hx0:0<=x)(hx:x<=9223372036854775807)(hy0:0<=y)(hy:y<=9223372036854775807)(w:World):
    Calls Tryz.prog 95 #[.int .i64 x,.int .i64 y] w fun e w' =>e=.returned (.tuple #[.int .i64 (gK x y),.int .i64 (gJ x y)])/\Fr [] w w' :=by
 obtain⟨x,rfl⟩:=Int.eq_ofNat_of_zero_le hx0;obtain⟨y,rfl⟩:=Int.eq_ofNat_of_zero_le hy0;have H1:=qA (fun w=>aMB (x:=x) (by omega) w);have H2:=qA (fun w=>aMB (x:=y) (by omega) w);have H3:=qA (fun w=>aSP (x:=x) (y:=y) (by omega) (by omega) w);have H4:=qA (fun w=>aTX (x:=x) (y:=y) (by omega) (by omega) w);clear hx0 hx hy0 hy;generalize gK x y=sv at *;generalize gJ x y=sc at *;go_enter Tryz.func95,Tryz.ntmps95
 go_wp2_with fail
 refine(H1.out _).mono ?_;rintro _ w1 ⟨rfl,hF⟩;have HF1:=qA hF;clear hF;go_wp2_with fail
 refine(H2.out _).mono ?_;rintro _ w2 ⟨rfl,hF⟩;have HF2:=qA (HF1.out.trans' hF);clear hF;go_wp2_with fail
 refine(H3.out _).mono ?_;rintro _ w3 ⟨rfl,hF⟩;have HF3:=qA (HF2.out.trans' hF);clear hF;go_wp2_with fail
 refine(H4.out _).mono ?_;rintro _ w4 ⟨rfl,hF⟩;have HF4:=qA (HF3.out.trans' hF);clear hF;go_wp2
 go_ret2;exact⟨rfl,HF4.out⟩
def rfC(o:Ob)(v:Value):List Value:=[.bool true,.int .i64 o.m,.int .i64 o.E,.int .i64 o.V,.int .i64 o.D,.int .i64 o.now,v,.int .u64 o.last,.int .u64 o.gone]
def RfAt(w:World)(pr:Nat)(o:Ob)(K:List Nat):Prop:=∃a c,Blk w pr 102 (rfC o (.slice a o.L.length c))/\bN w (.slice a o.L.length c) o.L/\(∀q,(Value.slice a o.L.length c).ownBlock=some q->q≠pr)/\K=pr::(Value.slice a o.L.length c).ownBlock.toList
def thF(p:Nat)(o:Ob):Th:=⟨fun w K=>RfAt w p o K,
  fun⟨a,c,h1,h2,h3,e⟩ q hq=>by
    rw[e]at hq;rcases qB.1 hq with rfl|hq
    · exact h1.lt
    · exact h2.lt (by simpa using hq),
  fun⟨a,c,h1,h2,h3,e⟩ hf hs=>⟨a,c,hf.blk h1 (hs _ (by simp[e])),h2.fr hf (fun q hq=>hs q (by rw[e];simp[hq])),h3,e⟩⟩
section
variable {W wr w w' :World} {p:Nat} {o:Ob} {ts:List Th} {a:Option Addr} {c n:Nat}
theorem aBB(h:Blk w p 102 (rfC o (.slice a n c))):Calls Tryz.prog 58 #[eA p] w fun e w' =>e=.returned (.bool true)/\w' =w:=by
 have c0:=h.cell 0;simp only[rfC,zJ]at c0;clear h;go_enter Tryz.func58,Tryz.ntmps58
 go_wp2
 go_ret;exact⟨rfl,rfl⟩
theorem aSQ(h:Wd W wr (thF p o::ts)):Calls Tryz.prog 30 #[eA p] wr fun e w' =>e=.returned (.int .i64 o.now)/\w' =wr:=by
 obtain⟨K,a,c,h1,_⟩:=h.get;have HV:=qA (aBB h1);have c5:=h1.cell 5;simp only[rfC,zJ,zK]at c5;clear h1 h;go_enter Tryz.func30,Tryz.ntmps30
 go_wp2_with fail
 refine HV.out.mono ?_;rintro _ w ⟨rfl,rfl⟩;go_wp2
 go_ret;exact⟨rfl,rfl⟩
theorem aMC(h:Wd W wr (thF p o::ts)):Calls Tryz.prog 26 #[eA p] wr fun e w' =>e=.returned (.tuple #[.int .u64 o.last,.int .u64 o.gone])/\Fr [] wr w' :=by
 obtain⟨K,a,c,h1,_⟩:=h.get;have HV:=qA (aBB h1);have c7:=h1.cell 7;have c8:=h1.cell 8;simp only[rfC,zJ,zK]at c7 c8;clear h1 h;go_enter Tryz.func26,Tryz.ntmps26
 go_wp2_with fail
 refine HV.out.mono ?_;rintro _ w ⟨rfl,rfl⟩;go_wp2_with fail
 go_quiet (fail)
 go_wp2
 go_ret2;exact⟨rfl,(Fr.refl _ _).drewN _⟩
theorem aHJ(h:Wd W wr (thF p o::ts)):Calls Tryz.prog 32 #[eA p] wr fun e w' =>e=.returned (.agg #[.int .i64 o.m,.int .i64 o.E,.int .i64 o.V,.int .i64 o.D])/\Fr [] wr w' :=by
 obtain⟨K,a,c,h1,_⟩:=(h.fr0 ((Fr.refl [] wr).alloc (.cells #[.int .i64 0,.int .i64 0,.int .i64 0,.int .i64 0] 31))).get;have HV:=qA (aBB h1);have c1:=h1.cell 1;have c2:=h1.cell 2;have c3:=h1.cell 3;have c4:=h1.cell 4;have hb:=Blk.new wr [.int .i64 o.m,.int .i64 o.E,.int .i64 o.V,.int .i64 o.D] 31;have r0:=hb.cell 0;have r1:=hb.cell 1;have r2:=hb.cell 2;have r3:=hb.cell 3;simp only[rfC,zJ,zK]at c1 c2 c3 c4 r0 r1 r2 r3;have HF:=qA ((Fr.refl [] wr).alloc (.cells #[.int .i64 o.m,.int .i64 o.E,.int .i64 o.V,.int .i64 o.D] 31));clear h h1 hb;go_enter Tryz.func32,Tryz.ntmps32
 go_wp2_with fail
 refine HV.out.mono ?_;rintro _ _ ⟨rfl,rfl⟩;go_wp2
 exact bodyPost_ret (v:=.agg #[.int .i64 o.m,.int .i64 o.E,.int .i64 o.V,.int .i64 o.D]) (by simp[results,Tryz.results32,go_sem,r0,r1,r2,r3]) rfl ⟨rfl,HF.out⟩
theorem aDI(l:List Lv):∀u∈rowV l,u.oneCell' =true:=yR l
theorem aPJ(h:Wd W wr (thF p o::ts))(hl:o.L.length<=16384):Calls Tryz.prog 35 #[eA p] wr fun e w' =>∃a c,e=.returned (.slice a o.L.length c)/\Wd W w' (thV (.slice a o.L.length c) o.L::thF p o::ts):=by
  obtain⟨K,a,c,h1,h2,_⟩:=h.get;have HV:=qA (aBB h1);have c6:=h1.cell 6;simp only[rfC,zJ,zK]at c6;have HW:=qA h;have HR:=qA (h2.fr0 ((Fr.refl [] wr).alloc (.cells #[] 74)));obtain⟨n,hn⟩:∃n,n=o.L.length:=⟨_,rfl⟩;rw[<-hn]at c6 HR hl ⊢;have Hn:=qA hn;clear h h1 h2 hn;go_enter Tryz.func35,Tryz.ntmps35
  go_wp2_with fail
  refine HV.out.mono ?_;rintro _ w ⟨rfl,rfl⟩;have c6:=((Fr.refl [] w).alloc (.cells #[] 74)).cell c6 (by simp)
  have HM:=qA (show ∀(v1:Value) (w1:World),w1.ownsRow 0 74 7 v1 n (rowV o.L)->Fr [w.heap.size] (w.alloc (.cells #[] 74)) w1->(∀q,v1.ownBlock=some q->q=w.heap.size∨(w.alloc (.cells #[] 74)).heap.size<=q) ->
      Wd W w1 (thV v1 o.L::thF p o::ts) from fun v1 w1 hown1 hF1 hq1=>by
    have hs0:(w.alloc (.cells #[] 74)).heap.size=w.heap.size+1:=by simp
    have hF:Fr [] w w1:=((Fr.refl [] w).alloc _).trans hF1 (fun b hb=>.inr (Nat.le_of_eq (qH.1 hb).symm));have hr:bN w1 v1 o.L:=by unfold bN;rw[<-Hn.out];exact hown1
    refine HW.out.new hF ⟨hr,rfl⟩ (fun q hq=>?_);rcases hq1 q (by simpa using hq) with e|e<;>omega)
  have HOw:=qA (show World.ownsRow (w.alloc (.cells #[] 74)) 0 74 7 (.slice a n c) n (rowV o.L) by
    have:=HR.out;unfold bN at this;rw[<-Hn.out]at this;exact this)
  go_wp2_with (at_builtin;refine mQ rfl _ _ 59 rfl 74 sJ 7 56 (by kernel_rfl) (by kernel_rfl) rfl (by decide) w.heap.size rfl (Blk.new w [] _) (.slice a n c) n (rowV o.L) rfl HOw.out (aDI o.L) (by unfold maxLen;omega) (by omega) ?_;intro v1 w1 hown1 hF1 hq1;have HN:=qA (HM.out v1 w1 hown1 hF1 hq1);obtain⟨a1,c1,rfl⟩:=bH hown1;clear hown1 hF1 hq1 HM HOw)
  go_wp2
  go_ret;exact⟨a1,c1,rfl,HN.out⟩
end
section
variable {W wr w w' :World} {p:Nat} {o:Ob} {ts:List Th} {a:Option Addr} {c n:Nat}
end
theorem aMD{w:World}{v x:Value}{l m:List Lv}(hv:bN w v l)(hx:bN w x m)(hn:l.length+m.length<=65536)(ty:TypeId):
    ∃v' w', (Builtin.append_ #[59,59] ty #[v,x]).run Tryz.prog w=.ok v' w' /\ bN w' v' (l++m)/\Fr v.ownBlock.toList w w' /\ ∀q,v'.ownBlock=some q->v.ownBlock=some q∨w.heap.size<=q:=by
 obtain⟨i0,hi,hz0,hz1,hz2⟩:=info_parts Tryz.info74;have hx' :=hx;have hxl:=hx.1;rcases hx.2 with⟨rfl,h0⟩|⟨gx,cap,cur,rfl,_,hgx,hnc,hcm,hcs,htake⟩
 {
 obtain rfl:m=[]:=List.eq_nil_of_length_eq_zero h0;refine⟨v,w,run_append_owned_none w 0 59 ty 74 i0 7 Tryz.underlying59 hi v l.length (rowV l) hv,by rw[List.append_nil];exact hv,Fr.refl _ _,fun q e=>.inl e⟩}
 {
 obtain⟨v', w', hr,h2,h3,_,h5⟩:=run_append_own_at (P:=Tryz.prog) w 0 59 ty 74 i0 sJ 7 56 Tryz.underlying59 hi hz0 hz1 hz2 rfl (by decide) v l.length (rowV l) hv ⟨gx,0,none⟩ m.length cap (rowV m) (sK m) (hx'.cells (g:=gx) rfl) (yR m) (by unfold maxLen;omega) (by omega) (qS _);refine⟨v', w', hr,?_,⟨h3.os,h3.tape,h3.output,h3.size,fun k hk hm=>h3.block k hk (fun e=>hm (by simp[e]))⟩,fun q hq=>?_⟩
 {
 unfold bN;rw[zF,aHU];exact h2}
 {
 rcases h5 with h5|h5
 · rw[<-h5];exact .inl hq
 · rw[hq]at h5;simp at h5;exact .inr (by omega)}}
theorem aSR{w:World}{o:Oper}{a:Act}{K:Value->World->Prop}(s x:Operand)
    (ho:o.op=.call { callee:=.builtin .append,args:=#[s,x],argTypes:=#[59,59] }) {v y:Value} {l m:List Lv} (hs:a.eval s=v) (hx:a.eval x=y) (hv:bN w v l) (hy:bN w y m) (hn:l.length+m.length<=65536)
    (h:∀v' w', bN w' v' (l++m)->Fr v.ownBlock.toList w w' -> (∀q,v'.ownBlock=some q->v.ownBlock=some q∨w.heap.size<=q)->K v' w'):gN Tryz.prog K ((execOp a.eval o).run Tryz.prog w):=by
 obtain⟨v', w', hr,h1,h2,h3⟩:=aMD hv hy hn o.type;unfold execOp;simp only[ho,resolve,invoke,builtin,Sem.run_bind,Sem.run_pure,Result.andThen_ok,List.map_toArray,List.map_cons,List.map_nil,hs,hx,hr];exact h v' w' h1 h2 h3
theorem bN.one(w:World)(x:Lv):bN (w.alloc (.cells (lvC x).toArray 74)) (.slice (some ⟨w.heap.size,0,none⟩) 1 1) [x]:=
  ⟨by simp[rowV,lvC],.inr ⟨w.heap.size,1,(lvC x).toArray,rfl,qS _,Blk.new w (lvC x) 74,qK _,by decide,by simp[lvC],by simp[rowV,lvC]⟩⟩
section
variable {w0 w w' :World} {f:Nat->Value} {g g' :Nat->Option (List Lv)} {i:Nat} {v:Value} {c:List Lv}
end
section
variable {G:Nat->Value->Prop} {g:(Nat->Bool)->Nat->Option (List Lv)} {w0 w w' :World} {f:Nat->Value} {L:Nat->Bool} {i:Nat} {v:Value} {c:List Lv}
theorem aFB(h:∀k,L k=true->G k (f k))(hG:G i v):∀k,fJ L i true k=true->G k (fJ f i v k):=fun k hk=>by
 by_cases e:k=i
 · subst e;rw[gG];exact hG
 · rw[bY _ _ e]at hk ⊢;exact h k hk
end
theorem dP{md:Region.Mode}{o:Oper}{L:Nat->Bool}(h:∀j∈iD md o,L j=true)(j:Nat)(hj:(iD md o).contains j=true):L j=true:=h j (by simpa using hj)
theorem dS{b:Act}{d:Nat}{v:Value}(h:b.tmps[d]? =some v):∀h:d<b.tmps.size,b.tmps[d]'h=v:=fun hd=>by rw[Array.getElem?_eq_getElem hd]at h;exact Option.some.inj h
theorem aME{b:Act}{d:Nat}{v:Value}(h:b.tmps[d]? =some v):b.eval (.tmp d)=v:=by simp[Act.eval,h]
def Clo(ops:Array Oper)(L:Nat->Bool):Prop:=∀k o,ops[k]? =some o->L k=true->∀j∈iD .any o,L j=true
def aSS(ops:Array Oper)(I:(Nat->Value)->(Nat->Bool)->World->Prop)(f:Nat->Value)(L:Nat->Bool)(w:World):Prop:=Clo ops L/\I f L w
def aDJ(ops:Array Oper):Nat->Nat->List Nat
  | 0,k=>[k]
  | n+1,k=>k::match ops[k]? with|none=>[]|some o=>(iD .any o).flatMap (aDJ ops n)
theorem Clo.reach{ops:Array Oper}{L:Nat->Bool}(h:Clo ops L):∀n k,L k=true->∀j∈aDJ ops n k,L j=true
  | 0,k,hk,j,hj=>by rw[qH.1 hj];exact hk
  | n+1,k,hk,j,hj=>by
    rcases qB.1 hj with rfl|hj
    · exact hk
    · cases ho:ops[k]? with
      | none=>rw[ho]at hj;cases hj
      | some o=>
        rw[ho]at hj;obtain⟨i,hi,hj⟩:=List.mem_flatMap.1 hj;exact h.reach n i (h k o ho hk i hi) j hj
theorem Clo.none{ops:Array Oper}:Clo ops fun _=>false:=fun _ _ _ h=>(by cases h)
theorem Clo.step{ops:Array Oper}{L:Nat->Bool}(h:Clo ops L){k:Nat}{o:Oper}(ho:ops[k]? =some o)(hd:∀j∈iD .any o,L j=true):Clo ops (fJ L k true):=fun i o' ho' hi j hj=>by
 have up:∀m,L m=true->fJ L k true m=true:=fun m hm=>by
   by_cases e:m=k
   · subst e;exact gG ..
   · rw[bY _ _ e];exact hm
 by_cases e:i=k
 {
 subst e;obtain rfl:=Option.some.inj (ho.symm.trans ho');exact up _ (hd j hj)}
 {
 rw[bY _ _ e]at hi;exact up _ (h i o' ho' hi j hj)}
theorem yC{P:Program}{K K' :Value->World->Prop}(h:∀v w,K v w->K' v w){r:Result Go.Next}(hr:gN P K r):gN P K' r:=by
 cases r with
 | halt x w' =>exact hr.elim
 | ok x w' =>{
 cases x with
 | value u=>exact h _ _ hr
 | skip=>exact h _ _ hr
 | enter f args=>exact Calls.mono hr fun e w'' ⟨v,he,hw''⟩=>⟨v,he,h _ _ hw''⟩
 | _=>exact hr.elim}
theorem aM{P:Program}{ops:Array Oper}{I:(Nat->Value)->(Nat->Bool)->World->Prop}{f:Nat->Value}{k:Nat}{o:Oper}{a:Act}(ho:ops[k]? =some o)(hg:o.guard=none)
    (h:∀L w,Clo ops L->(∀j∈iD .any o,L j=true)->L k=false->I f L w->gN P (fun v w' =>I (fJ f k v) (fJ L k true) w') ((execOp a.eval o).run P w)):tQ P ops .any (aSS ops I) f k o a:=
  aAV hg fun L w hd hn hI=>yC (fun _ _ hk=>⟨hI.1.step ho hd,hk⟩) (h L w hI.1 hd hn hI.2)
theorem aBC{P:Program}{id:Nat}{Q:Exit->Act->World->Prop}{a:Act}{w:World}{l:List Oper}(I:(Nat->Value)->(Nat->Bool)->World->Prop)(hm:P.follows .mixedOrders=true)(hB:aLM .any l.toArray=true)
    (h0:I (fun _=>undef) (fun _=>false) w.drew) (hstep:∀f,tR P l.toArray .any (aSS l.toArray I) f a 0 l)
    (hend:∀f L w', (∀k,k<l.length->L k=true)->I f L w' -> Q .normal (aHG f 0 l a) w'):(Code.region id l.toArray true).wp P Q a w:=
  aAU (aSS l.toArray I) hm hB ⟨Clo.none,h0⟩ hstep fun f L w' hL hI=>hend f L w' hL hI.2
section
variable {W wr w w' :World} {p:Nat} {o:Ob} {ts:List Th} {a:Option Addr} {c n:Nat}
end
section
variable {W wr w w' :World} {p:Nat} {o:Ob} {ts:List Th} {a:Option Addr} {c n:Nat}
end
structure Prt (L:List Lv) (f:Int) (u:Nat) (l:List Nat):Prop where
  lt:l.Pairwise (· < ·)
  me:u∈l
  rl:∀x∈l,Rl L f u x
def mR(f:Int)(l:List Nat)(e:Lv):Prop:=f<=e.x->(e.u∈l↔e.v∈l)
section
variable {L:List Lv} {f:Int} {u:Nat} {l:List Nat}
theorem Prt.one:Prt L f u [u]:=⟨List.pairwise_singleton ..,by simp,fun x hx=>by rw[qH.1 hx];exact .refl _⟩
theorem Prt.put(h:Prt L f u l){e:Lv}(he:e∈L)(hx:f<=e.x)(hm:e.u∈l∨e.v∈l):Prt L f u (cG e.v (cG e.u l)):=by
 refine⟨gF (gF h.lt),by rw[eF,eF];exact .inr (.inr h.me),fun x hx' =>?_⟩;have hu:Rl L f u e.u:=hm.elim (h.rl _) fun k=>(h.rl _ k).trans (Rl.edge' he hx);have hv:Rl L f u e.v:=hm.elim (fun k=>(h.rl _ k).trans (Rl.edge he hx)) (h.rl _);rw[eF,eF]at hx';rcases hx' with rfl|rfl|hx'
 · exact hv
 · exact hu
 · exact h.rl x hx'
theorem Prt.shut(h:Prt L f u l)(hc:∀e∈L,mR f l e):∀x,x∈l↔Rl L f u x:=fun x=>
  ⟨h.rl x,fun hx=>(Rl.inv (fun y=>y∈l) (fun e he hx=>hc e he hx) hx).1 h.me⟩
theorem Prt.len(h:Prt L f u l):l.length<=(bR L).length+1:=by
 have hs:∀x∈l,x∈u::bR L:=fun x hx=>by
   by_cases e:u=x
   · subst e;exact List.mem_cons_self
   · obtain ⟨d, hd, h1, _⟩ := (h.rl x hx).last e
     exact List.mem_cons_of_mem _ (gL.2 ⟨d,hd,h1⟩)
 have hn:l.Nodup:=h.lt.imp fun h=>Nat.ne_of_lt h;simpa using mM hn hs
theorem wH{x:Nat}(hp:l.Pairwise (· < ·))(hx:x∉l):(cG x l).length=l.length+1:=by
 have h1:(cG x l).Perm (x::l):=(List.perm_ext_iff_of_nodup ((gF hp).imp fun h=>Nat.ne_of_lt h) (qO.2 ⟨hx,hp.imp fun h=>Nat.ne_of_lt h⟩)).2 fun y=>by rw[eF];simp
 simpa using h1.length_eq
theorem Prt.more(h:Prt L f u l){e:Lv}(hm:(e.u∈l/\e.v∉l)∨(e.u∉l/\e.v∈l)):l.length<(cG e.v (cG e.u l)).length:=by
 rcases hm with⟨h1,h2⟩|⟨h1,h2⟩
 · rw[oO h.lt h1,wH h.lt h2];omega
 · rw[oO (gF h.lt) (eF.2 (.inr h2)),wH h.lt h1];omega
end
def aTY:Value->Nat
  | .slice _ n _=>n
  | _=>0
def aMF(M:Nat)(x b:Value):Nat:=match b with|.bool true=>1+(M-aTY x)|_=>0
section
variable {w w' :World} {p:Nat} {o:Ob} {a:Option Addr} {c:Nat}
theorem aPK(hb:Blk w p 102 (rfC o (.slice a o.L.length c)))(hr:bN w (.slice a o.L.length c) o.L)(hl:o.L.length<=16384)(u:Nat)(f:Int):
    Calls Tryz.prog 63 #[eA p,.int .u64 u,.int .i64 f] w fun e w' =>∃v l,e=.returned v/\dH w' v l/\Fr [] w w' /\ (∀q,v.ownBlock=some q->w.heap.size<=q)/\l.Pairwise (· < ·)/\(∀x,x∈l↔Rl o.L f u x)/\l.length<=(bR o.L).length+1:=by
  obtain⟨M,hM⟩:∃M,M=(bR o.L).length+1:=⟨_,rfl⟩;have hMl:M<=32769:=by rw[hM];have:=jG o.L _ rfl;omega
  obtain⟨n,hn⟩:∃n,n=o.L.length:=⟨_,rfl⟩;rw[<-hn]at hb hr hl;have H:=qA (zI hb (zI hr (zI hn hM)));have c6:=hb.cell 6;simp only[rfC,zJ,zK]at c6;clear hb hr hn hM;go_enter Tryz.func63,Tryz.ntmps63
  go_wp2_with fail
  have HS:=qA (show dH (w.alloc (.cells #[.int .u64 u] 36)) (.slice (some ⟨w.heap.size,0,none⟩) 1 1) [u]/\Fr [] w (w.alloc (.cells #[.int .u64 u] 36)) from
    ⟨⟨by simp[iG],.inr ⟨w.heap.size,1,#[.int .u64 u],rfl,qS _,Blk.new w [.int .u64 u] 36,qK _,by decide,by simp,by simp[iG]⟩⟩,(Fr.refl [] w).alloc _⟩)
  go_loopw [7,8] (fun x y wr=>∃(a1:Option Addr) (n1 c1:Nat) (b:Bool) (out:List Nat),x=.slice a1 n1 c1/\y=.bool b/\Hid (n1=out.length/\dH wr (.slice a1 n1 c1) out/\Fr [] w wr/\(∀q,(Value.slice a1 n1 c1).ownBlock=some q->w.heap.size<=q)/\Prt o.L f u out/\(b=false->∀e∈o.L,mR f out e))) (fun x y _=>aMF M x y)
  case atStart=>exact⟨_,1,1,true,[u],rfl,rfl,qA ⟨rfl,HS.out.1,HS.out.2,fun q hq=>by simp[Value.ownBlock]at hq;omega,Prt.one,fun e=>by cases e⟩⟩
  case round=>
    clear HS;obtain⟨a1,n1,c1,b,out,rfl,rfl,HR⟩:=hrel;rename World=>wr
    cases b with
    | false=>
      go_wp2_with fail
      go_ret;obtain⟨r1,r2,r3,r4,r5,r6⟩:=HR.out;refine⟨_,rfl,out,r2,r3,r4,r5.lt,r5.shut (r6 trivial),r5.len⟩
    | true=>
      have hn1:n1<=M:=by have h1:=HR.out.1;have h2:=HR.out.2.2.2.2.1.len;have h3:=H.out.2.2.2;omega
      have HN1:=qA (zI hn1 (zI HR.out.1 hMl));clear hn1;go_wp2_with fail
      go_loopw [7,8,9] (fun x y z wr=>∃(a2:Option Addr) (n2 c2:Nat) (b:Bool) (i:Nat) (out' :List Nat),x=.slice a2 n2 c2/\y=.bool b/\z=.int .i64 i/\i<=n/\Hid (n2=out'.length/\dH wr (.slice a2 n2 c2) out' /\ Fr [] w wr/\(∀q,(Value.slice a2 n2 c2).ownBlock=some q->w.heap.size<=q)/\Prt o.L f u out' /\ (b=false->out' =out/\∀j (hj:j<o.L.length),j<i->mR f out o.L[j])/\(b=true->n1<n2))) (fun _ _ z _=>n-(intOf z).toNat)
      case atStart=>exact⟨a1,n1,c1,false,0,out,rfl,rfl,rfl,qS _,qA ⟨HR.out.1,HR.out.2.1,HR.out.2.2.1,HR.out.2.2.2.1,HR.out.2.2.2.2.1,fun _=>⟨rfl,fun j hj h=>by omega⟩,fun e=>by cases e⟩⟩
      case round=>
        clear HR;obtain⟨a2,n2,c2,b,i,out', rfl,rfl,rfl,hi,HR⟩:=hrel;rename_i wr;have c6:=HR.out.2.2.1.cell c6 (by simp);by_cases hlt:i<n
        · have hiL : i < o.L.length := by have := H.out.2.2.1; omega
          obtain⟨b1,c1', e1,hx1,hx2,hx3,r1⟩:=(H.out.2.1.fr0 HR.out.2.2.1).at hiL;rw[<-H.out.2.2.1]at e1;simp only[qP,true_and]at e1;obtain⟨rfl,rfl⟩:=e1;clear hx1 hx2 hx3;have hi1:(i:Int)<n:=by omega
          have hi0:(0:Int)<=i:=by omega
          obtain⟨x0,x1,x2,x3,x4,x5,x6⟩:=r1;clear x0 x1;obtain⟨x,hx⟩:∃x,x=o.L[i]'hiL:=⟨_,rfl⟩;rw[<-hx]at x2 x3 x4 x5 x6;have HX:=qA (show o.L[i]? =some x by rw[hx];exact qL hiL);clear hx hiL;go_wp2_with fail
          clear x2 x3 x4 x5;have hF1:Fr [] wr (wr.alloc (.cells #[.int .u64 x.u,.int .u64 x.v,.int .i64 x.wt,.int .i64 x.t] 72)):=(Fr.refl [] wr).alloc _;have hbx:=Blk.new wr [.int .u64 x.u,.int .u64 x.v,.int .i64 x.wt,.int .i64 x.t] 72;have x6:=hF1.cell x6 (by simp);have c6:=hF1.cell c6 (by simp);have q0:=hbx.cell 0;have q1:=hbx.cell 1;simp only[zJ,zK]at q0 q1;have HRw:=qA (show dH (wr.alloc (.cells #[.int .u64 x.u,.int .u64 x.v,.int .i64 x.wt,.int .i64 x.t] 72)) (.slice a2 n2 c2) out' /\ Fr [] w (wr.alloc (.cells #[.int .u64 x.u,.int .u64 x.v,.int .i64 x.wt,.int .i64 x.t] 72)) from⟨HR.out.2.1.fr0 hF1,HR.out.2.2.1.trans' hF1⟩);obtain⟨rb,hrb⟩:∃rb,rb=wr.heap.size:=⟨_,rfl⟩;rw[<-hrb]at q0 q1 ⊢;have HP:=qA (show n2=out'.length/\(∀q,(Value.slice a2 n2 c2).ownBlock=some q->w.heap.size<=q)/\Prt o.L f u out' /\ (b=false->out' =out/\∀j (hj:j<o.L.length),j<i->mR f out o.L[j])/\(b=true->n1<n2) from⟨HR.out.1,HR.out.2.2.2⟩);clear hF1 hbx hrb HR;generalize wr.alloc (.cells #[.int .u64 x.u,.int .u64 x.v,.int .i64 x.wt,.int .i64 x.t] 72)=w2 at *;have hol:out'.length<=60000:=by have h1:=HP.out.2.2.1.len;have h2:=jG o.L _ rfl;have h3:=H.out.2.2.1;omega
          have HOL:=qA hol;clear hol;obtain⟨bu,hbu⟩:∃bu,bu=decide (x.u∈out'):=⟨_,rfl⟩;obtain⟨bv,hbv⟩:∃bv,bv=decide (x.v∈out'):=⟨_,rfl⟩;have HHu:=qA (fun(nq:Nat)=>aDF (HRw.out.1.fr0 ((Fr.refl [] w2).drewN nq)) x.u (by have:=HOL.out;omega));have HHv:=qA (fun(nq:Nat)=>aDF (HRw.out.1.fr0 ((Fr.refl [] w2).drewN nq)) x.v (by have:=HOL.out;omega));rw[<-hbu]at HHu;rw[<-hbv]at HHv;have HB:=qA (zI hbu hbv);clear hbu hbv;by_cases hfx:f<=x.x
          · have d1 : decide (x.x ≥ f) = true := qG hfx
            have d2:decide (f<=x.x)=true:=qG hfx;by_cases heq:bu=bv
            · have HS := qA (show mR f out' x from fun _ => by have h1 := HB.out.1; have h2 := HB.out.2; rw [heq, h2] at h1; exact (decide_eq_decide.1 h1).symm)
              subst heq;clear hfx;go_quiet (first|(go_at_call 101;with_reducible refine qJ (HHu.out _))|(go_at_call 101;with_reducible refine qJ (HHv.out _)))
              have HF3:=(Fr.refl [] w2).drewN nq;generalize w2.drewN nq=w3 at *;have HN:Hid (n2=out'.length/\dH w3 (.slice a2 n2 c2) out' /\ Fr [] w w3/\(∀q,(Value.slice a2 n2 c2).ownBlock=some q->w.heap.size<=q)/\Prt o.L f u out' /\ (b=false->out' =out/\∀j (hj:j<o.L.length),j<i+1->mR f out o.L[j])/\(b=true->n1<n2)):=qA (by
                obtain⟨p1,p2,p3,p4,p5⟩:=HP.out;refine⟨p1,HRw.out.1.fr0 HF3,HRw.out.2.trans' HF3,p2,p3,fun e=>⟨(p4 e).1,fun j hj hji=>?_⟩,p5⟩;by_cases hji' :j<i
                · exact(p4 e).2 j hj hji'
                · have hj' : j = i := by omega
                  subst hj';have hx:o.L[j]'hj=x:=by have:=HX.out;rw[qL hj]at this;exact Option.some.inj this
                  rw[hx,<-(p4 e).1];exact HS.out)
              clear HF3 HP HRw q0 q1 x6;go_wp2_with fail
              go_roundw
              case rel=>exact⟨a2,n2,c2,b,i+1,out', rfl,rfl,by go_num,by omega,HN⟩
              case measure=>simp[intOf];omega
            · have hcase : (bu = true /\ bv = false) ∨ (bu = false /\ bv = true) := by cases bu <;> cases bv <;> simp_all
              clear heq hfx;rcases hcase with⟨rfl,rfl⟩|⟨rfl,rfl⟩
              all_goals
                go_quiet (first|(go_at_call 101;with_reducible refine qJ (HHu.out _))|(go_at_call 101;with_reducible refine qJ (HHv.out _)))
                have HF3:=(Fr.refl [] w2).drewN nq;generalize w2.drewN nq=w3 at *;have q0:=HF3.cell q0 (by simp);have q1:=HF3.cell q1 (by simp);have HG:=qA (show f<=x.x/\((x.u∈out' /\ x.v∉out')∨(x.u∉out' /\ x.v∈out')) from⟨of_decide_eq_true d2,by have h1:=HB.out.1;have h2:=HB.out.2;first|exact .inl (by simpa using zI h1 h2)|exact .inr (by simpa using zI h1 h2)⟩)
                have HPut:=qA (show ∀w', Fr [] w3 w' -> Calls Tryz.prog 100 #[.slice a2 n2 c2,.int .u64 x.u] w' fun e w1=>∃a1 n1 k1,e=.returned (.slice a1 n1 k1)/\Fr [] w3 w1 /\
                    Calls Tryz.prog 100 #[.slice a1 n1 k1,.int .u64 x.v] w1 fun e w2=>∃a2 n2 k2,e=.returned (.slice a2 n2 k2)/\dH w2 (.slice a2 n2 k2) (cG x.v (cG x.u out'))/\Fr [] w3 w2/\∀q,(Value.slice a2 n2 k2).ownBlock=some q->w.heap.size<=q from fun w' hf=>by
                  have hol:=HOL.out;have hr:=(HRw.out.1.fr0 HF3).fr0 hf;refine(yA hr HP.out.2.2.1.lt x.u (by omega)).mono ?_;rintro _ w1 ⟨v1,rfl,h1,hF1,hq1⟩;obtain⟨a1,k1,rfl⟩:=h1.slice;refine⟨_,_,_,rfl,hf.trans' hF1,(yA h1 (gF HP.out.2.2.1.lt) x.v (by have:=lP x.u out'; have:=HP.out.2.2.1.len;have:=jG o.L _ rfl;have:=H.out.2.2.1;omega)).mono ?_⟩;rintro _ w2 ⟨v2,rfl,h2,hF2,hq2⟩;obtain⟨a2,k2,rfl⟩:=h2.slice;refine⟨_,_,_,rfl,h2,(hf.trans' hF1).trans' hF2,fun q hq=>?_⟩;have s0:=((HRw.out.2.trans' HF3).trans' hf).size;have s1:=hF1.size;rcases hq2 q hq with e|e
                  · rcases hq1 q e with e | e
                    · exact HP.out.2.1 q e
                    · omega
                  · omega)
                have HW3:=qA (HRw.out.2.trans' HF3);have HQ:=qA (fun(w' :World) (hf:Fr [] w3 w')=>zI (hf.cell q0 (by simp)) (hf.cell q1 (by simp)));clear HF3 HRw x6;go_wp2_with fail
                go_region_held3 (fun w' => w'.cell? ⟨rb, 0, none⟩ = some (.int .u64 x.u) /\ w'.cell? ⟨rb, 1, none⟩ = some (.int .u64 x.v))
                  (first
                    | go_keep
                    | exact HQ.out _ hfB
                    | exact HQ.out _ hfA)
                  (first
                    | (go_at_call 100;with_reducible refine Calls.mono (HPut.out _ (Fr.refl [] w3).drew) ?_;rintro r wA ⟨a3,n3,k3,rfl,hfA,hcA⟩)
                    | (go_at_call 100;with_reducible refine Calls.mono hcA ?_;rintro r wB ⟨a4,n4,k4,rfl,hB,hfB,hqB⟩))
                have HN:Hid (n4=(cG x.v (cG x.u out')).length/\dH wB (.slice a4 n4 k4) (cG x.v (cG x.u out'))/\Fr [] w wB/\(∀q,(Value.slice a4 n4 k4).ownBlock=some q->w.heap.size<=q)/\Prt o.L f u (cG x.v (cG x.u out'))/\(true=false->cG x.v (cG x.u out')=out/\∀j (hj:j<o.L.length),j<i+1->mR f out o.L[j])/\(true=true->n1<n4)):=qA (by
                  obtain⟨p1,p2,p3,p4,p5⟩:=HP.out;obtain⟨a5,k5,e5⟩:=hB.slice;simp only[qP]at e5;have hm:=p3.more HG.out.2;have hxm:x∈o.L:=List.mem_of_getElem? HX.out;refine⟨e5.2.1,hB,HW3.out.trans' hfB,hqB,p3.put hxm HG.out.1 (HG.out.2.imp And.left And.right),fun e=>(by cases e),fun _=>?_⟩;have:=e5.2.1;cases b with
                  | true=>have:=p5 rfl;omega
                  | false=>have h1:=(p4 rfl).1;have h2:=HN1.out.2.1;rw[h1]at hm this p1;omega)
                clear hB hfB hqB hcA hfA HPut HQ HP q0 q1;go_wp2_with fail
                go_roundw
                case rel=>exact⟨a4,n4,k4,true,i+1,_,rfl,rfl,by go_num,by omega,HN⟩
                case measure=>simp[intOf];omega
          · have d1 : decide (x.x ≥ f) = false := qF hfx
            have d2:decide (f<=x.x)=false:=qF hfx;have HS:=qA (show mR f out' x from fun h=>(hfx h).elim);clear hfx;go_quiet (fail)
            have HF3:=(Fr.refl [] w2).drewN nq;generalize w2.drewN nq=w3 at *;have HN:Hid (n2=out'.length/\dH w3 (.slice a2 n2 c2) out' /\ Fr [] w w3/\(∀q,(Value.slice a2 n2 c2).ownBlock=some q->w.heap.size<=q)/\Prt o.L f u out' /\ (b=false->out' =out/\∀j (hj:j<o.L.length),j<i+1->mR f out o.L[j])/\(b=true->n1<n2)):=qA (by
              obtain⟨p1,p2,p3,p4,p5⟩:=HP.out;refine⟨p1,HRw.out.1.fr0 HF3,HRw.out.2.trans' HF3,p2,p3,fun e=>⟨(p4 e).1,fun j hj hji=>?_⟩,p5⟩;by_cases hji' :j<i
              · exact(p4 e).2 j hj hji'
              · have hj' : j = i := by omega
                subst hj';have hx:o.L[j]'hj=x:=by have:=HX.out;rw[qL hj]at this;exact Option.some.inj this
                rw[hx,<-(p4 e).1];exact HS.out)
            clear HF3 HP HRw q0 q1 x6;go_wp2_with fail
            go_roundw
            case rel=>exact⟨a2,n2,c2,b,i+1,out', rfl,rfl,by go_num,by omega,HN⟩
            case measure=>simp[intOf];omega
        · obtain rfl : i = n := by omega
          have HN:Hid (n2=out'.length/\dH wr (.slice a2 n2 c2) out' /\ Fr [] w wr/\(∀q,(Value.slice a2 n2 c2).ownBlock=some q->w.heap.size<=q)/\Prt o.L f u out' /\ (b=false->∀e∈o.L,mR f out' e)):=qA (by
            obtain⟨p1,p2,p3,p4,p5,p6,p7⟩:=HR.out;refine⟨p1,p2,p3,p4,p5,fun e d hd=>?_⟩;obtain⟨j,hj,rfl⟩:=List.mem_iff_getElem.1 hd;rw[(p6 e).1];exact(p6 e).2 j hj (by have:=H.out.2.2.1;omega))
          have HM:Hid (aMF M (.slice a2 n2 c2) (.bool b)<aMF M (.slice a1 n1 c1) (.bool true)):=qA (by
            obtain⟨p1,p2,p3,p4,p5,p6,p7⟩:=HR.out;have h1:=p5.len;have h2:=H.out.2.2.2;cases b with
            | true=>have:=p7 rfl;show 1+(M-n2)<1+(M-n1);omega
            | false=>show 0<1+(M-n1);omega)
          clear HR;go_wp2_with fail
          go_roundw
          case rel=>exact⟨a2,n2,c2,b,out', rfl,rfl,HN⟩
          case measure=>exact HM.out
end
end Go.Proofs.YtjdgpcjbgjnahaaGreatDoor
namespace Go.Proofs.YtjdgpcjbgjnahaaGreatDoor
open Go.RowKit Classical
section
variable {w w' :World} {p:Nat} {o:Ob} {a:Option Addr} {c:Nat}
end
section
variable {W wr w w' :World} {p:Nat} {o:Ob} {ts:List Th}
end
section
variable {L:List Lv} {f:Int} {a b u v:Nat}
end
section
variable {W wr w w' :World} {p:Nat} {o:Ob} {ts:List Th}
end
section
variable {L:List Lv} {x:Nat}
theorem aDK{l:List Nat}(hp:l.Pairwise (· < ·))(hm:∀y,y∈l↔Rl L kH x y){i:Nat}(hi:i<(bR L).length)(hx:(bR L)[i]=x)(h0:0<l.length):l[0]=x↔¬∃b∈(bR L).take i,Rl L kH x b:=by
 have hlt:=List.pairwise_iff_getElem.1 (jT L);have hmin:∀y∈l,l[0]<=y:=fun y hy=>by
   obtain⟨j,hj,rfl⟩:=List.mem_iff_getElem.1 hy;by_cases e:j=0
   · subst e;exact qK _
   · exact Nat.le_of_lt (List.pairwise_iff_getElem.1 hp 0 j h0 hj (by omega))
 constructor
 {
 rintro e ⟨b,hb,hr⟩;obtain⟨j,hj,rfl⟩:=List.mem_iff_getElem.1 hb;rw[List.length_take]at hj;rw[List.getElem_take]at hr;have h1:=hmin _ ((hm _).2 hr);have h2:=hlt j i (by omega) hi (by omega);omega}
 {
 intro h;have h1:=hmin x ((hm x).2 (.refl _));have h2:=(hm _).1 (List.getElem_mem h0);by_cases e:l[0]=x
 · exact e
 {
 exfalso
 obtain⟨d,hd,h3,_⟩:=h2.last (fun k=>e k.symm);have h4:l[0]∈bR L:=gL.2 ⟨d,hd,h3⟩;obtain⟨j,hj,ej⟩:=List.mem_iff_getElem.1 h4;have hji:j<i:=by {
 by_cases k:j<i
 · exact k
 {
 exfalso
 by_cases k2:j=i
 · subst k2;exact e (ej.symm.trans hx)
 · have:=hlt i j hi hj (by omega);omega}};exact h ⟨l[0],by rw[<-ej];exact List.mem_iff_getElem.2 ⟨j,by rw[List.length_take];omega,by rw[List.getElem_take]⟩,h2⟩}}
theorem aMG{i:Nat}(hi:i<(bR L).length):ncl (Rl L kH) ((bR L).take (i+1))=ncl (Rl L kH) ((bR L).take i)+if ∃b∈(bR L).take i,Rl L kH (bR L)[i] b then 0 else 1:=by
 rw[List.take_add_one,qL hi];exact aAH (fun _ _ h=>h.symm) (fun _ _ _ h k=>h.trans k) _ _
end
section
variable {W wr w w' :World} {p:Nat} {o:Ob} {ts:List Th}
theorem aMH(h:Wd W wr (thF p o::ts))(hl:o.L.length<=16384):Calls Tryz.prog 28 #[eA p] wr fun e w' =>e=.returned (.tuple #[.int .i64 o.L.length,.int .i64 (bR o.L).length,.int .i64 (pZ o.L:Nat)])/\Fr [] wr w' :=by
 obtain⟨_,a,c,h1,h2,_⟩:=h.get;have HV:=qA (aBB h1);have HI:=qA (aLU h2 hl);have c6:=h1.cell 6;simp only[rfC,zJ,zK]at c6;have HP:=qA (fun(w' :World) (hf:Fr [] wr w') (u:Nat)=>aPK (hf.blk h1 (by simp)) (h2.fr0 hf) hl u kH);obtain⟨n,hn⟩:∃n,n=o.L.length:=⟨_,rfl⟩;rw[<-hn]at c6 HI ⊢;have hnl:n<=16384:=by rw[hn];exact hl
 clear hl;obtain⟨ds,hds⟩:∃ds,ds=bR o.L:=⟨_,rfl⟩;have hdl:ds.length<=32768:=by rw[hds];have h3:=jG o.L _ rfl;rw[<-hn]at h3;omega
 rw[<-hds]at HI ⊢;obtain⟨nd,hnd⟩:∃nd,nd=ds.length:=⟨_,rfl⟩;rw[<-hnd]at hdl ⊢;obtain⟨ci,hci⟩:∃ci,ci=pZ o.L:=⟨_,rfl⟩;rw[<-hci];have hcl:ci<=nd:=by rw[hci,hnd,hds];exact(show ncl (Rl o.L kH) (bR o.L)<=(bR o.L).length from aRL _)
 have HE:=qA (zI hds (zI hnd hci));clear h h1 h2 hn hds hnd hci;go_enter Tryz.func28,Tryz.ntmps28
 go_wp2_with fail
 refine HV.out.mono ?_;rintro _ wr ⟨rfl,rfl⟩;go_wp2_with fail
 refine HI.out.mono ?_;rintro _ w2 ⟨v2,rfl,hr2,hF2,_⟩;obtain⟨a2,k2,rfl⟩:=hr2.slice;rw[<-HE.out.2.1]at hr2 ⊢;have HR2:=qA (zI hr2 hF2);have c6:=hF2.cell c6 (by simp);clear hr2 hF2 HI HV;go_wp2_with fail
 go_loopw [6,7] (fun x z wr=>∃i k:Nat,i<=nd/\k<=i/\x=.int .i64 k/\z=.int .i64 i/\Hid (Fr [] w2 wr/\k=ncl (Rl o.L kH) (ds.take i))) (fun _ z _=>nd-(intOf z).toNat)
 case atStart=>exact⟨0,0,qS _,qS _,rfl,rfl,qA ⟨Fr.refl _ _,rfl⟩⟩
 case round=>
  obtain⟨i,k,hi,hki,rfl,rfl,HR⟩:=hrel;rename World=>wx
  by_cases hlt:i<nd
  {
  have hiL:i<ds.length:=by have:=HE.out.2.1;omega
  obtain⟨b1,c1', e1,hb1,r1⟩:=(HR2.out.1.fr0 HR.out.1).at hiL;rw[<-HE.out.2.1]at e1;simp only[qP,true_and]at e1;obtain⟨rfl,rfl⟩:=e1;clear hb1;have hi1:(i:Int)<nd:=by omega
  have hi0:(0:Int)<=i:=by omega
  obtain⟨x,hx⟩:∃x,x=ds[i]'hiL:=⟨_,rfl⟩;rw[<-hx]at r1;have HX:=qA (show ∃h:i<ds.length,x=ds[i]'h from⟨hiL,hx⟩);clear hx hiL;have HPx:=qA (HP.out wx.drew ((HR2.out.2.trans' HR.out.1).trans' (Fr.refl [] wx).drew) x);have HQ:=qA (fun(w' :World) (hf:Fr [] wx.drew w')=>hf.cell (((Fr.refl [] wx).drew).cell r1 (by simp)) (by simp));go_wp2_with fail
  go_region_with (go_at_call 63;refine HPx.out.mono ?_;rintro _ w3 ⟨v3,l3,rfl,hr3,hF3,_,hlt3,hm3,hn3⟩;have h0:0<l3.length:=List.length_pos_iff_exists_mem.2 ⟨x,(hm3 x).2 (.refl _)⟩;obtain⟨b3,k3,e3,hb3,q3⟩:=hr3.at h0;subst e3;obtain⟨x3,hx3⟩:∃x3,x3=l3[0]'h0:=⟨_,rfl⟩;rw[<-hx3]at q3;have H3:=qA (zI hF3 (zI hlt3 (zI hm3 (show ∃h:0<l3.length,x3=l3[0]'h from⟨h0,hx3⟩))));have h0i:(0:Int)<l3.length:=(by omega);have r3:=HQ.out _ hF3;clear hx3 hb3 hlt3 hm3 hn3 hr3 hF3)
  all_goals
   have HL:=qA (show x3=x↔¬∃b∈ds.take i,Rl o.L kH x b by
     obtain⟨_,k2,k3,h0,e0⟩:=H3.out;obtain⟨hiL,ex⟩:=HX.out;rw[e0];have hds:=HE.out.1;subst hds;exact aDK k2 k3 hiL ex.symm h0)
   have HS:=qA (show ncl (Rl o.L kH) (ds.take (i+1))=k+if x3=x then 1 else 0 by
     obtain⟨hiL,ex⟩:=HX.out;have hk:=HR.out.2;have hds:=HE.out.1;have hl:=HL.out;subst hds;rw[aMG hiL,<-hk,<-ex];by_cases e:x3=x
     · rw[qD e,qC (hl.1 e)]
     · rw[qC e,qD (Classical.not_not.1 fun h=>e (hl.2 h))])
   have HF:=qA ((HR.out.1.trans' (Fr.refl [] wx).drew).trans' H3.out.1);by_cases hxx:x3=x
   {
   have d1:((x3:Int) == x)=true:=by simp;omega
   have HN:=qA (show Fr [] w2 _/\k+1=ncl (Rl o.L kH) (ds.take (i+1)) from⟨HF.out,by rw[HS.out,qD hxx]⟩);clear hxx HL HS HF H3 HPx HQ HR r1 q3 r3 h0 h0i;try rw[d1]
   go_wp2_with fail
   go_roundw
   case rel=>exact⟨i+1,k+1,by omega,by omega,by go_num,by go_num,HN⟩
   case measure=>simp[intOf];omega}
   {
   have d1:((x3:Int) == x)=false:=by simp;omega
   have HN:=qA (show Fr [] w2 _/\k=ncl (Rl o.L kH) (ds.take (i+1)) from⟨HF.out,by rw[HS.out,qC hxx];rfl⟩);clear hxx HL HS HF H3 HPx HQ HR r1 q3 r3 h0 h0i;try rw[d1]
   go_wp2_with fail
   go_roundw
   case rel=>exact⟨i+1,k,by omega,by omega,rfl,by go_num,HN⟩
   case measure=>simp[intOf];omega}}
  {
  obtain rfl:i=nd:=by omega
  have HK:=qA (show k=ci by
    rw[HR.out.2,HE.out.2.2,HE.out.2.1,List.take_length,HE.out.1];rfl)
  have HF:=qA (HR2.out.2.trans' HR.out.1);have c6:=HR.out.1.cell c6 (by simp);clear HR;go_wp2_with fail
  go_ret3;exact⟨by rw[HK.out];rfl,HF.out⟩}
end
end Go.Proofs.YtjdgpcjbgjnahaaGreatDoor
namespace Go.Proofs.YtjdgpcjbgjnahaaGreatDoor
open Go.RowKit
section
variable {W wr w w' :World} {ts:List Th}
end
section
variable {w:World}
end
section
variable {W wr w w' :World} {f:Nat->Ob->Th} {v:Value} {so:Option Ob} {o:Ob} {ts:List Th} {p:Nat}
end
def Ob.docOk(o:Ob)(last:Int)(r:R4):Bool:=decide (r.1≠r.2.1/\last<=r.2.2.2)&&jC o.m o.now r.2.2.2
def Ob.docL:Ob->Int->List R4->Option Ob
  | o,_,[]=>some o
  | o,last,r::rs=>if o.docOk last r=true then(o.putT r.1 r.2.1 r.2.2.1 r.2.2.2).docL r.2.2.2 rs else none
def Ob.docE(o:Ob):Option Ob:=if o.V<(bR o.L).length then none else some o
theorem wI:∀(l:List R4) {o o' :Ob} {last:Int},o.docL last l=some o' -> (bR o.L).length<=(bR o'.L).length/\o'.V=o.V
  | [],o,o', last,h=>by
    obtain rfl:=Option.some.inj h;exact⟨qK _,rfl⟩
  | r::rs,o,o', last,h=>by
    have h:(if o.docOk last r=true then(o.putT r.1 r.2.1 r.2.2.1 r.2.2.2).docL r.2.2.2 rs else none)=some o' :=h;split at h
    · obtain ⟨h1, h2⟩ := wI rs h
      exact⟨zH (aKN fun e he=>List.mem_append_left _ he) h1,h2⟩
    · cases h
theorem aFC:∀(l:List R4) (o:Ob) (last:Int),(bR o.L).length<=o.V->o.L.length+l.length<=o.E->o.resL last l=(o.docL last l).bind Ob.docE
  | [],o,last,h,_=>by
    show some o=o.docE
    exact(qC (Nat.not_lt.2 h)).symm
  | r::rs,o,last,h,hE=>by
    show(if o.resOk last r=true then(o.putT r.1 r.2.1 r.2.2.1 r.2.2.2).resL r.2.2.2 rs else none)=(if o.docOk last r=true then(o.putT r.1 r.2.1 r.2.2.1 r.2.2.2).docL r.2.2.2 rs else none).bind Ob.docE
    have hE:o.L.length+(rs.length+1)<=o.E:=hE;have hids:(bR (o.putT r.1 r.2.1 r.2.2.1 r.2.2.2).L)=Ob.idsUV o.L r.1 r.2.1:=(aCS o.L ⟨0,o.last+1,r.1,r.2.1,r.2.2.1,r.2.2.2,r.2.2.2+o.m⟩).symm;by_cases hd:o.docOk last r=true
    · rw [qD hd]
      have hd' :=hd;unfold Ob.docOk at hd';simp only[qX,decide_eq_true_eq]at hd';by_cases hV:o.V<(Ob.idsUV o.L r.1 r.2.1).length
      · have hr:¬o.resOk last r=true:=fun hr=>by
          unfold Ob.resOk Ob.chkO at hr;rw[qC hd'.1.1,qC (by omega),qD hV]at hr;simp at hr
        rw[qC hr];cases hx:(o.putT r.1 r.2.1 r.2.2.1 r.2.2.2).docL r.2.2.2 rs with
        | none=>rfl
        | some o' =>
          obtain⟨h1,h2⟩:=wI rs hx;rw[hids]at h1;have h2:o'.V=o.V:=h2;exact(qD (show o'.V<(bR o'.L).length by omega)).symm
      · have hr:o.resOk last r=true:=by
          unfold Ob.resOk Ob.chkO;rw[qC hd'.1.1,qC (by omega),qC hV];simp only[qX,decide_eq_true_eq];exact⟨hd'.1.2,hd'.2,trivial⟩
        rw[qD hr];refine aFC rs _ _ (by rw[hids];exact Nat.le_of_not_lt hV) ?_;show(o.L++[_]).length+rs.length<=o.E
        rw[zF,List.length_singleton];omega
    · rw [qC hd, qC]
      · rfl
      · intro hr
        refine hd ?_;unfold Ob.resOk at hr;unfold Ob.docOk;simp only[qX,decide_eq_true_eq]at hr ⊢;refine⟨⟨fun e=>?_,hr.1⟩,hr.2.1⟩;have:=hr.2.2;unfold Ob.chkO at this;rw[qD e]at this;cases this
end Go.Proofs.YtjdgpcjbgjnahaaGreatDoor
