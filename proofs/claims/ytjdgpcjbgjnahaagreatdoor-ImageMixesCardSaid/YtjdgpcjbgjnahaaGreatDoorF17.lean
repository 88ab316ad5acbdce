/- The document's window: Tick. -/
import Derived.Test.YtjdgpcjbgjnahaaGreatDoorF16
import Derived.Test.YtjdgpcjbgjnahaaGreatDoorF4
import Derived.Test.YtjdgpcjbgjnahaaGreatDoorF15
import Derived.Test.YtjdgpcjbgjnahaaGreatDoorF11
import Derived.Test.YtjdgpcjbgjnahaaGreatDoorF13
set_option maxRecDepth 10000
set_option maxHeartbeats 1600000
set_option linter.unusedSimpArgs false
set_option linter.unusedVariables false
/- The document's window: has, put. -/
namespace Go.Proofs.YtjdgpcjbgjnahaaGreatDoor
open Go.RowKit
theorem aYM{w:World}{v:Value}{l:List Nat}(h:fZ w v l)(id:Nat)(hl:l.length<=65536):Calls Tryz.prog 101 #[v,.int .u64 id] w fun e w' =>e=.returned (.bool (decide (id∈l)))/\w' =w:=by
 obtain⟨a,c,rfl⟩:=h.slice;have H:=qA h;clear h;go_enter Tryz.func101,Tryz.ntmps101
 go_wp2
 go_loopw [5] (fun x wr=>∃i:Nat,i<=l.length/\x=.int .i64 i/\wr=w/\Hid (id∉l.take i)) (fun x _=>l.length-(intOf x).toNat)
 case atStart=>exact⟨0,qT _,rfl,rfl,qA (by simp)⟩
 case round=>
  obtain⟨i,hi,rfl,rfl,HN⟩:=hrel;rename World=>w
  by_cases hlt:i<l.length
  {
  obtain⟨b1,c1', e1,_,r1⟩:=H.out.at hlt;simp only[qP,true_and]at e1;obtain⟨rfl,rfl⟩:=e1;have hi1:(i:Int)<l.length:=by omega
  have hi0:(0:Int)<=i:=by omega
  have hst:l.take (i+1)=l.take i++[l[i]'hlt]:=by rw[List.take_add_one,qL hlt];rfl
  have hmem:=List.getElem_mem hlt;generalize l[i]'hlt=x at *;by_cases hx:x=id
  {
  have e1:((x:Int) == id)=true:=by simp;omega
  have hd:decide (id∈l)=true:=qG (by rw[<-hx];exact hmem);have Hd:=qA hd;clear hx hst hmem hd;go_wp2
  go_ret;exact⟨by rw[Hd.out];rfl,rfl⟩}
  {
  have e1:((x:Int) == id)=false:=by simp;omega
  have hn:Hid (id∉l.take (i+1)):=qA (by
    rw[hst,qE,qH];rintro(h|h)
    · exact HN.out h
    · exact hx h.symm)
  clear hx hst hmem;go_wp2
  go_roundw
  case rel=>exact⟨i+1,by omega,by go_num,trivial,hn⟩
  case measure=>simp[intOf];omega}}
  {
  obtain rfl:i=l.length:=by omega
  have hd:decide (id∈l)=false:=qF (by have:=HN.out;rwa[List.take_length]at this);have Hd:=qA hd;clear hd;go_wp2
  go_ret;exact⟨by rw[Hd.out];rfl,rfl⟩}
def atN(l:List Nat)(x i:Nat):List Nat:=l.take i++x::l.drop i
theorem nY(l:List Nat)(x i:Nat):(atN l x i).length=l.length+1:=by
 unfold atN;simp only[zG,zA,List.length_take,List.length_drop];omega
theorem aUJ(l:List Nat)(x:Nat):atN l x l.length=l++[x]:=by
 unfold atN;rw[List.take_length,List.drop_length]
theorem atN_self? {l:List Nat}{x i:Nat}(hi:i<=l.length):(atN l x i)[i]? =some x:=by
 unfold atN;rw[List.getElem?_append_right (by rw[List.length_take];omega)];simp[List.length_take,Nat.min_eq_left hi]
theorem aQA{l:List Nat}{x i:Nat}(hi:i<=l.length)(h:i<(atN l x i).length):(atN l x i)[i]'h=x:=
  Option.some.inj ((qL h).symm.trans (atN_self? hi))
theorem atN_prev? {l:List Nat}{x i:Nat}(hi:i<l.length):(atN l x (i+1))[i]? =some l[i]:=by
 unfold atN;rw[List.getElem?_append_left (by rw[List.length_take];omega),List.getElem?_take,qD (by omega),qL hi]
theorem aQB{l:List Nat}{x i:Nat}(hi:i<l.length)(h:i<(atN l x (i+1)).length):(atN l x (i+1))[i]'h=l[i]:=
  Option.some.inj ((qL h).symm.trans (atN_prev? hi))
theorem aQC{l:List Nat}{x i:Nat}(hi:i<l.length):((atN l x (i+1)).set (i+1) l[i]).set i x=atN l x i:=by
 unfold atN;have e1:l.take (i+1)=l.take i++[l[i]]:=by rw[List.take_add_one,qL hi];rfl
 have e2:l.drop i=l[i]::l.drop (i+1):=List.drop_eq_getElem_cons hi;have hl:(l.take i).length=i:=by rw[List.length_take];omega
 rw[e1,e2,List.append_assoc];rw[List.set_append_right _ _ (by omega),List.set_append_right _ _ (by omega),hl];rw[show i+1-i=1 by omega,show i-i=0 by omega];rfl
theorem aEQ:∀{l m:List Nat} {x:Nat},(∀y∈l,y<x)->eJ x (l++m)=l++eJ x m
  | [],_,_,_=>rfl
  | a::r,m,x,h=>by
    have ha:=h a (by simp);rw[zD];show(if x=a then _ else if x<a then _ else a::eJ x (r++m))=_
    rw[qC (by omega),qC (by omega),aEQ fun y hy=>h y (by simp[hy])];rfl
theorem aHB{m:List Nat}{x:Nat}(h:∀y∈m,x<y):eJ x m=x::m:=by
 cases m with
 | nil=>rfl
 | cons a r=>{
 have:=h a (by simp);show(if x=a then _ else if x<a then _ else _)=_
 rw[qC (by omega),qD this]}
theorem aER:∀{l:List Nat} {x:Nat},l.Pairwise (· < ·)->x∈l->eJ x l=l
  | [],_,_,h=>by cases h
  | a::r,x,hp,h=>by
    have hp' :=List.pairwise_cons.1 hp;show(if x=a then a::r else if x<a then x::a::r else a::eJ x r)=_
    by_cases e:x=a
    · rw[qD e]
    · have hx : x ∈ r := (qB.1 h).resolve_left e
      have:=hp'.1 x hx;rw[qC e,qC (by omega),aER hp'.2 hx]
theorem aQD{l:List Nat}{x i:Nat}(hp:l.Pairwise (· < ·))(hi:i<=l.length)(hx:x∉l)(h1:∀y∈l.drop i,x<y)(h2:∀j (hj:j<l.length),j+1=i->l[j]<x):atN l x i=eJ x l:=by
 have hlow:∀y∈l.take i,y<x:=by {
 intro y hy;obtain⟨k,hk,rfl⟩:=List.mem_iff_getElem.1 hy;rw[List.length_take]at hk;rw[List.getElem_take];cases i with
 | zero=>omega
 | succ i=>{
 have h3:=h2 i (by omega) rfl;by_cases e:k=i
 · subst e;exact h3
 {
 have:=(List.pairwise_iff_getElem.1 hp) k i (by omega) (by omega) (by omega);omega}}};have e:=List.take_append_drop i l
 (conv=>rhs;rw[<-e])
 rw[aEQ hlow,aHB h1];rfl
theorem oS{P:Program}{w:World}{ops:Array Oper}{rest:List Oper}{o:Oper}{a:Act}{Q:Exit->Act->World->Prop}(hgd:o.guard=none)(s x:Operand)(t:TypeId)
    (ho:o.op=.call { callee:=.builtin .append,args:=#[s,x],argTypes:=#[t,t] })
    (e:TypeId) (z:Value) (size bytes:Nat) (ht:P.underlying t=some (.slice e)) (hinfo:(P.info? e).map (fun i=>(i.zero,i.size,i.bytes))=some (some z,size,bytes)) (hzs:z.cells.size=size) (hsz:0<size)
    (g:Nat) (hs:a.eval s=.slice (some ⟨g,0,none⟩) 0 0) (hg:Blk w g e []) (v:Value) (m:Nat) (news:List Value) (hv:a.eval x=v) (hx:w.ownsRow 0 e size v m news) (h1:∀u∈news,u.oneCell' =true) (h63:m<=maxLen) (hbytes:m*bytes<=140737488355328)
    (h:∀v' w', w'.ownsRow 0 e size v' m news->Fr [g] w w' -> (∀q,v'.ownBlock=some q->q=g∨w.heap.size<=q)->wpList P ops Q rest (a.put o.dst v') w'):wpList P ops Q (o::rest) a w:=
  wpList_plain hgd fun _ hK=>aKA s x t ho e z size bytes ht hinfo hzs hsz g hs hg v m news hv hx h1 h63 hbytes fun v' w' h2 h3 h4=>hK _ _ (h v' w' h2 h3 h4)
theorem aES(l:List Nat):∀u∈lR l,u.oneCell' =true:=by
 intro u hu;obtain⟨x,_,rfl⟩:=qX.1 hu;rfl
theorem aLQ(l m:List Nat):lR (l++m)=lR l++lR m:=List.map_append
theorem fZ.set{w:World}{g n cap:Nat}{l:List Nat}(h:fZ w (.slice (some ⟨g,0,none⟩) n cap) l)(hn:l.length=n){i:Nat}(y:Nat):fZ (w.setCell ⟨g,i,none⟩ (.int .u64 y)) (.slice (some ⟨g,0,none⟩) n cap) (l.set i y):=by
 unfold fZ at *;rw[List.length_set,hn];rw[hn]at h;have e:lR (l.set i y)=(lR l).set i (.int .u64 y):=List.map_set;rw[e];exact dL h _
theorem fZ.fz{w:World}{g n cap:Nat}{l:List Nat}(h:fZ w (.slice (some ⟨g,0,none⟩) n cap) l)(j:Nat):w.frozen? ⟨g,j,none⟩=false:=by
 rcases h.2 with⟨e,_⟩|⟨g', cap', cur,e,_,hh,_⟩
 · cases e
 {
 simp only[qP,qJ,Addr.mk.injEq,and_true]at e;rw[e.1];simp[World.frozen?,hh]}
theorem aBP{w:World}{v:Value}{l:List Nat}(h:fZ w v l)(hp:l.Pairwise (· < ·))(id:Nat)(hl:l.length<=60000):
    Calls Tryz.prog 100 #[v,.int .u64 id] w fun e w' =>∃v', e=.returned v' /\ fZ w' v' (eJ id l)/\Fr [] w w' /\ ∀q,v'.ownBlock=some q->v.ownBlock=some q∨w.heap.size<=q:=by
  have hH:=aYM h id (by omega);by_cases hm:id∈l
  · rw [qG hm] at hH
    rw[aER hp hm];have HH:=qA hH;have H:=qA h;clear h hp hm hH;go_enter Tryz.func100,Tryz.ntmps100
    go_wp2_with fail
    refine HH.out.mono ?_;rintro _ w ⟨rfl,rfl⟩;go_wp2
    go_ret;exact⟨v,rfl,H.out,Fr.refl _ _,fun q hq=>.inl hq⟩
  · rw [qF hm] at hH
    have HH:=qA hH;have H:=qA (zJ (h.fr0 ((Fr.refl [] w).alloc (.cells #[] 36))) (zJ hp hm));clear h hp hm hH;go_enter Tryz.func100,Tryz.ntmps100
    go_wp2_with fail
    refine HH.out.mono ?_;rintro _ w ⟨rfl,rfl⟩
    have HM:=qA (show ∀(v1:Value) (w1:World),w1.ownsRow 0 36 1 v1 l.length (lR l)->Fr [w.heap.size] (w.alloc (.cells #[] 36)) w1->(∀q,v1.ownBlock=some q->q=w.heap.size∨(w.alloc (.cells #[] 36)).heap.size<=q) ->
        Fr [] w w1/\(∀q,v1.ownBlock=some q->w.heap.size<=q)/\World.ownsRow (w1.alloc (.cells #[.int .u64 id] 36)) 0 36 1 v1 l.length (lR l) from fun v1 w1 hown1 hF1 hq1=>by
      have hs0:(w.alloc (.cells #[] 36)).heap.size=w.heap.size+1:=by simp
      refine⟨((Fr.refl [] w).alloc _).trans hF1 (fun b hb=>.inr (Nat.le_of_eq (qH.1 hb).symm)),fun q hq=>?_,aN hown1 (fun q hq=>((Fr.refl [] w1).alloc _).keep q (dC hown1 hq) (by simp))⟩;rcases hq1 q hq with e|e<;>omega)
    go_wp2_with (first
      | (at_builtin;refine oS rfl _ _ 104 rfl 36 (.int .u64 0) 1 8 (by kernel_rfl) (by kernel_rfl) rfl (by decide) w.heap.size rfl (Blk.new w [] _) v l.length (lR l) rfl H.out.1 (aES l) (by unfold maxLen;omega) (by omega) ?_;intro v1 w1 hown1 hF1 hq1;have HR1:=qA (HM.out v1 w1 hown1 hF1 hq1);obtain⟨a1,c1,rfl⟩:=aQ hown1;clear hown1 hF1 hq1 HM)
      | (at_builtin;refine fW rfl _ _ 104 rfl 36 (.int .u64 0) 1 8 (by kernel_rfl) (by kernel_rfl) rfl (by decide) (.slice a1 l.length c1) l.length (lR l) rfl HR1.out.2.2 w1.heap.size 36 [.int .u64 id] rfl (Blk.new w1 _ _) rfl (by simp[Value.oneCell']) (by omega) (by decide) ?_;intro g cap w2 hown2 hgrow2 hg2))
    clear HH;obtain⟨n,hn⟩:∃n,n=l.length:=⟨_,rfl⟩;have hrow2:fZ w2 (.slice (some ⟨g,0,none⟩) (n+1) cap) (atN l id n):=by
      unfold fZ;rw[nY,hn,aUJ,aLQ];exact hown2
    have hs1:=HR1.out.1.size;have hgn:w.heap.size<=g:=by
      rcases hg2 with e|e
      · exact HR1.out.2.1 g e
      · simp at e;omega
    have hF2:Fr [] w w2:=(HR1.out.1.alloc _).grown hgrow2 (fun k e=>.inr (HR1.out.2.1 k e));have HRow:=qA (zJ hrow2 (zJ hF2 (show ∀y∈l.drop n,id<y from fun y hy=>by rw[hn,List.drop_length]at hy;cases hy)));have HG:=qA (zJ hgn hn);have hn60:n<=60000:=by omega
    rw[<-hn];clear hown2 hgrow2 hg2 hrow2 hs1 hgn hF2 hl hn HR1;go_wp2_with fail
    have hwn:IntKind.i64.wrap ((n:Int)+1-1)=n:=by simp[IntKind.wrap,IntKind.bits,IntKind.signed];omega
    go_loopw [6] (fun c wr=>∃i:Nat,i<=n/\c=.int .i64 i/\Hid (fZ wr (.slice (some ⟨g,0,none⟩) (n+1) cap) (atN l id i)/\Fr [] w wr/\∀y∈l.drop i,id<y)) (fun c _=>(intOf c).toNat)
    case atStart=>exact⟨n,qK _,by go_num,HRow⟩
    case round=>
      obtain⟨i,hi,rfl,HR⟩:=hrel;clear HRow hwn;rename World=>wr
      have hfin:¬(∃k,∃hk:k<l.length,k+1=i/\id<l[k])->fZ wr (.slice (some ⟨g,0,none⟩) (n+1) cap) (eJ id l):=fun hno=>by
        have hil:i<=l.length:=by rw[<-HG.out.2];exact hi
        rw[<-aQD H.out.2.1 hil H.out.2.2 HR.out.2.2 (fun j hj hji=>by
          have h1:¬id<l[j]:=fun h=>hno ⟨j,hj,hji,h⟩;have h2:id≠l[j]:=fun h=>H.out.2.2 (by rw[h];exact List.getElem_mem hj);omega)]
        exact HR.out.1
      have HFin:=qA hfin;clear hfin;cases i with
      | zero=>
        have d0:decide (((0:Nat):Int)>0)=false:=qF (by omega);go_wp2
        go_quiet (fail)
        go_wp2
        go_ret;exact⟨_,rfl,(HFin.out (fun⟨k,_,h,_⟩=>by omega)).fr0 ((Fr.refl [] wr).drewN _),HR.out.2.1.drewN _,fun q hq=>.inr (by simp[Value.ownBlock]at hq;rw[<-hq];exact HG.out.1)⟩
      | succ k=>
        have hkl:k<l.length:=by rw[<-HG.out.2];omega
        have d0:decide (((k+1:Nat):Int)>0)=true:=qG (by omega);have hwk:IntKind.i64.wrap (((k+1:Nat):Int)-1)=k:=by simp[IntKind.wrap,IntKind.bits,IntKind.signed];omega
        have hl1:k+1<(atN l id (k+1)).length:=by rw[nY];omega
        have hl2:k<(atN l id (k+1)).length:=by rw[nY];omega
        obtain⟨b1,c1', e1,_,r1⟩:=HR.out.1.at hl1;obtain⟨b2,c2', e2,_,r2⟩:=HR.out.1.at hl2;rw[aQA (by omega)]at r1;rw[aQB hkl]at r2;simp only[qP,qJ,Addr.mk.injEq,and_true]at e1 e2;rw[<-e1.1]at r1;rw[<-e2.1]at r2;have ki:((k+1:Nat):Int)<(n:Int)+1:=by omega
        have kn:(k:Int)<(n:Int)+1:=by omega
        have k0:(0:Int)<=((k+1:Nat):Int):=by omega
        have k00:(0:Int)<=(k:Int):=by omega
        obtain⟨x,hx⟩:∃x,x=l[k]:=⟨_,rfl⟩;rw[<-hx]at r2;have Hx:=qA (zJ hx hkl);clear e1 e2 hl1 hl2 hx;obtain⟨i,hii⟩:∃i,i=k+1:=⟨_,rfl⟩;have d0n:decide (0<k+1)=true:=qG (by omega);rw[<-hii]at d0 d0n hwk r1 ki k0 HR HFin hi ⊢;have Hi:=qA hii;clear hii;by_cases hlt:id<x
        · have d1 : decide ((id : Int) < x) = true := qG (by omega)
          have d1n:decide (id<x)=true:=qG hlt;have Hlt:=qA hlt;clear hlt;go_wp2
          go_quiet (fail)
          clear d1 d1n d0 d0n;go_wp2_with fail
          have hfr:=Fr.of_drewN37 wr nq;have r1:=hfr.cell r1 (by simp);have r2:=hfr.cell r2 (by simp);have HRn:=qA (zJ (HR.out.1.fr0 hfr) (zJ (HR.out.2.1.trans' hfr) HR.out.2.2));clear hfr HR;generalize wr.drewN nq=ws at *;have fz1:=HRn.out.1.fz i;have fz2:=HRn.out.1.fz k;refine mJ [15,17] [2,3,4] (fun q w' =>match q with
            | 0=>∃m,w' =ws.drewN m
            | 1=>fZ w' (.slice (some ⟨g,0,none⟩) (n+1) cap) ((atN l id i).set i x)/\Fr [] w w'
            | _=>fZ w' (.slice (some ⟨g,0,none⟩) (n+1) cap) (((atN l id i).set i x).set k id)/\Fr [] w w') (fun w' =>Iff.rfl) (by kernel_rfl) (by kernel_rfl) (by kernel_rfl) ?_
          iterate 2 (refine jB (by decide) (fun K hK=>?_);go_simp;refine hK _ ?_;clear hK K)
          iterate 3 (refine gS (by decide) (fun K hK=>?_);go_simp;refine hK _ ?_;clear hK K)
          iterate 10 (refine jB (by decide) (fun K hK=>?_);go_simp;refine hK _ ?_;clear hK K)
          refine fV (q:=0) (by decide) rfl undef (fun w' hw' =>?_) ?_
          · obtain ⟨nq, rfl⟩ := hw'
            go_simp;exact⟨(HRn.out.1.fr0 (Fr.of_drewN37 ws nq)).set (by rw[nY,<-HG.out.2]) x,(HRn.out.2.1.drewN nq).setCell _ _ (.inr HG.out.1)⟩
          iterate 1 (refine gS (by decide) (fun K hK=>?_);go_simp;refine hK _ ?_;clear hK K)
          refine fV (q:=1) (by decide) rfl undef (fun w' hw' =>?_) ?_
          · obtain ⟨hA, hB'⟩ := hw'
            have fz3:=hA.fz k;have hl3:k<((atN l id i).set i x).length:=by rw[List.length_set,nY];have:=Hx.out.2;omega
            obtain⟨b2,c2', e2,_,r3⟩:=hA.at hl3;simp only[qP,qJ,Addr.mk.injEq,and_true]at e2;rw[<-e2.1]at r3;clear e2;generalize ((atN l id i).set i x)[k]'hl3=y3 at *;go_simp;exact⟨hA.set (by rw[List.length_set,nY,<-HG.out.2]) id,hB'.setCell _ _ (.inr HG.out.1)⟩
          refine sF ?_;rintro w4 ⟨h4,hF4⟩;have HN:Hid (fZ w4 (.slice (some ⟨g,0,none⟩) (n+1) cap) (atN l id k)/\Fr [] w w4/\∀y∈l.drop k,id<y):=qA (by
            refine⟨?_,hF4,fun y hy=>?_⟩
            · rw[Hi.out,Hx.out.1,aQC Hx.out.2]at h4;exact h4
            · rw [List.drop_eq_getElem_cons Hx.out.2] at hy
              rcases qB.1 hy with rfl|hy
              · rw[<-Hx.out.1];exact Hlt.out
              · have := HRn.out.2.2 y (by rw [Hi.out]; exact hy)
                exact this)
          clear h4 hF4 fz1 fz2 r1 r2 HRn HFin;have hki:=Hi.out;go_wp2_with fail
          go_roundw
          case rel=>exact⟨k,by omega,by go_num,HN⟩
          case measure=>simp[intOf];omega
        · have d1 : decide ((id : Int) < x) = false := qF (by omega)
          have d1n:decide (id<x)=false:=qF hlt;have Hlt:=qA hlt;clear hlt;go_wp2
          go_quiet (fail)
          go_wp2
          go_ret;exact⟨_,rfl,(HFin.out (fun⟨k', hk', h,h'⟩=>by
            have e:k' =k:=by have:=Hi.out;omega
            subst e;rw[<-Hx.out.1]at h';exact Hlt.out h')).fr0 ((Fr.refl [] wr).drewN _),HR.out.2.1.drewN _,fun q hq=>.inr (by simp[Value.ownBlock]at hq;rw[<-hq];exact HG.out.1)⟩
theorem nI(x:Nat):∀l:List Nat,(eJ x l).length<=l.length+1
  | []=>qK _
  | a::r=>by
    show(if x=a then a::r else if x<a then x::a::r else a::eJ x r).length<=_
    have:=nI x r;split
    · simp
    · split
      · simp
      · simp only[zA];omega
theorem zT(L:List Lv)(e:Lv):fN (L++[e])=eJ e.v (eJ e.u (fN L)):=by
 unfold fN;rw[List.foldl_append];rfl
theorem zU(L:List Lv):∀n,L.length=n->(fN L).length<=2*n:=by
 intro n;induction n generalizing L with
 | zero=>intro h;rw[List.length_eq_zero_iff.1 h];exact qK 0
 | succ n ih=>{
 intro h;have hne:L≠[]:=by intro h0;rw[h0]at h;cases h
 rw[<-List.dropLast_concat_getLast hne,zT];have h1:=ih L.dropLast (by rw[List.length_dropLast];omega);have h2:=nI (L.getLast hne).u (fN L.dropLast);have h3:=nI (L.getLast hne).v (eJ (L.getLast hne).u (fN L.dropLast));omega}
theorem aYN{w:World}{v:Value}{l:List Lv}(h:bH w v l)(hl:l.length<=16384):
    Calls Tryz.prog 62 #[v] w fun e w' =>∃v', e=.returned v' /\ fZ w' v' (fN l)/\Fr [] w w' /\ ∀q,v'.ownBlock=some q->w.heap.size<=q:=by
  obtain⟨a,c,rfl⟩:=h.slice;have H:=qA h;clear h;go_enter Tryz.func62,Tryz.ntmps62
  go_wp2
  go_loopw [3,4] (fun c1 x wr=>∃(i:Nat) (a:Option Addr) (n c:Nat),i<=l.length/\c1=.slice a n c/\x=.int .i64 i/\Hid (fZ wr (.slice a n c) (fN (l.take i))/\Fr [] w wr/\∀q,(Value.slice a n c).ownBlock=some q->w.heap.size<=q)) (fun _ x _=>l.length-(intOf x).toNat)
  case atStart=>exact⟨0,none,0,0,qT _,rfl,rfl,qA ⟨⟨rfl,.inl ⟨rfl,rfl⟩⟩,Fr.refl _ _,fun q hq=>by cases hq⟩⟩
  case round=>
    obtain⟨i,ao,no,co,hi,rfl,rfl,HR⟩:=hrel;rename World=>wr
    by_cases hlt:i<l.length
    · obtain ⟨b1, c1', e1, hx1, hx2, hx3, r1⟩ := H.out.at hlt
      simp only[qP,true_and]at e1;obtain⟨rfl,rfl⟩:=e1;clear hx1 hx2 hx3;have hi1:(i:Int)<l.length:=by omega
      have hi0:(0:Int)<=i:=by omega
      have hst:fN (l.take (i+1))=eJ (l[i]'hlt).v (eJ (l[i]'hlt).u (fN (l.take i))):=by rw[List.take_add_one,qL hlt];exact zT _ _
      generalize l[i]'hlt=x at *;obtain⟨_,_,x2,x3,_,_,_⟩:=r1;have hlen:=zU (l.take i) _ rfl;rw[List.length_take]at hlen;have hlt1:=jT (l.take i);obtain⟨ds,hds⟩:∃ds,ds=fN (l.take i):=⟨_,rfl⟩;rw[<-hds]at HR hst hlen hlt1;have x2:=HR.out.2.1.cell x2 (by simp);have x3:=HR.out.2.1.cell x3 (by simp)
      have HP:=qA (show ∀w', Fr [] wr w' -> Calls Tryz.prog 100 #[.slice ao no co,.int .u64 x.u] w' fun e w1=>∃a1 n1 k1,e=.returned (.slice a1 n1 k1)/\Fr [] wr w1 /\
          Calls Tryz.prog 100 #[.slice a1 n1 k1,.int .u64 x.v] w1 fun e w2=>∃a2 n2 k2,e=.returned (.slice a2 n2 k2)/\fZ w2 (.slice a2 n2 k2) (eJ x.v (eJ x.u ds))/\Fr [] wr w2/\∀q,(Value.slice a2 n2 k2).ownBlock=some q->w.heap.size<=q from fun w' hf=>by
        have hr:=HR.out.1.fr0 hf;refine(aBP hr hlt1 x.u (by omega)).mono ?_;rintro _ w1 ⟨v1,rfl,h1,hF1,hq1⟩;obtain⟨a1,k1,rfl⟩:=h1.slice;refine⟨_,_,_,rfl,hf.trans' hF1,(aBP h1 (nV hlt1) x.v (by have:=nI x.u ds;omega)).mono ?_⟩;rintro _ w2 ⟨v2,rfl,h2,hF2,hq2⟩;obtain⟨a2,k2,rfl⟩:=h2.slice;refine⟨_,_,_,rfl,h2,(hf.trans' hF1).trans' hF2,fun q hq=>?_⟩;have s1:=(HR.out.2.1.trans' (hf.trans' hF1)).size;have s0:=(HR.out.2.1.trans' hf).size;rcases hq2 q hq with e|e
        · rcases hq1 q e with e | e
          · exact HR.out.2.2 q e
          · omega
        · omega)
      have HF:=qA (zJ HR.out.2.1 hst);clear hst hlen hlt1 hds HR;go_wp2_with fail
      go_region_held3 (fun w' => w'.cell? ⟨b1, i * 7 + 2, none⟩ = some (.int .u64 x.u) /\ w'.cell? ⟨b1, i * 7 + 3, none⟩ = some (.int .u64 x.v))
        (first
          | go_keep
          | exact⟨hfB.cell x2 (by simp),hfB.cell x3 (by simp)⟩
          | exact⟨hfA.cell x2 (by simp),hfA.cell x3 (by simp)⟩)
        (first
          | (go_at_call 100;with_reducible refine Calls.mono (HP.out _ (Fr.refl [] wr).drew) ?_;rintro r wA ⟨a1,n1,k1,rfl,hfA,hcA⟩)
          | (go_at_call 100;with_reducible refine Calls.mono hcA ?_;rintro r wB ⟨a2,n2,k2,rfl,hB,hfB,hqB⟩))
      all_goals
        have HN:Hid (fZ wB (.slice a2 n2 k2) (fN (l.take (i+1)))/\Fr [] w wB/\∀q,(Value.slice a2 n2 k2).ownBlock=some q->w.heap.size<=q):=qA (by
          rw[HF.out.2];exact⟨hB,HF.out.1.trans' hfB,hqB⟩)
        clear hB hfB hqB hcA hfA HP x2 x3;go_wp2_with fail
        go_roundw
        case rel=>exact⟨i+1,_,_,_,by omega,rfl,by go_num,HN⟩
        case measure=>simp[intOf];omega
    · obtain rfl : i = l.length := by omega
      go_wp2
      go_ret;have:=HR.out;rw[List.take_length]at this;exact⟨_,rfl,this⟩
theorem aJB{w:World}{v:Value}{l:List Lv}(h:bH w v l)(hl:l.length<=16384)(to:Int):
    Calls Tryz.prog 110 #[v,.int .i64 to] w fun e w' =>∃v', e=.returned v' /\ bH w' v' (l.filter fun e=>decide (to<e.x))/\Fr [] w w' /\ ∀q,v'.ownBlock=some q->w.heap.size<=q:=by
 obtain⟨a,c,rfl⟩:=h.slice;have H:=qA h;clear h;go_enter Tryz.func110,Tryz.ntmps110
 go_wp2
 go_loopw [5,6] (fun c1 x wr=>∃(i:Nat) (a:Option Addr) (n c:Nat),i<=l.length/\c1=.slice a n c/\x=.int .i64 i/\Hid (bH wr (.slice a n c) ((l.take i).filter fun e=>decide (to<e.x))/\Fr [] w wr/\(∀q,(Value.slice a n c).ownBlock=some q->w.heap.size<=q)/\n=((l.take i).filter fun e=>decide (to<e.x)).length)) (fun _ x _=>l.length-(intOf x).toNat)
 case atStart=>exact⟨0,none,0,0,qT _,rfl,rfl,qA ⟨bH.nil _,Fr.refl _ _,fun q hq=>(by cases hq),rfl⟩⟩
 case round=>
  obtain⟨i,ao,no,co,hi,rfl,rfl,HR⟩:=hrel;rename World=>wr
  by_cases hlt:i<l.length
  {
  obtain⟨b1,c1', e1,hx1,hx2,hx3,r1⟩:=H.out.at hlt;simp only[qP,true_and]at e1;obtain⟨rfl,rfl⟩:=e1;clear hx1 hx2 hx3;have hi1:(i:Int)<l.length:=by omega
  have hi0:(0:Int)<=i:=by omega
  have htk:l.take (i+1)=l.take i++[l[i]'hlt]:=by rw[List.take_add_one,qL hlt];rfl
  have hst:(l.take (i+1)).filter (fun e=>decide (to<e.x))=(l.take i).filter (fun e=>decide (to<e.x))++(if to<(l[i]'hlt).x then [l[i]'hlt] else []):=by {
  rw[htk,List.filter_append];congr 1
  by_cases hh:to<(l[i]'hlt).x<;>simp[hh]};have hnl:((l.take i).filter (fun e=>decide (to<e.x))).length<=i:=zI (List.length_filter_le _ _) (by rw[List.length_take];omega);generalize l[i]'hlt=x at *;obtain⟨ds,hds⟩:∃ds,ds=(l.take i).filter (fun e=>decide (to<e.x)):=⟨_,rfl⟩;rw[<-hds]at HR hst hnl;clear hds htk;obtain⟨x0,x1,x2,x3,x4,x5,x6⟩:=r1;have x0:=HR.out.2.1.cell x0 (by simp);have x1:=HR.out.2.1.cell x1 (by simp);have x2:=HR.out.2.1.cell x2 (by simp);have x3:=HR.out.2.1.cell x3 (by simp);have x4:=HR.out.2.1.cell x4 (by simp);have x5:=HR.out.2.1.cell x5 (by simp);have x6:=HR.out.2.1.cell x6 (by simp);by_cases hx:to<x.x
  {
  have d1:decide (x.x>to)=true:=qG hx;rw[qD hx]at hst;have hno:no=ds.length:=HR.out.2.2.2;have hno2:no<=16384:=by omega
  have hown:World.ownsRow (wr.alloc (.cells #[.int .i64 x.slot,.int .u64 x.seq,.int .u64 x.u,.int .u64 x.v,.int .i64 x.wt,.int .i64 x.t,.int .i64 x.x] 74)) 0 74 7 (.slice ao no co) no (rowV ds):=by {
  have:=HR.out.1.fr0 ((Fr.refl [] wr).alloc (.cells #[.int .i64 x.slot,.int .u64 x.seq,.int .u64 x.u,.int .u64 x.v,.int .i64 x.wt,.int .i64 x.t,.int .i64 x.x] 74));unfold bH at this;rw[<-hno]at this;exact this};have HOwn:=qA hown;have Hst:=qA (zJ hst hno);clear hst hno hown hnl hx;go_wp2_with (at_builtin;refine fW rfl _ _ 59 rfl 74 oY 7 56 (by kernel_rfl) (by kernel_rfl) rfl (by decide) (.slice ao no co) no (rowV ds) rfl HOwn.out wr.heap.size 74 [.int .i64 x.slot,.int .u64 x.seq,.int .u64 x.u,.int .u64 x.v,.int .i64 x.wt,.int .i64 x.t,.int .i64 x.x] rfl (Blk.new wr _ _) rfl (by simp[Value.oneCell']) (by omega) (by decide) ?_;intro g cap w4 hown4 hgrow4 hg4)
  have HN:Hid (bH w4 (.slice (some ⟨g,0,none⟩) (no+1) cap) ((l.take (i+1)).filter fun e=>decide (to<e.x))/\Fr [] w w4/\(∀q,(Value.slice (some ⟨g,0,none⟩) (no+1) cap).ownBlock=some q->w.heap.size<=q)/\no+1=((l.take (i+1)).filter fun e=>decide (to<e.x)).length):=qA (by
    rw[Hst.out.1];have hs:=HR.out.2.1.size;refine⟨?_,(HR.out.2.1.alloc _).grown hgrow4 (fun k e=>.inr (HR.out.2.2.1 k e)),fun q hq=>?_,by rw[zG,Hst.out.2];rfl⟩
    · unfold bH
      rw[zG,<-Hst.out.2,sG];exact hown4
    · have e : g = q := by simpa [Value.ownBlock] using hq
      subst e;rcases hg4 with e|e
      · exact HR.out.2.2.1 g e
      · simp at e;omega)
  clear hown4 hgrow4 hg4 HOwn x0 x1 x2 x3 x4 x5 x6;go_wp2_with fail
  go_roundw
  case rel=>exact⟨i+1,_,_,_,by omega,rfl,by go_num,HN⟩
  case measure=>simp[intOf];omega}
  {
  have d1:decide (x.x>to)=false:=qF (by omega);rw[qC hx,List.append_nil]at hst;have HN:Hid (bH wr (.slice ao no co) ((l.take (i+1)).filter fun e=>decide (to<e.x))/\Fr [] w wr/\(∀q,(Value.slice ao no co).ownBlock=some q->w.heap.size<=q)/\no=((l.take (i+1)).filter fun e=>decide (to<e.x)).length):=qA (by
    rw[hst];exact HR.out)
  clear hst hnl hx HR;go_wp2_with fail
  go_roundw
  case rel=>exact⟨i+1,_,_,_,by omega,rfl,by go_num,HN⟩
  case measure=>simp[intOf];omega}}
  {
  obtain rfl:i=l.length:=by omega
  go_wp2
  go_ret;have:=HR.out;rw[List.take_length]at this;exact⟨_,rfl,this.1,this.2.1,this.2.2.1⟩}
def wd(x:Nat):Nat->Nat
  | 0=>x%4294967296
  | 1=>x/4294967296
  | _=>0
def wdC(x:Nat):List Value:=[.int .u64 (wd x 0:Nat),.int .u64 (wd x 1:Nat),.int .u64 0,.int .u64 0,.int .u64 0,.int .u64 0]
theorem aQE(x:Nat){i:Nat}(hi:i<6):(wdC x)[i]? =some (.int .u64 (wd x i:Nat)):=by
 match i,hi with
 | 0,_=>rfl
 | 1,_=>rfl
 | 2,_=>rfl
 | 3,_=>rfl
 | 4,_=>rfl
 | 5,_=>rfl
def cry(x y:Nat):Nat->Nat
  | 0=>0
  | i+1=>(wd x i+wd y i+cry x y i)/4294967296
def dig(x y i:Nat):Nat:=(wd x i+wd y i+cry x y i)%4294967296
def wO(x y i:Nat):List Value:=(List.range 6).map fun j=>.int .u64 ((if j<i then dig x y j else 0:Nat):Int)
theorem aQF(x y:Nat){i:Nat}(hi:i<6):(wO x y i).set i (.int .u64 (dig x y i:Nat))=wO x y (i+1):=by
 match i,hi with
 | 0,_=>rfl
 | 1,_=>rfl
 | 2,_=>rfl
 | 3,_=>rfl
 | 4,_=>rfl
 | 5,_=>rfl
theorem aQG(x y i:Nat):(wO x y i).length=6:=by simp[wO]
theorem zV{x:Nat}(hx:x<=9223372036854775807)(i:Nat):wd x i<4294967296:=by
 match i with
 | 0=>exact Nat.mod_lt _ (by omega)
 | 1=>show x/4294967296<_;omega
 | n+2=>show 0<_;omega
theorem aQH{x y:Nat}(hx:x<=9223372036854775807)(hy:y<=9223372036854775807):∀i,cry x y i<=1
  | 0=>qT _
  | i+1=>by
    have h1:=zV hx i;have h2:=zV hy i;have h3:=aQH hx hy i;show(wd x i+wd y i+cry x y i)/4294967296<=1
    omega
theorem aUK{x y:Nat}(hx:x<=9223372036854775807)(hy:y<=9223372036854775807):dig x y 1*4294967296+dig x y 0=x+y/\dig x y 2=0/\dig x y 3=0/\dig x y 4=0/\dig x y 5=0:=by
 have e0:cry x y 1=(x%4294967296+y%4294967296+0)/4294967296:=rfl;have d0:dig x y 0=(x%4294967296+y%4294967296+0)%4294967296:=rfl;have d1:dig x y 1=(x/4294967296+y/4294967296+cry x y 1)%4294967296:=rfl;have e1:cry x y 2=(x/4294967296+y/4294967296+cry x y 1)/4294967296:=rfl;have h2:cry x y 2=0:=by rw[e1,e0];omega
 have h3:cry x y 3=0:=by show(0+0+cry x y 2)/4294967296=0;rw[h2]
 have h4:cry x y 4=0:=by show(0+0+cry x y 3)/4294967296=0;rw[h3]
 have h5:cry x y 5=0:=by show(0+0+cry x y 4)/4294967296=0;rw[h4]
 refine⟨by rw[d1,d0,e0];omega,?_,?_,?_,?_⟩
 · show(0+0+cry x y 2)%4294967296=0;rw[h2]
 · show(0+0+cry x y 3)%4294967296=0;rw[h3]
 · show(0+0+cry x y 4)%4294967296=0;rw[h4]
 · show(0+0+cry x y 5)%4294967296=0;rw[h5]
theorem aYO{x y:Nat}(hx:x<=9223372036854775807)(hy:y<=9223372036854775807)(w:World):
    Calls Tryz.prog 181 #[.agg (wdC x).toArray,.agg (wdC y).toArray] w fun e w' =>e=.returned (.agg (wO x y 6).toArray)/\Fr [] w w' :=by
 have key:Calls Tryz.prog 181 #[.agg #[.int .u64 (wd x 0:Nat),.int .u64 (wd x 1:Nat),.int .u64 0,.int .u64 0,.int .u64 0,.int .u64 0],.agg #[.int .u64 (wd y 0:Nat),.int .u64 (wd y 1:Nat),.int .u64 0,.int .u64 0,.int .u64 0,.int .u64 0]] w fun e w' =>e=.returned (.agg (wO x y 6).toArray)/\Fr [] w w' :=by {
 obtain⟨w0,hw0⟩:∃w0,w0=(((w.alloc (.cells #[.int .u64 (wd x 0:Nat),.int .u64 (wd x 1:Nat),.int .u64 0,.int .u64 0,.int .u64 0,.int .u64 0] 205)).alloc (.cells #[.int .u64 (wd y 0:Nat),.int .u64 (wd y 1:Nat),.int .u64 0,.int .u64 0,.int .u64 0,.int .u64 0] 205)).alloc (.cells #[.int .u64 0,.int .u64 0,.int .u64 0,.int .u64 0,.int .u64 0,.int .u64 0] 205)).alloc (.cells #[.int .u64 0,.int .u64 0,.int .u64 0,.int .u64 0,.int .u64 0,.int .u64 0] 205):=⟨_,rfl⟩;have ha:Blk w0 w.heap.size 205 (wdC x):=by rw[hw0];exact(((Blk.new w (wdC x) _).alloc _).alloc _).alloc _
 have hb:Blk w0 (w.heap.size+1) 205 (wdC y):=by {
 rw[hw0];have:=((Blk.new (w.alloc (.cells #[.int .u64 (wd x 0:Nat),.int .u64 (wd x 1:Nat),.int .u64 0,.int .u64 0,.int .u64 0,.int .u64 0] 205)) (wdC y) 205).alloc (.cells #[.int .u64 0,.int .u64 0,.int .u64 0,.int .u64 0,.int .u64 0,.int .u64 0] 205)).alloc (.cells #[.int .u64 0,.int .u64 0,.int .u64 0,.int .u64 0,.int .u64 0,.int .u64 0] 205);simp only[World.size_alloc]at this;exact this};have hr:Blk w0 (w.heap.size+1+1) 205 [.int .u64 0,.int .u64 0,.int .u64 0,.int .u64 0,.int .u64 0,.int .u64 0]:=by {
 rw[hw0];have:=(Blk.new ((w.alloc (.cells #[.int .u64 (wd x 0:Nat),.int .u64 (wd x 1:Nat),.int .u64 0,.int .u64 0,.int .u64 0,.int .u64 0] 205)).alloc (.cells #[.int .u64 (wd y 0:Nat),.int .u64 (wd y 1:Nat),.int .u64 0,.int .u64 0,.int .u64 0,.int .u64 0] 205)) [.int .u64 0,.int .u64 0,.int .u64 0,.int .u64 0,.int .u64 0,.int .u64 0] 205).alloc (.cells #[.int .u64 0,.int .u64 0,.int .u64 0,.int .u64 0,.int .u64 0,.int .u64 0] 205);simp only[World.size_alloc]at this;exact this};have ho:Blk w0 (w.heap.size+1+1+1) 205 (wO x y 0):=by {
 rw[hw0];have:=Blk.new (((w.alloc (.cells #[.int .u64 (wd x 0:Nat),.int .u64 (wd x 1:Nat),.int .u64 0,.int .u64 0,.int .u64 0,.int .u64 0] 205)).alloc (.cells #[.int .u64 (wd y 0:Nat),.int .u64 (wd y 1:Nat),.int .u64 0,.int .u64 0,.int .u64 0,.int .u64 0] 205)).alloc (.cells #[.int .u64 0,.int .u64 0,.int .u64 0,.int .u64 0,.int .u64 0,.int .u64 0] 205)) (wO x y 0) 205;simp only[World.size_alloc]at this;exact this};have hF0:Fr [] w w0:=by rw[hw0];exact((((Fr.refl [] w).alloc _).alloc _).alloc _).alloc _
 obtain⟨ba,hba⟩:∃ba,ba=w.heap.size:=⟨_,rfl⟩;have HW0:=qA hw0;go_enter Tryz.func181,Tryz.ntmps181
 clear hw0;go_wp2
 rw[<-HW0.out,<-hba];rw[<-hba]at ha hb hr ho;have HA:=qA (zJ ha (zJ hb (zJ hr (zJ hF0 hba))));clear ha hb hr hF0 hba HW0;go_loopw [6,7] (fun c1 c2 wr=>∃(i:Nat),i<=6/\c1=.int .u64 (cry x y i:Nat)/\c2=.int .i64 i/\Hid (Blk wr (ba+1+1+1) 205 (wO x y i)/\Fr [ba+1+1+1] w0 wr)) (fun _ c _=>6-(intOf c).toNat)
 case atStart=>exact⟨0,by omega,rfl,rfl,qA ⟨ho,Fr.refl _ _⟩⟩
 case round=>
  obtain⟨i,hi,rfl,rfl,HR⟩:=hrel;clear ho;rename World=>wr
  by_cases hi6:i<6
  {
  have hii:(i:Int)<6:=by omega
  have hi0:(0:Int)<=i:=by omega
  have ca:=(HR.out.2.blk HA.out.1 (by simp;omega)).cell i;have cb:=(HR.out.2.blk HA.out.2.1 (by simp)).cell i;rw[aQE x hi6]at ca;rw[aQE y hi6]at cb;have l1:=zV hx i;have l2:=zV hy i;have l3:=aQH hx hy i;have hset:=aQF x y hi6;have hcs:cry x y (i+1)=(wd x i+wd y i+cry x y i)/4294967296:=rfl;have hdg:dig x y i=(wd x i+wd y i+cry x y i)%4294967296:=rfl;rw[hdg]at hset;clear hdg;have Hset:=qA (zJ hset hcs);clear hset hcs;generalize wd x i=a at *;generalize wd y i=b at *;generalize cry x y i=c at *;have hw1:IntKind.u64.wrap ((a:Int)+b)=((a+b:Nat):Int):=by simp[IntKind.wrap,IntKind.bits,IntKind.signed];omega
  have hw2:IntKind.u64.wrap (((a+b:Nat):Int)+c)=((a+b+c:Nat):Int):=by simp[IntKind.wrap,IntKind.bits,IntKind.signed];omega
  obtain⟨s,hs⟩:∃s,s=a+b+c:=⟨_,rfl⟩;have hw0:IntKind.u64.wrap ((a:Int)+b+c)=(s:Int):=by rw[hs];simp[IntKind.wrap,IntKind.bits,IntKind.signed];omega
  have hsl:s<=8589934592:=by omega
  rw[<-hs]at hw2 Hset;have hw3:IntKind.u64.wrap ((s:Int).tmod 4294967296)=((s%4294967296:Nat):Int):=by rw[Int.tmod_eq_emod_of_nonneg (by omega)];simp[IntKind.wrap,IntKind.bits,IntKind.signed];omega
  have hw4:IntKind.u64.wrap ((s:Int).tdiv 4294967296)=((s/4294967296:Nat):Int):=by rw[Int.tdiv_eq_ediv_of_nonneg (by omega)];simp[IntKind.wrap,IntKind.bits,IntKind.signed];omega
  have hm3:((s:Int)%4294967296)=((s%4294967296:Nat):Int):=by omega
  have hm4:((s:Int)/4294967296)=((s/4294967296:Nat):Int):=by omega
  have ht3:(s:Int).tmod 4294967296=((s%4294967296:Nat):Int):=by rw[Int.tmod_eq_emod_of_nonneg (by omega)];omega
  have ht4:(s:Int).tdiv 4294967296=((s/4294967296:Nat):Int):=by rw[Int.tdiv_eq_ediv_of_nonneg (by omega)];omega
  clear hs l1 l2 l3;obtain⟨d,hd⟩:∃d,d=s%4294967296:=⟨_,rfl⟩;obtain⟨k,hk⟩:∃k,k=s/4294967296:=⟨_,rfl⟩;rw[<-hd]at hw3 hm3 ht3 Hset;rw[<-hk]at hw4 hm4 ht4 Hset;clear hd hk;go_wp2
  go_quiet (fail)
  have HR2:=qA (zJ (HR.out.1.drewN nq) (HR.out.2.drewN nq));have co:=HR2.out.1.cell i;have fo:=HR2.out.1.frozen i;have hex:∃u,(wO x y i)[i]? =some u:=⟨_,qL (by rw[aQG];exact hi6)⟩;obtain⟨u,hu⟩:=hex;rw[hu]at co;clear hu ca cb HR;generalize wr.drewN nq=ws at *;go_wp2_with fail
  go_roundw
  case rel=>
   refine⟨i+1,by omega,by rw[Hset.out.2],by go_num,qA ⟨?_,HR2.out.2.setCell _ _ (.inl (by simp))⟩⟩;rw[<-Hset.out.1];exact HR2.out.1.set i _
  case measure=>simp[intOf];omega}
  {
  obtain rfl:i=6:=by omega
  have hb6:=HR.out.1;have o0:=hb6.cell 0;have o1:=hb6.cell 1;have o2:=hb6.cell 2;have o3:=hb6.cell 3;have o4:=hb6.cell 4;have o5:=hb6.cell 5;have hrr:=HR.out.2.blk HA.out.2.2.1 (by simp);have r0:=hrr.cell 0;have r1:=hrr.cell 1;have r2:=hrr.cell 2;have r3:=hrr.cell 3;have r4:=hrr.cell 4;have r5:=hrr.cell 5;have f0:=hrr.frozen 0;have f1:=hrr.frozen 1;have f2:=hrr.frozen 2;have f3:=hrr.frozen 3;have f4:=hrr.frozen 4;have f5:=hrr.frozen 5;have d0:wO x y 6=[.int .u64 (dig x y 0:Nat),.int .u64 (dig x y 1:Nat),.int .u64 (dig x y 2:Nat),.int .u64 (dig x y 3:Nat),.int .u64 (dig x y 4:Nat),.int .u64 (dig x y 5:Nat)]:=rfl;rw[d0]at o0 o1 o2 o3 o4 o5;simp only[zK,zL]at o0 o1 o2 o3 o4 o5 r0 r1 r2 r3 r4 r5;have hs0:=((((((hrr.set 0 (.int .u64 (dig x y 0:Nat))).set 1 (.int .u64 (dig x y 1:Nat))).set 2 (.int .u64 (dig x y 2:Nat))).set 3 (.int .u64 (dig x y 3:Nat))).set 4 (.int .u64 (dig x y 4:Nat))).set 5 (.int .u64 (dig x y 5:Nat)));have s0:=hs0.cell 0;have s1:=hs0.cell 1;have s2:=hs0.cell 2;have s3:=hs0.cell 3;have s4:=hs0.cell 4;have s5:=hs0.cell 5;simp only[zK,zL,qZ,qV]at s0 s1 s2 s3 s4 s5;have hFe:Fr [] w wr:=HA.out.2.2.2.1.trans HR.out.2 (fun b hb=>.inr (by rw[qH.1 hb,<-HA.out.2.2.2.2];omega));have hbl:∀v:Value,∀i w', Fr [] w w' -> Fr [] w (w'.setCell ⟨ba+1+1,i,none⟩ v):=fun v i w' h=>h.setCell _ _ (.inr (by rw[<-HA.out.2.2.2.2];show ba<=ba+1+1;omega));have HFe:=qA (hbl (.int .u64 (dig x y 5:Nat)) 5 _ (hbl (.int .u64 (dig x y 4:Nat)) 4 _ (hbl (.int .u64 (dig x y 3:Nat)) 3 _ (hbl (.int .u64 (dig x y 2:Nat)) 2 _ (hbl (.int .u64 (dig x y 1:Nat)) 1 _ (hbl (.int .u64 (dig x y 0:Nat)) 0 _ hFe))))));clear hb6 hrr d0 hs0 hFe hbl HR HA;go_wp2
  exact bodyPost_ret (v:=.agg #[.int .u64 (dig x y 0:Nat),.int .u64 (dig x y 1:Nat),.int .u64 (dig x y 2:Nat),.int .u64 (dig x y 3:Nat),.int .u64 (dig x y 4:Nat),.int .u64 (dig x y 5:Nat)]) (by simp[results,Tryz.results181,go_sem,s0,s1,s2,s3,s4,s5]) rfl ⟨rfl,HFe.out⟩}};exact key
section
variable {P:Program} {ops:Array Oper} {md:Region.Mode} (G:Nat->Sem Go.Next->Value->Prop) (must:Nat->Bool)
def sOp(ops:Array Oper)(i:Nat)(K:Act->Prop)(a:Act):Prop:=
  match ops[i]? with
  | none=>K a
  | some o=>if Region.wanted o (yielded ops a.tmps) then ∃v,G i (execOp a.eval o) v/\K (a.put o.dst v) else must i=false/\K (a.put o.dst undef)
def wP(ops:Array Oper)(Q:Act->Prop):Nat->List Oper->Act->Prop
  | _,[],a=>Q a
  | k,o::rest,a=>if Region.wanted o (yielded ops a.tmps) then ∃v,G k (execOp a.eval o) v/\wP ops Q (k+1) rest (a.put o.dst v) else must k=false/\wP ops Q (k+1) rest (a.put o.dst undef)
def aLR(md:Region.Mode)(ops:Array Oper)(Q:Act->Prop):Nat->Array Bool->Act->Prop
  | 0,listed,a=>Region.ready md ops listed=[]/\Q a
  | fuel+1,listed,a=>
    (Region.ready md ops listed=[]->Q a)/\∀i∈Region.ready md ops listed,sOp G must ops i (aLR md ops Q fuel (listed.setIfInBounds i true)) a
variable {G must}
def fP(G:Nat->Sem Go.Next->Value->Prop)(must:Nat->Bool)(ops:Array Oper)(i:Nat)(o:Oper)(v:Value)(a:Act):Prop:=
  (Region.wanted o (yielded ops a.tmps)=true/\G i (execOp a.eval o) v)∨(Region.wanted o (yielded ops a.tmps)=false/\must i=false/\v=undef)
theorem fP.op{i:Nat}{o:Oper}{v:Value}{a:Act}(hi:ops[i]? =some o)(hy:fP G must ops i o v a){K:Act->Prop}(h:K (a.put o.dst v)):sOp G must ops i K a:=by
 unfold sOp;simp only[hi];rcases hy with⟨hw,hv⟩|⟨hw,hm,rfl⟩
 · rw[qD hw];exact⟨v,hv,h⟩
 · rw[qC (by simp[hw])];exact⟨hm,h⟩
theorem fP.same{i:Nat}{o:Oper}{v:Value}{a a' :Act}(hy:fP G must ops i o v a)(he:execOp a'.eval o=execOp a.eval o)
    (hw:Region.wanted o (yielded ops a'.tmps)=Region.wanted o (yielded ops a.tmps)):fP G must ops i o v a' :=by
 unfold fP at *;rw[he,hw];exact hy
theorem aQI{i:Nat}{a:Act}{K K' :Act->Prop}(h:∀a,K a->K' a)(hh:sOp G must ops i K a):sOp G must ops i K' a:=by
 unfold sOp at *;cases ho:ops[i]? with
 | none=>simp only[ho]at hh ⊢;exact h _ hh
 | some o=>{
 simp only[ho]at hh ⊢;by_cases hw:Region.wanted o (yielded ops a.tmps)=true
 · rw[qD hw]at *;obtain⟨v,h1,h2⟩:=hh;exact⟨v,h1,h _ h2⟩
 · rw[qC hw]at *;exact⟨hh.1,h _ hh.2⟩}
theorem xU{i:Nat}{o:Oper}{a:Act}{K:Act->Prop}(hi:ops[i]? =some o)(h:sOp G must ops i K a):∃v,fP G must ops i o v a/\K (a.put o.dst v):=by
 unfold sOp at h;simp only[hi]at h;by_cases hw:Region.wanted o (yielded ops a.tmps)=true
 {
 rw[qD hw]at h;obtain⟨v,h1,h2⟩:=h;exact⟨v,.inl ⟨hw,h1⟩,h2⟩}
 {
 rw[qC hw]at h;exact⟨undef,.inr ⟨by simpa using hw,h.1,rfl⟩,h.2⟩}
theorem aUL{i j:Nat}{oi oj:Oper}{v:Value}(hj:ops[j]? =some oj)(hap:oi.apart ops oj=true)
    (hsi:∀cs b,oi.op≠.select cs b) (hsj:∀cs b,oj.op≠.select cs b) {K:Act->Prop} {a:Act}
    (hy:fP G must ops i oi v a) (h:sOp G must ops j K (a.put oi.dst v)):
    sOp G must ops j (fun a' =>fP G must ops i oi v a' /\ K (a'.put oi.dst v)) a:=by
 obtain⟨h1,h2,h3⟩:=Oper.apart_spec hap;have keep:∀(a:Act),fP G must ops i oi v a->∀u,fP G must ops i oi v (a.put oj.dst u):=fun a hy u=>
   hy.same (execOp_put oi hsi a oj.dst u h3) (wanted_put oi a oj.dst u h3)
 unfold sOp at *;simp only[hj]at *;rw[wanted_put oj a oi.dst v h1]at h;by_cases hw:Region.wanted oj (yielded ops a.tmps)=true
 {
 rw[qD hw]at *;obtain⟨u,hu,hn⟩:=h;rw[execOp_put oj hsj a oi.dst v h1]at hu;exact⟨u,hu,keep a hy u,by rw[<-Act.put_comm a v u h2];exact hn⟩}
 {
 rw[qC hw]at *;exact⟨h.1,keep a hy _,by rw[<-Act.put_comm a v undef h2];exact h.2⟩}
theorem aHC{Q:Act->Prop}{i:Nat}{oi:Oper}{v:Value}(hi:ops[i]? =some oi)(hsel:∀(j:Nat) (o:Oper) cs b,ops[j]? =some o->o.op≠.select cs b):
    ∀(fuel:Nat) (listed:Array Bool) (a:Act),
      (∀j oj,ops[j]? =some oj->j≠i->listed.getD j true=false->(∀e∈oj.after,Region.binds md e=true->e.on≠i)->oi.apart ops oj=true) ->
      i∈Region.ready md ops listed->fP G must ops i oi v a ->
      aLR G must md ops Q fuel (listed.setIfInBounds i true) (a.put oi.dst v)->aLR G must md ops Q (fuel+1) listed a:=by
  intro fuel;induction fuel with
  | zero=>
    intro listed a _ hr hy H;refine⟨fun h=>(by rw[h]at hr;cases hr),fun j hj=>?_⟩;by_cases hji:j=i
    · subst hji;exact hy.op hi H
    · have := ready_mono hj hji
      rw[H.1]at this;cases this
  | succ fuel ih=>
    intro listed a hfree hr hy H;refine⟨fun h=>(by rw[h]at hr;cases hr),fun j hj=>?_⟩;by_cases hji:j=i
    · subst hji;exact hy.op hi H
    · have h1 := H.2 j (ready_mono hj hji)
      obtain⟨hjun,oj,hoj,hall⟩:=mem_ready.1 hj;have hnot:∀e∈oj.after,Region.binds md e=true->e.on≠i:=fun e he hb heq=>by
        have h1:=hall e he hb;have h0:=(mem_ready.1 hr).1;rw[heq]at h1;rcases Nat.lt_or_ge i listed.size with h' | h'
        · simp[h']at h0 h1;rw[h0]at h1;cases h1
        · simp[Array.getElem?_eq_none h']at h1
      have h2:=aUL hoj (hfree j oj hoj hji hjun hnot) (fun cs b=>hsel i oi cs b hi) (fun cs b=>hsel j oj cs b hoj) hy h1
      have hfree' :∀k ok,ops[k]? =some ok->k≠i->(listed.setIfInBounds j true).getD k true=false ->
          (∀e∈ok.after,Region.binds md e=true->e.on≠i)->oi.apart ops ok=true:=fun k ok hk hki hun hno=>by
        refine hfree k ok hk hki ?_ hno;by_cases hjk:j=k
        · subst hjk;exact hjun
        · rw[getD_set_ne true hjk]at hun;exact hun
      refine aQI (fun a' h3=>ih (listed.setIfInBounds j true) a' hfree' (ready_mono hr (Ne.symm hji)) h3.1 ?_) h2;rw[Array.setIfInBounds_comm _ _ hji];exact h3.2
theorem aET{Q:Act->Prop}(hs:Region.noSelect ops=true):∀(l:List Oper) (k:Nat) (listed:Array Bool) (a:Act),(∀j,l[j]? =ops[k+j]?) ->
    Region.lexFrom md ops l.length k listed=true->wP G must ops Q k l a->aLR G must md ops Q l.length listed a
  | [],_,_,_,_,hB,h=>⟨by simpa[Region.lexFrom] using hB,h⟩
  | o::l,k,listed,a,hl,hB,h=>by
    have h0:ops[k]? =some o:=by simpa using (hl 0).symm
    simp only[zA,Region.lexFrom,qY]at hB;obtain⟨⟨hr,hf⟩,hB'⟩:=hB;have hst:sOp G must ops k (wP G must ops Q (k+1) l) a:=by unfold sOp;simp only[h0];exact h
    obtain⟨v,hy,hK⟩:=xU h0 hst
    exact aHC h0 (Region.noSelect_spec hs) l.length listed a (Region.free_spec h0 hf) (by simpa using hr) hy
      (aET hs l (k+1) _ _ (fun j=>by have:=hl (j+1);simpa[Nat.add_assoc,Nat.add_comm 1 j] using this) hB' hK)
end
def aEU(P:Program)(cs:List Nat)(C:Nat->World->Prop)(i:Nat)(s:Sem Go.Next)(v:Value):Prop:=
  if i∈cs then ∀w,C (cs.idxOf i) w->eY P (C (cs.idxOf i+1)) v (s.run P w) else ∀q w,C q w->Oper.quietUpon P (C q) w v (s.run P w)
section
variable {P:Program} {ops:Array Oper} {md:Region.Mode} {C:Nat->World->Prop} {cs:List Nat}
theorem aEV(hrow:rowB md ops cs=true)(hb:fU md ops=true){Q:Act->Prop}{Q' :Exit->Act->World->Prop}(hQ:∀a w,C cs.length w->Q a->Q' .normal a w):∀(fuel:Nat) (listed:Array Bool) (a:Act) (w:World),listed.size=ops.size ->
    tS md ops listed->C (cnt cs listed) w->aLR (aEU P cs C) (fun i=>decide (i∈cs)) md ops Q fuel listed a->wpAny P md ops Q' fuel listed a w:=by
 have hend:∀listed:Array Bool,listed.size=ops.size->Region.ready md ops listed=[]->cnt cs listed=cs.length:=by {
 intro listed hs h0;unfold cnt;rw[List.countP_eq_length];intro c hc;exact kD hs hb h0 c (aFP hrow c hc)};have hnd:cs.Nodup:=(kW hrow).imp (fun h=>Nat.ne_of_lt h);intro fuel;induction fuel with
 | zero=>{
 intro listed a w hs _ hp h;exact⟨h.1,hQ _ _ (by rw[hend listed hs h.1]at hp;exact hp) h.2⟩}
 | succ fuel ih=>{
 intro listed a w hs hsh hp h;refine⟨fun h0=>hQ _ _ (by rw[hend listed hs h0]at hp;exact hp) (h.1 h0),fun i hi=>?_⟩;have hg:=h.2 i hi;obtain⟨hun,oi,hoi,_⟩:=mem_ready.1 hi;have hil:i<ops.size:=(qM.1 hoi).1;have hs' :(listed.setIfInBounds i true).size=ops.size:=by simp[hs]
 have hl0:listed.getD i false=false:=by simp[hs,hil]at hun ⊢;exact hun
 have next:∀a' w', C (cnt cs (listed.setIfInBounds i true)) w' -> aLR (aEU P cs C) (fun i=>decide (i∈cs)) md ops Q fuel (listed.setIfInBounds i true) a' -> wpAny P md ops Q' fuel (listed.setIfInBounds i true) a' w' :=
   fun a' w' hp' hg' =>ih _ a' w' hs' (hsh.set hi) hp' hg'
 unfold sOp at hg;unfold wpOp;simp only[hoi]at hg ⊢;by_cases hmem:i∈cs
 {
 have hcs:=aHQ (L:=listed) (by omega) hl0 hnd hmem;have hidx:cs.idxOf i=cnt cs listed:=by {
 have hlt:=List.idxOf_lt_length_of_mem hmem;have hget:cs[cs.idxOf i]? =some i:=by rw[qL hlt,List.getElem_idxOf]
 have h1:=gR hsh hrow _ _ hget;rw[hl0]at h1;have hge:cnt cs listed<=cs.idxOf i:=by {
 apply qQ;intro hx;have:=h1.2 (by omega);cases this};have h2:=gR (hsh.set hi) hrow _ _ hget;rw[hcs]at h2;have h3:(listed.setIfInBounds i true).getD i false=true:=by simp[hs,hil]
 have:=h2.1 h3;omega};by_cases hw:Region.wanted oi (yielded ops a.tmps)=true
 {
 rw[qD hw]at hg ⊢;obtain⟨v,hv,hk⟩:=hg;unfold aEU at hv;rw[qD hmem,hidx]at hv;exact .inl (oX (fun w' hc' =>next _ w' (by rw[hcs];exact hc') hk) (hv w hp))}
 {
 rw[qC hw]at hg;exact absurd hmem (of_decide_eq_false hg.1)}}
 {
 have hcs:=yH (L:=listed) hmem;by_cases hw:Region.wanted oi (yielded ops a.tmps)=true
 {
 rw[qD hw]at hg ⊢;obtain⟨v,hv,hk⟩:=hg;unfold aEU at hv;left
 rw[qC hmem]at hv;exact oW hp (fun w' hc' =>next _ w' (by rw[hcs];exact hc') hk) (hv _ w hp)}
 {
 rw[qC hw]at hg ⊢;exact next _ w (by rw[hcs];exact hp) hg.2}}}
structure SW (P:Program) (ops:Array Oper) (cs:List Nat) (C:Nat->World->Prop) (Q:Act->Prop) (k:Nat) (l:List Oper) (a:Act):Prop where
  out:wP (aEU P cs C) (fun i=>decide (i∈cs)) ops Q k l a
theorem aLS(cs:List Nat){id:Nat}{Q:Exit->Act->World->Prop}{a:Act}{w:World}{l:List Oper}(C:Nat->World->Prop)(hm:P.follows .mixedOrders=true)(hB:Region.lexB .any l.toArray=true)(hk:(fU .any l.toArray&&rowB .any l.toArray cs)=true)
    (hC:C 0 w.drew) (h:SW P l.toArray cs C (fun a' =>∀w', C cs.length w' -> Q .normal a' w') 0 l a):(Code.region id l.toArray true).wp P Q a w:=by
 simp only[Region.lexB,qY]at hB;rw[qY]at hk;refine wp_region_any hm (aEV (Q:=fun a' =>∀w', C cs.length w' -> Q .normal a' w') (C:=C) (cs:=cs) hk.2 hk.1 (fun _ w' hw' h=>h w' hw') _ _ _ _ (by simp) ?_ ?_ ?_)
 · intro j oj _ hl;rw[eG]at hl;cases hl
 {
 have:cnt cs (Array.replicate l.toArray.size false)=0:=by unfold cnt;rw[List.countP_eq_zero];intro c _;rw[eG];simp
 rw[this];exact hC}
 {
 have:=aET (G:=aEU P cs C) (must:=fun i=>decide (i∈cs)) (md:=.any) hB.1 l 0 (Array.replicate l.toArray.size false) a (by simp) (by simpa using hB.2) h.out;simpa using this}
variable {Q:Act->Prop} {k:Nat} {o:Oper} {rest:List Oper} {a:Act}
theorem wQ(hk:decide (k∈cs)=false)(hw:Region.wanted o (yielded ops a.tmps)=true)(v:Value)
    (h0:∀q w,C q w->Oper.quietUpon P (C q) w v ((execOp a.eval o).run P w)) (h:SW P ops cs C Q (k+1) rest (a.put o.dst v)):SW P ops cs C Q k (o::rest) a:=by
 refine⟨?_⟩;unfold wP;rw[qD hw];refine⟨v,?_,h.out⟩;unfold aEU;rw[qC (of_decide_eq_false hk)];exact h0
theorem uC(hk:decide (k∈cs)=false)(hw:Region.wanted o (yielded ops a.tmps)=true)
    (h:∀K:Act->Prop,Hid (∀a,SW P ops cs C Q (k+1) rest a->K a)->Oper.pure_ P o a K):SW P ops cs C Q k (o::rest) a:=by
 obtain⟨v,h1,h2⟩:=h _ (qA fun a h=>h);refine wQ hk hw v (fun q w _=>?_) h2;have:=h1 w;unfold Oper.quietUpon;unfold Oper.quietAt at *;revert this;generalize (execOp a.eval o).run P w=r;intro this;cases r with
 | halt x w' =>exact this.elim
 | ok x w' =>{
 cases x with
 | value u=>exact⟨this.1,this.2⟩
 | skip=>exact⟨this.1,this.2⟩
 | _=>exact this.elim}
theorem aUM(q:Nat)(hk:(decide (k∈cs)&&decide (cs.idxOf k=q))=true)(hw:Region.wanted o (yielded ops a.tmps)=true)(v:Value)
    (h0:∀w,C q w->eY P (C (q+1)) v ((execOp a.eval o).run P w)) (h:SW P ops cs C Q (k+1) rest (a.put o.dst v)):SW P ops cs C Q k (o::rest) a:=by
 rw[qY]at hk;refine⟨?_⟩;unfold wP;rw[qD hw];refine⟨v,?_,h.out⟩;unfold aEU;rw[qD (of_decide_eq_true hk.1),of_decide_eq_true hk.2];exact h0
theorem aYP(h:Q a):SW P ops cs C Q k [] a:=⟨h⟩
end
theorem aQJ{x:Nat}(hx:x<=9223372036854775807)(w:World):
    Calls Tryz.prog 142 #[.int .i64 x] w fun e w' =>e=.returned (.agg #[.bool false,.int .u64 (wd x 0:Nat),.int .u64 (wd x 1:Nat),.int .u64 0,.int .u64 0,.int .u64 0,.int .u64 0])/\Fr [] w w' :=by
 have hw1:IntKind.u64.wrap (x:Int)=x:=by simp[IntKind.wrap,IntKind.bits,IntKind.signed];omega
 have hd0:decide ((x:Int)<0)=false:=qF (by omega);have ht3:(x:Int).tmod 4294967296=((wd x 0:Nat):Int):=by rw[Int.tmod_eq_emod_of_nonneg (by omega)];show _=((x%4294967296:Nat):Int);omega
 have ht4:(x:Int).tdiv 4294967296=((wd x 1:Nat):Int):=by rw[Int.tdiv_eq_ediv_of_nonneg (by omega)];show _=((x/4294967296:Nat):Int);omega
 have h0:=zV hx 0;have h1:=zV hx 1;have hm3:(x:Int)%4294967296=((wd x 0:Nat):Int):=by show _=((x%4294967296:Nat):Int);omega
 have hm4:(x:Int)/4294967296=((wd x 1:Nat):Int):=by show _=((x/4294967296:Nat):Int);omega
 generalize wd x 0=a at *;generalize wd x 1=b at *;have hw3:IntKind.u64.wrap (a:Int)=a:=by simp[IntKind.wrap,IntKind.bits,IntKind.signed];omega
 have hw4:IntKind.u64.wrap (b:Int)=b:=by simp[IntKind.wrap,IntKind.bits,IntKind.signed];omega
 clear h0 h1;go_enter Tryz.func142,Tryz.ntmps142
 go_wp2
 have hb:=(Blk.new w [.bool false,.int .u64 a,.int .u64 b,.int .u64 0,.int .u64 0,.int .u64 0,.int .u64 0] 207).alloc (.cells #[.bool false,.int .u64 a,.int .u64 b,.int .u64 0,.int .u64 0,.int .u64 0,.int .u64 0] 207);have r0:=hb.cell 0;have r1:=hb.cell 1;have r2:=hb.cell 2;have r3:=hb.cell 3;have r4:=hb.cell 4;have r5:=hb.cell 5;have r6:=hb.cell 6;simp only[zK,zL]at r0 r1 r2 r3 r4 r5 r6;exact bodyPost_ret (v:=.agg #[.bool false,.int .u64 a,.int .u64 b,.int .u64 0,.int .u64 0,.int .u64 0,.int .u64 0]) (by simp[results,Tryz.results142,go_sem,r0,r1,r2,r3,r4,r5,r6]) rfl ⟨rfl,((Fr.refl [] w).alloc _).alloc _⟩
theorem aYQ{x y:Nat}(hx:x<=9223372036854775807)(hy:y<=9223372036854775807)(w:World):
    Calls Tryz.prog 141 #[.agg #[.bool false,.int .u64 (wd x 0:Nat),.int .u64 (wd x 1:Nat),.int .u64 0,.int .u64 0,.int .u64 0,.int .u64 0],.agg #[.bool false,.int .u64 (wd y 0:Nat),.int .u64 (wd y 1:Nat),.int .u64 0,.int .u64 0,.int .u64 0,.int .u64 0]] w fun e w' =>e=.returned (.agg #[.bool false,.int .u64 (dig x y 0:Nat),.int .u64 (dig x y 1:Nat),.int .u64 (dig x y 2:Nat),.int .u64 (dig x y 3:Nat),.int .u64 (dig x y 4:Nat),.int .u64 (dig x y 5:Nat)])/\Fr [] w w' :=by
 obtain⟨w3,hw3⟩:∃w3,w3=((w.alloc (.cells #[.bool false,.int .u64 (wd x 0:Nat),.int .u64 (wd x 1:Nat),.int .u64 0,.int .u64 0,.int .u64 0,.int .u64 0] 207)).alloc (.cells #[.bool false,.int .u64 (wd y 0:Nat),.int .u64 (wd y 1:Nat),.int .u64 0,.int .u64 0,.int .u64 0,.int .u64 0] 207)).alloc (.cells #[.bool false,.int .u64 0,.int .u64 0,.int .u64 0,.int .u64 0,.int .u64 0,.int .u64 0] 207):=⟨_,rfl⟩;have ha:Blk w3 w.heap.size 207 [.bool false,.int .u64 (wd x 0:Nat),.int .u64 (wd x 1:Nat),.int .u64 0,.int .u64 0,.int .u64 0,.int .u64 0]:=by rw[hw3];exact((Blk.new w _ _).alloc _).alloc _
 have hb:Blk w3 (w.heap.size+1) 207 [.bool false,.int .u64 (wd y 0:Nat),.int .u64 (wd y 1:Nat),.int .u64 0,.int .u64 0,.int .u64 0,.int .u64 0]:=by {
 rw[hw3];have:=(Blk.new (w.alloc (.cells #[.bool false,.int .u64 (wd x 0:Nat),.int .u64 (wd x 1:Nat),.int .u64 0,.int .u64 0,.int .u64 0,.int .u64 0] 207)) [.bool false,.int .u64 (wd y 0:Nat),.int .u64 (wd y 1:Nat),.int .u64 0,.int .u64 0,.int .u64 0,.int .u64 0] 207).alloc (.cells #[.bool false,.int .u64 0,.int .u64 0,.int .u64 0,.int .u64 0,.int .u64 0,.int .u64 0] 207);simp only[World.size_alloc]at this;exact this};have hr:Blk w3 (w.heap.size+1+1) 207 [.bool false,.int .u64 0,.int .u64 0,.int .u64 0,.int .u64 0,.int .u64 0,.int .u64 0]:=by {
 rw[hw3];have:=Blk.new ((w.alloc (.cells #[.bool false,.int .u64 (wd x 0:Nat),.int .u64 (wd x 1:Nat),.int .u64 0,.int .u64 0,.int .u64 0,.int .u64 0] 207)).alloc (.cells #[.bool false,.int .u64 (wd y 0:Nat),.int .u64 (wd y 1:Nat),.int .u64 0,.int .u64 0,.int .u64 0,.int .u64 0] 207)) [.bool false,.int .u64 0,.int .u64 0,.int .u64 0,.int .u64 0,.int .u64 0,.int .u64 0] 207;simp only[World.size_alloc]at this;exact this};have hF0:Fr [] w w3:=by rw[hw3];exact(((Fr.refl [] w).alloc _).alloc _).alloc _
 have a0:=ha.cell 0;have a1:=ha.cell 1;have a2:=ha.cell 2;have a3:=ha.cell 3;have a4:=ha.cell 4;have a5:=ha.cell 5;have a6:=ha.cell 6;have b0:=hb.cell 0;have b1:=hb.cell 1;have b2:=hb.cell 2;have b3:=hb.cell 3;have b4:=hb.cell 4;have b5:=hb.cell 5;have b6:=hb.cell 6;simp only[zK,zL]at a0 a1 a2 a3 a4 a5 a6 b0 b1 b2 b3 b4 b5 b6;have HM:=qA (fun w=>aYO hx hy w);have HW3:=qA hw3;rw[hw3]at a0 b0;clear hw3;go_enter Tryz.func141,Tryz.ntmps141
 go_wp2_with fail
 rw[<-HW3.out];rw[<-HW3.out]at a0 b0;obtain⟨ba,hba⟩:∃ba,ba=w.heap.size:=⟨_,rfl⟩;rw[<-hba]at a0 a1 a2 a3 a4 a5 a6 b0 b1 b2 b3 b4 b5 b6 hr ⊢;obtain⟨br,hbr⟩:∃br,br=ba+1+1:=⟨_,rfl⟩;rw[<-hbr]at hr ⊢;have HNe:=qA (show ba∉[br]/\ba+1∉[br] from⟨fun h=>by have:=qH.1 h;omega,fun h=>by have:=qH.1 h;omega⟩);have H3:=qA (zJ hr (zJ hF0 (zJ hba hbr)));obtain⟨CX,hCX⟩:∃CX:Nat->World->Prop,CX=fun q w' =>match q with
   | 0=>Fr [br] w3 w' /\ Blk w' br 207 [.bool false,.int .u64 0,.int .u64 0,.int .u64 0,.int .u64 0,.int .u64 0,.int .u64 0]
   | _=>Fr [br] w3 w' /\ Blk w' br 207 [.bool false,.int .u64 (dig x y 0:Nat),.int .u64 (dig x y 1:Nat),.int .u64 (dig x y 2:Nat),.int .u64 (dig x y 3:Nat),.int .u64 (dig x y 4:Nat),.int .u64 (dig x y 5:Nat)]:=⟨_,rfl⟩
 have HCF:=qA (show ∀q w', CX q w' -> Fr [br] w3 w' from fun q w' h=>by
   rw[hCX]at h;match q,h with
   | 0,h=>exact h.1
   | n+1,h=>exact h.1)
 have HB0:=qA (show ∀w', CX 0 w' -> Fr [br] w3 w' /\ Blk w' br 207 [.bool false,.int .u64 0,.int .u64 0,.int .u64 0,.int .u64 0,.int .u64 0,.int .u64 0] from fun w' h=>by rw[hCX]at h;exact h);have HB1:=qA (show ∀w', CX 1 w' -> Fr [br] w3 w' /\ Blk w' br 207 [.bool false,.int .u64 (dig x y 0:Nat),.int .u64 (dig x y 1:Nat),.int .u64 (dig x y 2:Nat),.int .u64 (dig x y 3:Nat),.int .u64 (dig x y 4:Nat),.int .u64 (dig x y 5:Nat)] from fun w' h=>by rw[hCX]at h;exact h);have HC0:=qA (show CX 0 w3.drew by rw[hCX];exact⟨(Fr.refl _ w3).drew,hr.drew⟩);have HMr:=qA (show ∀q w', CX q w' -> Calls Tryz.prog 181 #[.agg #[.int .u64 (wd x 0:Nat),.int .u64 (wd x 1:Nat),.int .u64 0,.int .u64 0,.int .u64 0,.int .u64 0],.agg #[.int .u64 (wd y 0:Nat),.int .u64 (wd y 1:Nat),.int .u64 0,.int .u64 0,.int .u64 0,.int .u64 0]] w' fun e w'' =>e=.returned (.agg #[.int .u64 (dig x y 0:Nat),.int .u64 (dig x y 1:Nat),.int .u64 (dig x y 2:Nat),.int .u64 (dig x y 3:Nat),.int .u64 (dig x y 4:Nat),.int .u64 (dig x y 5:Nat)])/\CX q w'' from fun q w' h=>(HM.out w').mono fun e w'' k=>⟨k.1,by
   rw[hCX]at h ⊢;match q,h with
   | 0,h=>exact⟨h.1.trans k.2 (by simp),k.2.blk h.2 (by simp)⟩
   | n+1,h=>exact⟨h.1.trans k.2 (by simp),k.2.blk h.2 (by simp)⟩⟩)
 have HSt:=qA (show ∀w', CX 0 w' -> CX 1 (((((((w'.setCell ⟨br,0,none⟩ (.bool false)).setCell ⟨br,1,none⟩ (.int .u64 (dig x y 0:Nat))).setCell ⟨br,2,none⟩ (.int .u64 (dig x y 1:Nat))).setCell ⟨br,3,none⟩ (.int .u64 (dig x y 2:Nat))).setCell ⟨br,4,none⟩ (.int .u64 (dig x y 3:Nat))).setCell ⟨br,5,none⟩ (.int .u64 (dig x y 4:Nat))).setCell ⟨br,6,none⟩ (.int .u64 (dig x y 5:Nat))) from fun w' h=>by
   rw[hCX]at h ⊢;obtain⟨h1,h2⟩:=h;exact⟨(((((((h1.setCell ⟨br,0,none⟩ (.bool false) (.inl (by simp))).setCell ⟨br,1,none⟩ (.int .u64 (dig x y 0:Nat)) (.inl (by simp))).setCell ⟨br,2,none⟩ (.int .u64 (dig x y 1:Nat)) (.inl (by simp))).setCell ⟨br,3,none⟩ (.int .u64 (dig x y 2:Nat)) (.inl (by simp))).setCell ⟨br,4,none⟩ (.int .u64 (dig x y 3:Nat)) (.inl (by simp))).setCell ⟨br,5,none⟩ (.int .u64 (dig x y 4:Nat)) (.inl (by simp))).setCell ⟨br,6,none⟩ (.int .u64 (dig x y 5:Nat)) (.inl (by simp))),((((((h2.set 0 (.bool false)).set 1 (.int .u64 (dig x y 0:Nat))).set 2 (.int .u64 (dig x y 1:Nat))).set 3 (.int .u64 (dig x y 2:Nat))).set 4 (.int .u64 (dig x y 3:Nat))).set 5 (.int .u64 (dig x y 4:Nat))).set 6 (.int .u64 (dig x y 5:Nat))⟩)
 clear hr hF0 hba hbr hCX ha hb HM HW3;refine aLS [8] CX (by kernel_rfl) (by kernel_rfl) (by kernel_rfl) HC0.out ?_;iterate 1 (refine uC (by decide) (by kernel_rfl) (fun KK hK=>?_);go_simp;refine hK.out _ ?_;clear hK KK)
 refine wQ (by decide) (by kernel_rfl) (.bool false) (fun q w' hw' =>?_) ?_
 {
 have c0:=(HCF.out q w' hw').cell a0 HNe.out.1;have c1:=(HCF.out q w' hw').cell a1 HNe.out.1;have c2:=(HCF.out q w' hw').cell a2 HNe.out.1;have c3:=(HCF.out q w' hw').cell a3 HNe.out.1;have c4:=(HCF.out q w' hw').cell a4 HNe.out.1;have c5:=(HCF.out q w' hw').cell a5 HNe.out.1;have c6:=(HCF.out q w' hw').cell a6 HNe.out.1;go_simp;first|done|exact hw' | exact⟨rfl,hw'⟩};iterate 1 (refine uC (by decide) (by kernel_rfl) (fun KK hK=>?_);go_simp;refine hK.out _ ?_;clear hK KK)
 refine wQ (by decide) (by kernel_rfl) (.agg #[.int .u64 (wd x 0:Nat),.int .u64 (wd x 1:Nat),.int .u64 0,.int .u64 0,.int .u64 0,.int .u64 0]) (fun q w' hw' =>?_) ?_
 {
 have c0:=(HCF.out q w' hw').cell a0 HNe.out.1;have c1:=(HCF.out q w' hw').cell a1 HNe.out.1;have c2:=(HCF.out q w' hw').cell a2 HNe.out.1;have c3:=(HCF.out q w' hw').cell a3 HNe.out.1;have c4:=(HCF.out q w' hw').cell a4 HNe.out.1;have c5:=(HCF.out q w' hw').cell a5 HNe.out.1;have c6:=(HCF.out q w' hw').cell a6 HNe.out.1;go_simp;first|done|exact hw' | exact⟨rfl,hw'⟩};iterate 1 (refine uC (by decide) (by kernel_rfl) (fun KK hK=>?_);go_simp;refine hK.out _ ?_;clear hK KK)
 refine wQ (by decide) (by kernel_rfl) (.agg #[.int .u64 (wd y 0:Nat),.int .u64 (wd y 1:Nat),.int .u64 0,.int .u64 0,.int .u64 0,.int .u64 0]) (fun q w' hw' =>?_) ?_
 {
 have c0:=(HCF.out q w' hw').cell b0 HNe.out.2;have c1:=(HCF.out q w' hw').cell b1 HNe.out.2;have c2:=(HCF.out q w' hw').cell b2 HNe.out.2;have c3:=(HCF.out q w' hw').cell b3 HNe.out.2;have c4:=(HCF.out q w' hw').cell b4 HNe.out.2;have c5:=(HCF.out q w' hw').cell b5 HNe.out.2;have c6:=(HCF.out q w' hw').cell b6 HNe.out.2;go_simp;first|done|exact hw' | exact⟨rfl,hw'⟩};refine wQ (by decide) (by kernel_rfl) (.agg #[.int .u64 (dig x y 0:Nat),.int .u64 (dig x y 1:Nat),.int .u64 (dig x y 2:Nat),.int .u64 (dig x y 3:Nat),.int .u64 (dig x y 4:Nat),.int .u64 (dig x y 5:Nat)]) (fun q w' hw' =>?_) ?_
 {
 go_simp;exact HMr.out q w' hw'};iterate 1 (refine uC (by decide) (by kernel_rfl) (fun KK hK=>?_);go_simp;refine hK.out _ ?_;clear hK KK)
 refine aUM 0 (by decide) (by kernel_rfl) (undef) (fun w' hw' =>?_) ?_
 {
 obtain⟨hF,hbx⟩:=HB0.out w' hw';have e0:=hbx.cell 0;have z0:=hbx.frozen 0;have e1:=hbx.cell 1;have z1:=hbx.frozen 1;have e2:=hbx.cell 2;have z2:=hbx.frozen 2;have e3:=hbx.cell 3;have z3:=hbx.frozen 3;have e4:=hbx.cell 4;have z4:=hbx.frozen 4;have e5:=hbx.cell 5;have z5:=hbx.frozen 5;have e6:=hbx.cell 6;have z6:=hbx.frozen 6;simp only[zK,zL]at e0 e1 e2 e3 e4 e5 e6;unfold eY;go_simp;exact HSt.out w' hw'};refine aYP ?_;intro w6 hC6;obtain⟨hF6,hb6⟩:=HB1.out w6 hC6;have r0:=hb6.cell 0;have r1:=hb6.cell 1;have r2:=hb6.cell 2;have r3:=hb6.cell 3;have r4:=hb6.cell 4;have r5:=hb6.cell 5;have r6:=hb6.cell 6;simp only[zK,zL]at r0 r1 r2 r3 r4 r5 r6;have HFe:=qA (H3.out.2.1.trans hF6 (fun b hb=>.inr (by rw[qH.1 hb,H3.out.2.2.2,<-H3.out.2.2.1];omega)));clear a0 a1 a2 a3 a4 a5 a6 b0 b1 b2 b3 b4 b5 b6 hC6 hF6 hb6 HSt HMr HC0 HB0 HB1 HCF H3;go_wp2
 exact bodyPost_ret (v:=.agg #[.bool false,.int .u64 (dig x y 0:Nat),.int .u64 (dig x y 1:Nat),.int .u64 (dig x y 2:Nat),.int .u64 (dig x y 3:Nat),.int .u64 (dig x y 4:Nat),.int .u64 (dig x y 5:Nat)]) (by simp[results,Tryz.results141,go_sem,r0,r1,r2,r3,r4,r5,r6]) rfl ⟨rfl,HFe.out⟩
theorem bAB{x y:Nat}(hx:x<=9223372036854775807)(hy:y<=9223372036854775807)(w:World):
    Calls Tryz.prog 180 #[.agg #[.bool false,.int .u64 (dig x y 0:Nat),.int .u64 (dig x y 1:Nat),.int .u64 (dig x y 2:Nat),.int .u64 (dig x y 3:Nat),.int .u64 (dig x y 4:Nat),.int .u64 (dig x y 5:Nat)]] w fun e w' =>e=.returned (.tuple #[.int .i64 (iN x y),.bool (decide (x+y<=9223372036854775807))])/\Fr [] w w' :=by
 obtain⟨h1,h2,h3,h4,h5⟩:=aUK hx hy;rw[h2,h3,h4,h5];have l0:dig x y 0<4294967296:=Nat.mod_lt _ (by omega);have l1:dig x y 1<4294967296:=Nat.mod_lt _ (by omega);clear h2 h3 h4 h5;generalize dig x y 0=a at *;generalize dig x y 1=b at *;obtain⟨s,hs⟩:∃s,s=x+y:=⟨_,rfl⟩;rw[<-hs]at h1 ⊢;have hw1:IntKind.u64.wrap ((b:Int)*4294967296+a)=(s:Int):=by rw[<-h1];simp[IntKind.wrap,IntKind.bits,IntKind.signed];omega
 have hw2:IntKind.u64.wrap ((b:Int)*4294967296)=(b:Int)*4294967296:=by simp[IntKind.wrap,IntKind.bits,IntKind.signed];omega
 have hb:=Blk.new w [.bool false,.int .u64 a,.int .u64 b,.int .u64 0,.int .u64 0,.int .u64 0,.int .u64 0] 207;have r0:=hb.cell 0;have r1:=hb.cell 1;have r2:=hb.cell 2;have r3:=hb.cell 3;have r4:=hb.cell 4;have r5:=hb.cell 5;have r6:=hb.cell 6;simp only[zK,zL]at r0 r1 r2 r3 r4 r5 r6;have HF:=qA ((Fr.refl [] w).alloc (.cells #[.bool false,.int .u64 a,.int .u64 b,.int .u64 0,.int .u64 0,.int .u64 0,.int .u64 0] 207));have hsum:((x:Int)+y)=(s:Int):=by omega
 by_cases hle:s<=9223372036854775807
 {
 have e1:iN x y=(s:Int):=by unfold iN;rw[qD (by omega)];exact hsum
 have e2:decide (s<=9223372036854775807)=true:=qG hle;rw[e1,e2];have d1:decide ((s:Int)>9223372036854775807)=false:=qF (by omega);have hw3:IntKind.i64.wrap (s:Int)=s:=by simp[IntKind.wrap,IntKind.bits,IntKind.signed];omega
 clear e1 e2 hsum hle hs h1 hb;go_enter Tryz.func180,Tryz.ntmps180
 go_wp2
 go_ret2;exact⟨rfl,HF.out⟩}
 {
 have e1:iN x y=0:=by unfold iN;exact qC (by omega)
 have e2:decide (s<=9223372036854775807)=false:=qF hle;rw[e1,e2];have d1:decide ((s:Int)>9223372036854775807)=true:=qG (by omega);clear e1 e2 hsum hle hs h1 hb;go_enter Tryz.func180,Tryz.ntmps180
 go_wp2
 go_ret2;exact⟨rfl,HF.out⟩}
theorem bAC{x y:Nat}(hx:x<=9223372036854775807)(hy:y<=9223372036854775807)(w:World):
    Calls Tryz.prog 140 #[.agg #[.bool false,.int .u64 (dig x y 0:Nat),.int .u64 (dig x y 1:Nat),.int .u64 (dig x y 2:Nat),.int .u64 (dig x y 3:Nat),.int .u64 (dig x y 4:Nat),.int .u64 (dig x y 5:Nat)]] w fun e w' =>e=.returned (.tuple #[.int .i64 (iN x y),.int .i64 (gJ x y)])/\Fr [] w w' :=by
 have HI:=qA (fun w=>bAB hx hy w);have hb:=Blk.new w [.bool false,.int .u64 (dig x y 0:Nat),.int .u64 (dig x y 1:Nat),.int .u64 (dig x y 2:Nat),.int .u64 (dig x y 3:Nat),.int .u64 (dig x y 4:Nat),.int .u64 (dig x y 5:Nat)] 207;have r0:=hb.cell 0;have r1:=hb.cell 1;have r2:=hb.cell 2;have r3:=hb.cell 3;have r4:=hb.cell 4;have r5:=hb.cell 5;have r6:=hb.cell 6;simp only[zK,zL]at r0 r1 r2 r3 r4 r5 r6;have HF:=qA ((Fr.refl [] w).alloc (.cells #[.bool false,.int .u64 (dig x y 0:Nat),.int .u64 (dig x y 1:Nat),.int .u64 (dig x y 2:Nat),.int .u64 (dig x y 3:Nat),.int .u64 (dig x y 4:Nat),.int .u64 (dig x y 5:Nat)] 207));clear hb;by_cases hle:x+y<=9223372036854775807
 {
 have e2:decide (x+y<=9223372036854775807)=true:=qG hle;have e3:gJ x y=0:=by unfold gJ;exact qD (by omega)
 rw[e2]at HI;rw[e3];clear e2 e3 hle;generalize iN x y=sv at *;go_enter Tryz.func140,Tryz.ntmps140
 go_wp2_with fail
 refine(HI.out _).mono ?_;rintro _ w2 ⟨rfl,hF⟩;have HF2:=qA (HF.out.trans' hF);clear hF;go_wp2
 go_ret2;exact⟨rfl,HF2.out⟩}
 {
 have e2:decide (x+y<=9223372036854775807)=false:=qF hle;have e3:gJ x y=7:=by unfold gJ;exact qC (by omega)
 have e1:iN x y=0:=by unfold iN;exact qC (by omega)
 rw[e2,e1]at HI;rw[e3,e1];clear e1 e2 e3 hle;go_enter Tryz.func140,Tryz.ntmps140
 go_wp2_with fail
 refine(HI.out _).mono ?_;rintro _ w2 ⟨rfl,hF⟩;have HF2:=qA (HF.out.trans' hF);clear hF;go_wp2
 go_ret2;exact⟨rfl,HF2.out⟩}
theorem aJC{x y:Int}(hx0:0<=x)(hx:x<=9223372036854775807)(hy0:0<=y)(hy:y<=9223372036854775807)(w:World):
    Calls Tryz.prog 95 #[.int .i64 x,.int .i64 y] w fun e w' =>e=.returned (.tuple #[.int .i64 (iN x y),.int .i64 (gJ x y)])/\Fr [] w w' :=by
 obtain⟨x,rfl⟩:=Int.eq_ofNat_of_zero_le hx0;obtain⟨y,rfl⟩:=Int.eq_ofNat_of_zero_le hy0;have H1:=qA (fun w=>aQJ (x:=x) (by omega) w);have H2:=qA (fun w=>aQJ (x:=y) (by omega) w);have H3:=qA (fun w=>aYQ (x:=x) (y:=y) (by omega) (by omega) w);have H4:=qA (fun w=>bAC (x:=x) (y:=y) (by omega) (by omega) w);clear hx0 hx hy0 hy;generalize iN x y=sv at *;generalize gJ x y=sc at *;go_enter Tryz.func95,Tryz.ntmps95
 go_wp2_with fail
 refine(H1.out _).mono ?_;rintro _ w1 ⟨rfl,hF⟩;have HF1:=qA hF;clear hF;go_wp2_with fail
 refine(H2.out _).mono ?_;rintro _ w2 ⟨rfl,hF⟩;have HF2:=qA (HF1.out.trans' hF);clear hF;go_wp2_with fail
 refine(H3.out _).mono ?_;rintro _ w3 ⟨rfl,hF⟩;have HF3:=qA (HF2.out.trans' hF);clear hF;go_wp2_with fail
 refine(H4.out _).mono ?_;rintro _ w4 ⟨rfl,hF⟩;have HF4:=qA (HF3.out.trans' hF);clear hF;go_wp2
 go_ret2;exact⟨rfl,HF4.out⟩
def rfC(o:Ob)(v:Value):List Value:=[.bool true,.int .i64 o.m,.int .i64 o.E,.int .i64 o.V,.int .i64 o.D,.int .i64 o.now,v,.int .u64 o.last,.int .u64 o.gone]
def RfAt(w:World)(pr:Nat)(o:Ob)(K:List Nat):Prop:=∃a c,Blk w pr 102 (rfC o (.slice a o.L.length c))/\bH w (.slice a o.L.length c) o.L/\(∀q,(Value.slice a o.L.length c).ownBlock=some q->q≠pr)/\K=pr::(Value.slice a o.L.length c).ownBlock.toList
def thF(p:Nat)(o:Ob):Th:=⟨fun w K=>RfAt w p o K,
  fun⟨a,c,h1,h2,h3,e⟩ q hq=>by
    rw[e]at hq;rcases qB.1 hq with rfl|hq
    · exact h1.lt
    · exact h2.lt (by simpa using hq),
  fun⟨a,c,h1,h2,h3,e⟩ hf hs=>⟨a,c,hf.blk h1 (hs _ (by simp[e])),h2.fr hf (fun q hq=>hs q (by rw[e];simp[hq])),h3,e⟩⟩
section
variable {W wr w w' :World} {p:Nat} {o:Ob} {ts:List Th} {a:Option Addr} {c n:Nat}
theorem wR(h:Blk w p 102 (rfC o (.slice a n c))):Calls Tryz.prog 58 #[cE p] w fun e w' =>e=.returned (.bool true)/\w' =w:=by
 have c0:=h.cell 0;simp only[rfC,zK]at c0;clear h;go_enter Tryz.func58,Tryz.ntmps58
 go_wp2
 go_ret;exact⟨rfl,rfl⟩
theorem aYR(h:Wd W wr (thF p o::ts)):Calls Tryz.prog 30 #[cE p] wr fun e w' =>e=.returned (.int .i64 o.now)/\w' =wr:=by
 obtain⟨K,a,c,h1,_⟩:=h.get;have HV:=qA (wR h1);have c5:=h1.cell 5;simp only[rfC,zK,zL]at c5;clear h1 h;go_enter Tryz.func30,Tryz.ntmps30
 go_wp2_with fail
 refine HV.out.mono ?_;rintro _ w ⟨rfl,rfl⟩;go_wp2
 go_ret;exact⟨rfl,rfl⟩
theorem aQK(h:Wd W wr (thF p o::ts)):Calls Tryz.prog 26 #[cE p] wr fun e w' =>e=.returned (.tuple #[.int .u64 o.last,.int .u64 o.gone])/\Fr [] wr w' :=by
 obtain⟨K,a,c,h1,_⟩:=h.get;have HV:=qA (wR h1);have c7:=h1.cell 7;have c8:=h1.cell 8;simp only[rfC,zK,zL]at c7 c8;clear h1 h;go_enter Tryz.func26,Tryz.ntmps26
 go_wp2_with fail
 refine HV.out.mono ?_;rintro _ w ⟨rfl,rfl⟩;go_wp2_with fail
 go_quiet (fail)
 go_wp2
 go_ret2;exact⟨rfl,(Fr.refl _ _).drewN _⟩
theorem aLT(h:Wd W wr (thF p o::ts)):Calls Tryz.prog 32 #[cE p] wr fun e w' =>e=.returned (.agg #[.int .i64 o.m,.int .i64 o.E,.int .i64 o.V,.int .i64 o.D])/\Fr [] wr w' :=by
 obtain⟨K,a,c,h1,_⟩:=(h.fr0 ((Fr.refl [] wr).alloc (.cells #[.int .i64 0,.int .i64 0,.int .i64 0,.int .i64 0] 31))).get;have HV:=qA (wR h1);have c1:=h1.cell 1;have c2:=h1.cell 2;have c3:=h1.cell 3;have c4:=h1.cell 4;have hb:=Blk.new wr [.int .i64 o.m,.int .i64 o.E,.int .i64 o.V,.int .i64 o.D] 31;have r0:=hb.cell 0;have r1:=hb.cell 1;have r2:=hb.cell 2;have r3:=hb.cell 3;simp only[rfC,zK,zL]at c1 c2 c3 c4 r0 r1 r2 r3;have HF:=qA ((Fr.refl [] wr).alloc (.cells #[.int .i64 o.m,.int .i64 o.E,.int .i64 o.V,.int .i64 o.D] 31));clear h h1 hb;go_enter Tryz.func32,Tryz.ntmps32
 go_wp2_with fail
 refine HV.out.mono ?_;rintro _ _ ⟨rfl,rfl⟩;go_wp2
 exact bodyPost_ret (v:=.agg #[.int .i64 o.m,.int .i64 o.E,.int .i64 o.V,.int .i64 o.D]) (by simp[results,Tryz.results32,go_sem,r0,r1,r2,r3]) rfl ⟨rfl,HF.out⟩
theorem aHD(l:List Lv):∀u∈rowV l,u.oneCell' =true:=uY l
theorem aJD(h:Wd W wr (thF p o::ts))(hl:o.L.length<=16384):Calls Tryz.prog 35 #[cE p] wr fun e w' =>∃a c,e=.returned (.slice a o.L.length c)/\Wd W w' (thV (.slice a o.L.length c) o.L::thF p o::ts):=by
  obtain⟨K,a,c,h1,h2,_⟩:=h.get;have HV:=qA (wR h1);have c6:=h1.cell 6;simp only[rfC,zK,zL]at c6;have HW:=qA h;have HR:=qA (h2.fr0 ((Fr.refl [] wr).alloc (.cells #[] 74)));obtain⟨n,hn⟩:∃n,n=o.L.length:=⟨_,rfl⟩;rw[<-hn]at c6 HR hl ⊢;have Hn:=qA hn;clear h h1 h2 hn;go_enter Tryz.func35,Tryz.ntmps35
  go_wp2_with fail
  refine HV.out.mono ?_;rintro _ w ⟨rfl,rfl⟩;have c6:=((Fr.refl [] w).alloc (.cells #[] 74)).cell c6 (by simp)
  have HM:=qA (show ∀(v1:Value) (w1:World),w1.ownsRow 0 74 7 v1 n (rowV o.L)->Fr [w.heap.size] (w.alloc (.cells #[] 74)) w1->(∀q,v1.ownBlock=some q->q=w.heap.size∨(w.alloc (.cells #[] 74)).heap.size<=q) ->
      Wd W w1 (thV v1 o.L::thF p o::ts) from fun v1 w1 hown1 hF1 hq1=>by
    have hs0:(w.alloc (.cells #[] 74)).heap.size=w.heap.size+1:=by simp
    have hF:Fr [] w w1:=((Fr.refl [] w).alloc _).trans hF1 (fun b hb=>.inr (Nat.le_of_eq (qH.1 hb).symm));have hr:bH w1 v1 o.L:=by unfold bH;rw[<-Hn.out];exact hown1
    refine HW.out.new hF ⟨hr,rfl⟩ (fun q hq=>?_);rcases hq1 q (by simpa using hq) with e|e<;>omega)
  have HOw:=qA (show World.ownsRow (w.alloc (.cells #[] 74)) 0 74 7 (.slice a n c) n (rowV o.L) by
    have:=HR.out;unfold bH at this;rw[<-Hn.out]at this;exact this)
  go_wp2_with (at_builtin;refine oS rfl _ _ 59 rfl 74 oY 7 56 (by kernel_rfl) (by kernel_rfl) rfl (by decide) w.heap.size rfl (Blk.new w [] _) (.slice a n c) n (rowV o.L) rfl HOw.out (aHD o.L) (by unfold maxLen;omega) (by omega) ?_;intro v1 w1 hown1 hF1 hq1;have HN:=qA (HM.out v1 w1 hown1 hF1 hq1);obtain⟨a1,c1,rfl⟩:=aQ hown1;clear hown1 hF1 hq1 HM HOw)
  go_wp2
  go_ret;exact⟨a1,c1,rfl,HN.out⟩
end
section
variable {W wr w w' :World} {p:Nat} {o:Ob} {ts:List Th} {a:Option Addr} {c n:Nat}
theorem Ob.lenE(hok:o.Ok):o.L.length<=16384:=by have:=hok.leE;have:=hok.mE;omega
theorem aJE(h:Wd W wr (thF p o::ts))(hok:o.Ok)(to:Int)(ht2:to<=9223372036854775807):
    Calls Tryz.prog 68 #[cE p,.int .i64 to] wr fun e w' =>e=.returned (.int .i64 (cY o.m o.now to))/\Wd W w' (thF p (o.tickS to)::ts):=by
 obtain⟨K,⟨a,c,h1,h2,h3,rfl⟩,hs⟩:=h.open;have HV:=qA (wR h1);have c1:=h1.cell 1;have c5:=h1.cell 5;have c6:=h1.cell 6;simp only[rfC,zK,zL]at c1 c5 c6;by_cases hlt:to<o.now
 {
 have e1:cY o.m o.now to=10:=by unfold cY;exact qD hlt
 have e2:o.tickS to=o:=by unfold Ob.tickS;rw[e1];exact qC (by omega)
 rw[e1,e2];have d1:decide (to<o.now)=true:=qG hlt;have HW:=qA h;clear h hs h1 h2 h3 e1 e2 hlt;go_enter Tryz.func68,Tryz.ntmps68
 go_wp2_with fail
 refine HV.out.mono ?_;rintro _ _ ⟨rfl,rfl⟩;go_wp2
 go_ret;exact⟨rfl,HW.out⟩}
 {
 have d1:decide (to<o.now)=false:=qF hlt;have HA:=qA (aJC (x:=to) (y:=o.m) (by have:=hok.n0;omega) ht2 (by have:=hok.m1;omega) hok.m2 wr);by_cases hov:to+o.m<=9223372036854775807
 {
 have e0:gJ to o.m=0:=qD hov;have e1:cY o.m o.now to=0:=by unfold cY;rw[qC hlt];exact e0
 have e2:o.tickS to=o.tick to:=by unfold Ob.tickS;exact qD e1
 rw[e0]at HA;rw[e1,e2];have HL:=qA (fun(w' :World) (hf:Fr [] wr w')=>aJB (h2.fr0 hf) (Ob.lenE hok) to);have HB:=qA (zJ h1 (zJ h2 h3));have HS:=qA (fun(w' :World) (t' :Th) (k:Stp wr w' (p::(Value.slice a o.L.length c).ownBlock.toList) t')=>hs k);obtain⟨n,hn⟩:∃n,n=o.L.length:=⟨_,rfl⟩;rw[<-hn]at c6;have hll:=Ob.lenE hok;have hlast:=hok.last;have hmax:=hok.max;rw[<-hn]at hll hlast;have hfl:(o.left to).length<=n:=by rw[hn];exact List.length_filter_le _ _
 have Hn:=qA (zJ hn (zJ hlast hmax));clear h hs h1 h2 h3 e0 e1 e2 hlt hov hn hlast hmax;generalize iN to o.m=sv at *;go_enter Tryz.func68,Tryz.ntmps68
 go_wp2_with fail
 refine HV.out.mono ?_;rintro _ wr ⟨rfl,rfl⟩;go_wp2_with fail
 refine HA.out.mono ?_;rintro _ w2 ⟨rfl,hF2⟩;have c6:=hF2.cell c6 (by simp);have HL2:=qA (HL.out w2 hF2);rw[<-Hn.out.1]at HL2;have HF2:=qA hF2;clear hF2 HL HA HV c1 c5;go_wp2_with fail
 refine HL2.out.mono ?_;rintro _ w3 ⟨v3,rfl,hr3,hF3,hq3⟩;obtain⟨a3,c3,rfl⟩:=hr3.slice;obtain⟨m3,hm3⟩:∃m3,m3=(o.left to).length:=⟨_,rfl⟩;rw[show(o.L.filter fun e=>decide (to<e.x)).length=(o.left to).length from rfl,<-hm3]at hr3 hq3 ⊢;rw[<-hm3]at hfl;have hF03:=HF2.out.trans' hF3;have hb3:=hF03.blk HB.out.1 (by simp);have hq3:∀q,(Value.slice a3 m3 c3).ownBlock=some q->wr.heap.size<=q:=fun q hq=>zI HF2.out.size (hq3 q hq);have H3:=qA (zJ hr3 (zJ hF03 (zJ hq3 (zJ hb3 hm3))));have c6:=hb3.cell 6;have c8:=hb3.cell 8;have z8:=hb3.frozen 8;simp only[rfC,zK,zL]at c6 c8;rw[<-Hn.out.1]at c6;have hw1:IntKind.i64.wrap ((n:Int)-m3)=((n-m3:Nat):Int):=by simp[IntKind.wrap,IntKind.bits,IntKind.signed];omega
 have hw2:IntKind.u64.wrap (((n-m3:Nat):Int))=((n-m3:Nat):Int):=by simp[IntKind.wrap,IntKind.bits,IntKind.signed];omega
 have hgl:o.gone+(n-m3)<=9223372036854775807:=by have h1:=Hn.out.2.1;have h2:=Hn.out.2.2;omega
 have hw3:IntKind.u64.wrap ((o.gone:Int)+((n-m3:Nat):Int))=((o.gone+(n-m3):Nat):Int):=by simp[IntKind.wrap,IntKind.bits,IntKind.signed];omega
 clear hr3 hF03 hb3 hF3 hq3 hm3 HF2 HL2 hgl;obtain⟨d,hd⟩:∃d,d=n-m3:=⟨_,rfl⟩;rw[<-hd]at hw1 hw2 hw3;obtain⟨g', hg'⟩:∃g', g' =o.gone+d:=⟨_,rfl⟩;rw[<-hg']at hw3;have Hd:=qA (zJ hd hg');clear hd hg';go_wp2_with fail
 refine bE 17 (fun w' =>Fr [p] w3 w' /\ Blk w' p 102 (rfC { o with gone:=g' } (.slice a n c))) (by kernel_rfl) (by kernel_rfl) (by kernel_rfl) ?_;iterate 17 (refine bO (by decide) (fun K hK=>?_);go_simp;refine hK _ ?_;clear hK K)
 refine aW rfl undef (fun w' hw' =>?_) ?_
 {
 obtain⟨nq,rfl⟩:=hw';go_simp;refine⟨((Fr.refl _ w3).drewN nq).setCell _ _ (.inl (by simp)),?_⟩;have:=(H3.out.2.2.2.1.drewN nq).set 8 (.int .u64 g');rw[<-Hn.out.1]at this;exact this};refine bP ?_;rintro w4 ⟨hF4,hb4⟩;have x6:=hb4.cell 6;have y6:=hb4.frozen 6;have hb5:=hb4.set 6 (.slice a3 m3 c3);have x5:=hb5.cell 5;have y5:=hb5.frozen 5;have hb6:=hb5.set 5 (.int .i64 to);simp only[rfC,zK,zL,qZ,qV]at x6 x5 hb6;have H6:=qA (zJ hF4 hb6);clear hF4 hb4 hb5 hb6 c6 c8 z8 hw1 hw2 hw3;go_wp2
 go_ret;obtain⟨hr3,hF03,hq3,hb3,hm3⟩:=H3.out;have hFe:Fr [p] w3 ((w4.setCell ⟨p,6,none⟩ (.slice a3 m3 c3)).setCell ⟨p,5,none⟩ (.int .i64 to)):=(H6.out.1.setCell _ _ (.inl (by simp))).setCell _ _ (.inl (by simp));have hlt:=HB.out.1.lt;have hs1:=hF03.size;have hml:(o.tick to).L.length=m3:=hm3.symm;refine⟨rfl,HS.out _ _ ⟨p::(Value.slice a3 (o.tick to).L.length c3).ownBlock.toList,⟨a3,c3,?_,?_,?_,rfl⟩,?_,?_⟩⟩
 {
 have e:rfC (o.tick to) (.slice a3 (o.tick to).L.length c3)=[.bool true,.int .i64 o.m,.int .i64 o.E,.int .i64 o.V,.int .i64 o.D,.int .i64 to,.slice a3 m3 c3,.int .u64 o.last,.int .u64 g']:=by rw[Hd.out.2,Hd.out.1,hm3,Hn.out.1];rfl
 rw[e];exact H6.out.2}
 {
 have:bH w3 (.slice a3 (o.tick to).L.length c3) (o.tick to).L:=by rw[hml];exact hr3
 exact this.fr hFe (fun q hq hm=>by
   have e:=qH.1 hm;have:=hq3 q (by rw[<-hml];exact hq);omega)}
 {
 intro q hq e;have:=hq3 q (by rw[<-hml];exact hq);omega}
 · exact(hF03.mono (by simp)).trans hFe (fun b hb=>.inl (by rw[qH.1 hb];simp))
 {
 intro q hq;rcases qB.1 hq with rfl|hq
 · exact .inl (by simp)
 · exact .inr (hq3 q (by rw[<-hml];simpa using hq))}}
 {
 have e0:gJ to o.m=7:=qC hov;have e1:cY o.m o.now to=7:=by unfold cY;rw[qC hlt];exact e0
 have e2:o.tickS to=o:=by unfold Ob.tickS;rw[e1];exact qC (by omega)
 rw[e0]at HA;rw[e1,e2];have HW:=qA h;clear h hs h1 h2 h3 e0 e1 e2 hlt hov c6;generalize iN to o.m=sv at *;go_enter Tryz.func68,Tryz.ntmps68
 go_wp2_with fail
 refine HV.out.mono ?_;rintro _ _ ⟨rfl,rfl⟩;go_wp2_with fail
 refine HA.out.mono ?_;rintro _ w2 ⟨rfl,hF⟩;have HW2:=qA (HW.out.fr0 hF);clear hF HW HA;go_wp2
 go_ret;exact⟨rfl,HW2.out⟩}}
end
end Go.Proofs.YtjdgpcjbgjnahaaGreatDoor
