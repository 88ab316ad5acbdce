/- The document's window: Copy. -/
import Derived.Test.YtgmnemndjjmgkaaGreatB10
import Derived.Test.YtgmnemndjjmgkaaGreatB1
import Derived.Test.YtgmnemndjjmgkaaGreatB3
import Derived.Test.YtgmnemndjjmgkaaGreatB8
set_option linter.unusedSimpArgs false
set_option linter.unusedVariables false
/- The document's window: has, put. -/
namespace Go.Proofs.YtgmnemndjjmgkaaGreat
open Go.RowKit
set_option maxRecDepth 10000
set_option maxHeartbeats 1600000
theorem rw_has{w:World}{v:Value}{l:List Nat}(h:RowU w v l)(id:Nat)(hl:l.length≤65536):Calls Tryz.prog 128 #[v,.int .u64 id] w fun e w' =>e=.returned (.bool (decide (id∈l)))∧w' =w:=by
 obtain⟨a,c,rfl⟩:=h.slice;have H:=qB h;clear h;go_enter Tryz.func128,Tryz.ntmps128
 go_wp2
 go_loopw [5] (fun x wr=>∃i:Nat,i≤l.length∧x=.int .i64 i∧wr=w∧Hid (id∉l.take i)) (fun x _=>l.length-(intOf x).toNat)
 case atStart=>exact⟨0,zB _,rfl,rfl,qB (by simp)⟩
 case round=>
  obtain⟨i,hi,rfl,rfl,HN⟩:=hrel;rename World=>w
  by_cases hlt:i<l.length
  {
  obtain⟨b1,c1', e1,_,r1⟩:=H.out.at hlt;simp only[qY,true_and]at e1;obtain⟨rfl,rfl⟩:=e1;have hi1:(i:Int)<l.length:=by omega
  have hi0:(0:Int)≤i:=by omega
  have hst:l.take (i+1)=l.take i++[l[i]'hlt]:=by rw[List.take_add_one,qT hlt];rfl
  have hmem:=List.getElem_mem hlt;generalize l[i]'hlt=x at *;by_cases hx:x=id
  {
  have e1:((x:Int) == id)=true:=by simp;omega
  have hd:decide (id∈l)=true:=qO (by rw[←hx];exact hmem);have Hd:=qB hd;clear hx hst hmem hd;go_wp2
  go_ret;exact⟨by rw[Hd.out];rfl,rfl⟩}
  {
  have e1:((x:Int) == id)=false:=by simp;omega
  have hn:Hid (id∉l.take (i+1)):=qB (by
    rw[hst,qJ,qP];rintro(h|h)
    · exact HN.out h
    · exact hx h.symm)
  clear hx hst hmem;go_wp2
  go_roundw
  case rel=>exact⟨i+1,by omega,by go_num,trivial,hn⟩
  case measure=>simp[intOf];omega}}
  {
  obtain rfl:i=l.length:=by omega
  have hd:decide (id∈l)=false:=qK (by have:=HN.out;rwa[List.take_length]at this);have Hd:=qB hd;clear hd;go_wp2
  go_ret;exact⟨by rw[Hd.out];rfl,rfl⟩}
def atN(l:List Nat)(x i:Nat):List Nat:=l.take i++x::l.drop i
theorem atN_len(l:List Nat)(x i:Nat):(atN l x i).length=l.length+1:=by
 unfold atN;simp only[zO,zI,List.length_take,List.length_drop];omega
theorem atN_end(l:List Nat)(x:Nat):atN l x l.length=l++[x]:=by
 unfold atN;rw[List.take_length,List.drop_length]
theorem atN_self? {l:List Nat}{x i:Nat}(hi:i≤l.length):(atN l x i)[i]? =some x:=by
 unfold atN;rw[List.getElem?_append_right (by rw[List.length_take];omega)];simp[List.length_take,Nat.min_eq_left hi]
theorem atN_self{l:List Nat}{x i:Nat}(hi:i≤l.length)(h:i<(atN l x i).length):(atN l x i)[i]'h=x:=
  Option.some.inj ((qT h).symm.trans (atN_self? hi))
theorem atN_prev? {l:List Nat}{x i:Nat}(hi:i<l.length):(atN l x (i+1))[i]? =some l[i]:=by
 unfold atN;rw[List.getElem?_append_left (by rw[List.length_take];omega),List.getElem?_take,qI (by omega),qT hi]
theorem atN_prev{l:List Nat}{x i:Nat}(hi:i<l.length)(h:i<(atN l x (i+1)).length):(atN l x (i+1))[i]'h=l[i]:=
  Option.some.inj ((qT h).symm.trans (atN_prev? hi))
theorem atN_swap{l:List Nat}{x i:Nat}(hi:i<l.length):((atN l x (i+1)).set (i+1) l[i]).set i x=atN l x i:=by
 unfold atN;have e1:l.take (i+1)=l.take i++[l[i]]:=by rw[List.take_add_one,qT hi];rfl
 have e2:l.drop i=l[i]::l.drop (i+1):=List.drop_eq_getElem_cons hi;have hl:(l.take i).length=i:=by rw[List.length_take];omega
 rw[e1,e2,List.append_assoc];rw[List.set_append_right _ _ (by omega),List.set_append_right _ _ (by omega),hl];rw[show i+1-i=1 by omega,show i-i=0 by omega];rfl
theorem insN_app:∀{l m:List Nat} {x:Nat},(∀y∈l,y<x)→insN x (l++m)=l++insN x m
  | [],_,_,_=>rfl
  | a::r,m,x,h=>by
    have ha:=h a (by simp);rw[zL];show(if x=a then _ else if x<a then _ else a::insN x (r++m))=_
    rw[qH (by omega),qH (by omega),insN_app fun y hy=>h y (by simp[hy])];rfl
theorem insN_front{m:List Nat}{x:Nat}(h:∀y∈m,x<y):insN x m=x::m:=by
 cases m with
 | nil=>rfl
 | cons a r=>{
 have:=h a (by simp);show(if x=a then _ else if x<a then _ else _)=_
 rw[qH (by omega),qI this]}
theorem insN_has:∀{l:List Nat} {x:Nat},l.Pairwise (· < ·)→x∈l→insN x l=l
  | [],_,_,h=>by cases h
  | a::r,x,hp,h=>by
    have hp' :=List.pairwise_cons.1 hp;show(if x=a then a::r else if x<a then x::a::r else a::insN x r)=_
    by_cases e:x=a
    · rw[qI e]
    · have hx : x ∈ r := (qF.1 h).resolve_left e
      have:=hp'.1 x hx;rw[qH e,qH (by omega),insN_has hp'.2 hx]
theorem atN_done{l:List Nat}{x i:Nat}(hp:l.Pairwise (· < ·))(hi:i≤l.length)(hx:x∉l)(h1:∀y∈l.drop i,x<y)(h2:∀j (hj:j<l.length),j+1=i→l[j]<x):atN l x i=insN x l:=by
 have hlow:∀y∈l.take i,y<x:=by {
 intro y hy;obtain⟨k,hk,rfl⟩:=List.mem_iff_getElem.1 hy;rw[List.length_take]at hk;rw[List.getElem_take];cases i with
 | zero=>omega
 | succ i=>{
 have h3:=h2 i (by omega) rfl;by_cases e:k=i
 · subst e;exact h3
 {
 have:=(List.pairwise_iff_getElem.1 hp) k i (by omega) (by omega) (by omega);omega}}};have e:=List.take_append_drop i l;conv=>rhs;rw[←e]
 rw[insN_app hlow,insN_front h1];rfl
theorem wpList_app_mt{P:Program}{w:World}{ops:Array Oper}{rest:List Oper}{o:Oper}{a:Act}{Q:Exit→Act→World→Prop}(hgd:o.guard=none)(s x:Operand)(t:TypeId)
    (ho:o.op=.call { callee:=.builtin .append,args:=#[s,x],argTypes:=#[t,t] })
    (e:TypeId) (z:Value) (size bytes:Nat) (ht:P.underlying t=some (.slice e)) (hinfo:(P.info? e).map (fun i=>(i.zero,i.size,i.bytes))=some (some z,size,bytes)) (hzs:z.cells.size=size) (hsz:0<size)
    (g:Nat) (hs:a.eval s=.slice (some ⟨g,0,none⟩) 0 0) (hg:Blk w g e []) (v:Value) (m:Nat) (news:List Value) (hv:a.eval x=v) (hx:w.ownsRow 0 e size v m news) (h1:∀u∈news,u.oneCell' =true) (h63:m≤maxLen) (hbytes:m*bytes≤140737488355328)
    (h:∀v' w', w'.ownsRow 0 e size v' m news→Fr [g] w w' → (∀q,v'.ownBlock=some q→q=g∨w.heap.size≤q)→wpList P ops Q rest (a.put o.dst v') w'):wpList P ops Q (o::rest) a w:=
  wpList_plain hgd fun _ hK=>wp_app_mt s x t ho e z size bytes ht hinfo hzs hsz g hs hg v m news hv hx h1 h63 hbytes fun v' w' h2 h3 h4=>hK _ _ (h v' w' h2 h3 h4)
theorem encId_one37(l:List Nat):∀u∈encId l,u.oneCell' =true:=by
 intro u hu;obtain⟨x,_,rfl⟩:=zF.1 hu;rfl
theorem encId_app(l m:List Nat):encId (l++m)=encId l++encId m:=List.map_append
theorem RowU.set{w:World}{g n cap:Nat}{l:List Nat}(h:RowU w (.slice (some ⟨g,0,none⟩) n cap) l)(hn:l.length=n){i:Nat}(y:Nat):RowU (w.setCell ⟨g,i,none⟩ (.int .u64 y)) (.slice (some ⟨g,0,none⟩) n cap) (l.set i y):=by
 unfold RowU at *;rw[List.length_set,hn];rw[hn]at h;have e:encId (l.set i y)=(encId l).set i (.int .u64 y):=List.map_set;rw[e];exact ownsRow_setS h _
theorem RowU.fz{w:World}{g n cap:Nat}{l:List Nat}(h:RowU w (.slice (some ⟨g,0,none⟩) n cap) l)(j:Nat):w.frozen? ⟨g,j,none⟩=false:=by
 rcases h.2 with⟨e,_⟩|⟨g', cap', cur,e,_,hh,_⟩
 · cases e
 {
 simp only[qY,qQ,Addr.mk.injEq,and_true]at e;rw[e.1];simp[World.frozen?,hh]}
theorem rw_put{w:World}{v:Value}{l:List Nat}(h:RowU w v l)(hp:l.Pairwise (· < ·))(id:Nat)(hl:l.length≤60000):
    Calls Tryz.prog 126 #[v,.int .u64 id] w fun e w' =>∃v', e=.returned v' ∧ RowU w' v' (insN id l)∧Fr [] w w' ∧ ∀q,v'.ownBlock=some q→v.ownBlock=some q∨w.heap.size≤q:=by
  have hH:=rw_has h id (by omega);by_cases hm:id∈l
  · rw [qO hm] at hH
    rw[insN_has hp hm];have HH:=qB hH;have H:=qB h;clear h hp hm hH;go_enter Tryz.func126,Tryz.ntmps126
    go_wp2_with fail
    refine HH.out.mono ?_;rintro _ w ⟨rfl,rfl⟩;go_wp2
    go_ret;exact⟨v,rfl,H.out,Fr.refl _ _,fun q hq=>.inl hq⟩
  · rw [qK hm] at hH
    have HH:=qB hH;have H:=qB (zR (h.fr0 ((Fr.refl [] w).alloc (.cells #[] 26))) (zR hp hm));clear h hp hm hH;go_enter Tryz.func126,Tryz.ntmps126
    go_wp2_with fail
    refine HH.out.mono ?_;rintro _ w ⟨rfl,rfl⟩;have HM:=qB (show ∀(v1:Value) (w1:World),w1.ownsRow 0 26 1 v1 l.length (encId l)→Fr [w.heap.size] (w.alloc (.cells #[] 26)) w1→(∀q,v1.ownBlock=some q→q=w.heap.size∨(w.alloc (.cells #[] 26)).heap.size≤q) →
        Fr [] w w1∧(∀q,v1.ownBlock=some q→w.heap.size≤q)∧World.ownsRow (w1.alloc (.cells #[.int .u64 id] 26)) 0 26 1 v1 l.length (encId l) from fun v1 w1 hown1 hF1 hq1=>by
      have hs0:(w.alloc (.cells #[] 26)).heap.size=w.heap.size+1:=by simp
      refine⟨((Fr.refl [] w).alloc _).trans hF1 (fun b hb=>.inr (Nat.le_of_eq (qP.1 hb).symm)),fun q hq=>?_,ownsRow_same hown1 (fun q hq=>((Fr.refl [] w1).alloc _).keep q (ownsRow_ltS hown1 hq) (by simp))⟩;rcases hq1 q hq with e|e<;>omega)
    go_wp2_with (first
      | (at_builtin;refine wpList_app_mt rfl _ _ 48 rfl 26 (.int .u64 0) 1 8 (by kernel_rfl) (by kernel_rfl) rfl (by decide) w.heap.size rfl (Blk.new w [] _) v l.length (encId l) rfl H.out.1 (encId_one37 l) (by unfold maxLen;omega) (by omega) ?_;intro v1 w1 hown1 hF1 hq1;have HR1:=qB (HM.out v1 w1 hown1 hF1 hq1);obtain⟨a1,c1,rfl⟩:=ownsRow_slice hown1;clear hown1 hF1 hq1 HM)
      | (at_builtin;refine wpList_appK rfl _ _ 48 rfl 26 (.int .u64 0) 1 8 (by kernel_rfl) (by kernel_rfl) rfl (by decide) (.slice a1 l.length c1) l.length (encId l) rfl HR1.out.2.2 w1.heap.size 26 [.int .u64 id] rfl (Blk.new w1 _ _) rfl (by simp[Value.oneCell']) (by omega) (by decide) ?_;intro g cap w2 hown2 hgrow2 hg2))
    clear HH;obtain⟨n,hn⟩:∃n,n=l.length:=⟨_,rfl⟩;have hrow2:RowU w2 (.slice (some ⟨g,0,none⟩) (n+1) cap) (atN l id n):=by
      unfold RowU;rw[atN_len,hn,atN_end,encId_app];exact hown2
    have hs1:=HR1.out.1.size;have hgn:w.heap.size≤g:=by
      rcases hg2 with e|e
      · exact HR1.out.2.1 g e
      · simp at e;omega
    have hF2:Fr [] w w2:=(HR1.out.1.alloc _).grown hgrow2 (fun k e=>.inr (HR1.out.2.1 k e));have HRow:=qB (zR hrow2 (zR hF2 (show ∀y∈l.drop n,id<y from fun y hy=>by rw[hn,List.drop_length]at hy;cases hy)));have HG:=qB (zR hgn hn);have hn60:n≤60000:=by omega
    rw[←hn];clear hown2 hgrow2 hg2 hrow2 hs1 hgn hF2 hl hn HR1;go_wp2_with fail
    have hwn:IntKind.i64.wrap ((n:Int)+1-1)=n:=by simp[IntKind.wrap,IntKind.bits,IntKind.signed];omega
    go_loopw [6] (fun c wr=>∃i:Nat,i≤n∧c=.int .i64 i∧Hid (RowU wr (.slice (some ⟨g,0,none⟩) (n+1) cap) (atN l id i)∧Fr [] w wr∧∀y∈l.drop i,id<y)) (fun c _=>(intOf c).toNat)
    case atStart=>exact⟨n,qS _,by go_num,HRow⟩
    case round=>
      obtain⟨i,hi,rfl,HR⟩:=hrel;clear HRow hwn;rename World=>wr
      have hfin:¬(∃k,∃hk:k<l.length,k+1=i∧id<l[k])→RowU wr (.slice (some ⟨g,0,none⟩) (n+1) cap) (insN id l):=fun hno=>by
        have hil:i≤l.length:=by rw[←HG.out.2];exact hi
        rw[←atN_done H.out.2.1 hil H.out.2.2 HR.out.2.2 (fun j hj hji=>by
          have h1:¬id<l[j]:=fun h=>hno ⟨j,hj,hji,h⟩;have h2:id≠l[j]:=fun h=>H.out.2.2 (by rw[h];exact List.getElem_mem hj);omega)]
        exact HR.out.1
      have HFin:=qB hfin;clear hfin;cases i with
      | zero=>
        have d0:decide (((0:Nat):Int)>0)=false:=qK (by omega);go_wp2
        go_quiet (fail)
        go_wp2
        go_ret;exact⟨_,rfl,(HFin.out (fun⟨k,_,h,_⟩=>by omega)).fr0 ((Fr.refl [] wr).drewN _),HR.out.2.1.drewN _,fun q hq=>.inr (by simp[Value.ownBlock]at hq;rw[←hq];exact HG.out.1)⟩
      | succ k=>
        have hkl:k<l.length:=by rw[←HG.out.2];omega
        have d0:decide (((k+1:Nat):Int)>0)=true:=qO (by omega);have hwk:IntKind.i64.wrap (((k+1:Nat):Int)-1)=k:=by simp[IntKind.wrap,IntKind.bits,IntKind.signed];omega
        have hl1:k+1<(atN l id (k+1)).length:=by rw[atN_len];omega
        have hl2:k<(atN l id (k+1)).length:=by rw[atN_len];omega
        obtain⟨b1,c1', e1,_,r1⟩:=HR.out.1.at hl1;obtain⟨b2,c2', e2,_,r2⟩:=HR.out.1.at hl2;rw[atN_self (by omega)]at r1;rw[atN_prev hkl]at r2;simp only[qY,qQ,Addr.mk.injEq,and_true]at e1 e2;rw[←e1.1]at r1;rw[←e2.1]at r2;have ki:((k+1:Nat):Int)<(n:Int)+1:=by omega
        have kn:(k:Int)<(n:Int)+1:=by omega
        have k0:(0:Int)≤((k+1:Nat):Int):=by omega
        have k00:(0:Int)≤(k:Int):=by omega
        obtain⟨x,hx⟩:∃x,x=l[k]:=⟨_,rfl⟩;rw[←hx]at r2;have Hx:=qB (zR hx hkl);clear e1 e2 hl1 hl2 hx;obtain⟨i,hii⟩:∃i,i=k+1:=⟨_,rfl⟩;have d0n:decide (0<k+1)=true:=qO (by omega);rw[←hii]at d0 d0n hwk r1 ki k0 HR HFin hi ⊢;have Hi:=qB hii;clear hii;by_cases hlt:id<x
        · have d1 : decide ((id : Int) < x) = true := qO (by omega)
          have d1n:decide (id<x)=true:=qO hlt;have Hlt:=qB hlt;clear hlt;go_wp2
          go_quiet (fail)
          clear d1 d1n d0 d0n;go_wp2_with fail
          have hfr:=Fr.of_drewN37 wr nq;have r1:=hfr.cell r1 (by simp);have r2:=hfr.cell r2 (by simp);have HRn:=qB (zR (HR.out.1.fr0 hfr) (zR (HR.out.2.1.trans' hfr) HR.out.2.2));clear hfr HR;generalize wr.drewN nq=ws at *;have fz1:=HRn.out.1.fz i;have fz2:=HRn.out.1.fz k;refine region_many [15,17] [2,3,4] (fun q w' =>match q with
            | 0=>∃m,w' =ws.drewN m
            | 1=>RowU w' (.slice (some ⟨g,0,none⟩) (n+1) cap) ((atN l id i).set i x)∧Fr [] w w'
            | _=>RowU w' (.slice (some ⟨g,0,none⟩) (n+1) cap) (((atN l id i).set i x).set k id)∧Fr [] w w') (fun w' =>Iff.rfl) (by kernel_rfl) (by kernel_rfl) (by kernel_rfl) ?_
          iterate 2 (refine mWalk_pre (by decide) (fun K hK=>?_);go_simp;refine hK _ ?_;clear hK K)
          iterate 3 (refine mWalk_post (by decide) (fun K hK=>?_);go_simp;refine hK _ ?_;clear hK K)
          iterate 10 (refine mWalk_pre (by decide) (fun K hK=>?_);go_simp;refine hK _ ?_;clear hK K)
          refine mWalk_write (q:=0) (by decide) rfl undef (fun w' hw' =>?_) ?_
          · obtain ⟨nq, rfl⟩ := hw'
            go_simp;exact⟨(HRn.out.1.fr0 (Fr.of_drewN37 ws nq)).set (by rw[atN_len,←HG.out.2]) x,(HRn.out.2.1.drewN nq).setCell _ _ (.inr HG.out.1)⟩
          iterate 1 (refine mWalk_post (by decide) (fun K hK=>?_);go_simp;refine hK _ ?_;clear hK K)
          refine mWalk_write (q:=1) (by decide) rfl undef (fun w' hw' =>?_) ?_
          · obtain ⟨hA, hB'⟩ := hw'
            have fz3:=hA.fz k;have hl3:k<((atN l id i).set i x).length:=by rw[List.length_set,atN_len];have:=Hx.out.2;omega
            obtain⟨b2,c2', e2,_,r3⟩:=hA.at hl3;simp only[qY,qQ,Addr.mk.injEq,and_true]at e2;rw[←e2.1]at r3;clear e2;generalize ((atN l id i).set i x)[k]'hl3=y3 at *;go_simp;exact⟨hA.set (by rw[List.length_set,atN_len,←HG.out.2]) id,hB'.setCell _ _ (.inr HG.out.1)⟩
          refine mWalk_nil ?_;rintro w4 ⟨h4,hF4⟩;have HN:Hid (RowU w4 (.slice (some ⟨g,0,none⟩) (n+1) cap) (atN l id k)∧Fr [] w w4∧∀y∈l.drop k,id<y):=qB (by
            refine⟨?_,hF4,fun y hy=>?_⟩
            · rw[Hi.out,Hx.out.1,atN_swap Hx.out.2]at h4;exact h4
            · rw [List.drop_eq_getElem_cons Hx.out.2] at hy
              rcases qF.1 hy with rfl|hy
              · rw[←Hx.out.1];exact Hlt.out
              · have := HRn.out.2.2 y (by rw [Hi.out]; exact hy)
                exact this)
          clear h4 hF4 fz1 fz2 r1 r2 HRn HFin;have hki:=Hi.out;go_wp2_with fail
          go_roundw
          case rel=>exact⟨k,by omega,by go_num,HN⟩
          case measure=>simp[intOf];omega
        · have d1 : decide ((id : Int) < x) = false := qK (by omega)
          have d1n:decide (id<x)=false:=qK hlt;have Hlt:=qB hlt;clear hlt;go_wp2
          go_quiet (fail)
          go_wp2
          go_ret;exact⟨_,rfl,(HFin.out (fun⟨k', hk', h,h'⟩=>by
            have e:k' =k:=by have:=Hi.out;omega
            subst e;rw[←Hx.out.1]at h';exact Hlt.out h')).fr0 ((Fr.refl [] wr).drewN _),HR.out.2.1.drewN _,fun q hq=>.inr (by simp[Value.ownBlock]at hq;rw[←hq];exact HG.out.1)⟩
def cfgB(m E V D:Int):Bool:=decide (m≥1)&&(decide (E≥1)&&(decide (E≤16384)&&(decide (V≥2)&&(decide (V≤4096)&&(decide (D≥0)&&decide (D≤16384))))))
theorem cfgB_iff{m E V D:Int}:cfgB m E V D=true↔1≤m∧1≤E∧E≤16384∧2≤V∧V≤4096∧0≤D∧D≤16384:=by
 simp[cfgB]
theorem isConfig_w(m E V D:Int)(w:World):Calls Tryz.prog 119 #[.agg #[.int .i64 m,.int .i64 E,.int .i64 V,.int .i64 D]] w fun e w' =>e=.returned (.bool (cfgB m E V D))∧Fr [] w w' :=by
 have HF:=qB ((Fr.refl [] w).alloc (.cells #[.int .i64 m,.int .i64 E,.int .i64 V,.int .i64 D] 55));unfold cfgB;by_cases h0:m≥1
 {
 have d0:decide (m≥1)=true:=qO h0;by_cases h1:E≥1
 {
 have d1:decide (E≥1)=true:=qO h1;by_cases h2:E≤16384
 {
 have d2:decide (E≤16384)=true:=qO h2;by_cases h3:V≥2
 {
 have d3:decide (V≥2)=true:=qO h3;by_cases h4:V≤4096
 {
 have d4:decide (V≤4096)=true:=qO h4;by_cases h5:D≥0
 {
 have d5:decide (D≥0)=true:=qO h5;by_cases h6:D≤16384
 {
 have d6:decide (D≤16384)=true:=qO h6;rw[d0,d1,d2,d3,d4,d5,d6];clear h0 h1 h2 h3 h4 h5 h6;go_enter Tryz.func119,Tryz.ntmps119
 go_wp2
 go_ret;exact⟨rfl,HF.out⟩}
 {
 have d6:decide (D≤16384)=false:=qK h6;rw[d0,d1,d2,d3,d4,d5,d6];clear h0 h1 h2 h3 h4 h5 h6;go_enter Tryz.func119,Tryz.ntmps119
 go_wp2
 go_ret;exact⟨rfl,HF.out⟩}}
 {
 have d5:decide (D≥0)=false:=qK h5;rw[d0,d1,d2,d3,d4,d5];clear h0 h1 h2 h3 h4 h5;go_enter Tryz.func119,Tryz.ntmps119
 go_wp2
 go_ret;exact⟨rfl,HF.out⟩}}
 {
 have d4:decide (V≤4096)=false:=qK h4;rw[d0,d1,d2,d3,d4];clear h0 h1 h2 h3 h4;go_enter Tryz.func119,Tryz.ntmps119
 go_wp2
 go_ret;exact⟨rfl,HF.out⟩}}
 {
 have d3:decide (V≥2)=false:=qK h3;rw[d0,d1,d2,d3];clear h0 h1 h2 h3;go_enter Tryz.func119,Tryz.ntmps119
 go_wp2
 go_ret;exact⟨rfl,HF.out⟩}}
 {
 have d2:decide (E≤16384)=false:=qK h2;rw[d0,d1,d2];clear h0 h1 h2;go_enter Tryz.func119,Tryz.ntmps119
 go_wp2
 go_ret;exact⟨rfl,HF.out⟩}}
 {
 have d1:decide (E≥1)=false:=qK h1;rw[d0,d1];clear h0 h1;go_enter Tryz.func119,Tryz.ntmps119
 go_wp2
 go_ret;exact⟨rfl,HF.out⟩}}
 {
 have d0:decide (m≥1)=false:=qK h0;rw[d0];clear h0;go_enter Tryz.func119,Tryz.ntmps119
 go_wp2
 go_ret;exact⟨rfl,HF.out⟩}
theorem right_w(m E V D:Int)(w:World):Calls Tryz.prog 77 #[.agg #[.int .i64 m,.int .i64 E,.int .i64 V,.int .i64 D]] w fun e w' =>e=.returned (.bool (cfgB m E V D))∧Fr [] w w' :=by
 have HF:=qB ((Fr.refl [] w).alloc (.cells #[.int .i64 m,.int .i64 E,.int .i64 V,.int .i64 D] 55));unfold cfgB;by_cases h0:m≥1
 {
 have d0:decide (m≥1)=true:=qO h0;by_cases h1:E≥1
 {
 have d1:decide (E≥1)=true:=qO h1;by_cases h2:E≤16384
 {
 have d2:decide (E≤16384)=true:=qO h2;by_cases h3:V≥2
 {
 have d3:decide (V≥2)=true:=qO h3;by_cases h4:V≤4096
 {
 have d4:decide (V≤4096)=true:=qO h4;by_cases h5:D≥0
 {
 have d5:decide (D≥0)=true:=qO h5;by_cases h6:D≤16384
 {
 have d6:decide (D≤16384)=true:=qO h6;rw[d0,d1,d2,d3,d4,d5,d6];clear h0 h1 h2 h3 h4 h5 h6;go_enter Tryz.func77,Tryz.ntmps77
 go_wp2
 go_ret;exact⟨rfl,HF.out⟩}
 {
 have d6:decide (D≤16384)=false:=qK h6;rw[d0,d1,d2,d3,d4,d5,d6];clear h0 h1 h2 h3 h4 h5 h6;go_enter Tryz.func77,Tryz.ntmps77
 go_wp2
 go_ret;exact⟨rfl,HF.out⟩}}
 {
 have d5:decide (D≥0)=false:=qK h5;rw[d0,d1,d2,d3,d4,d5];clear h0 h1 h2 h3 h4 h5;go_enter Tryz.func77,Tryz.ntmps77
 go_wp2
 go_ret;exact⟨rfl,HF.out⟩}}
 {
 have d4:decide (V≤4096)=false:=qK h4;rw[d0,d1,d2,d3,d4];clear h0 h1 h2 h3 h4;go_enter Tryz.func77,Tryz.ntmps77
 go_wp2
 go_ret;exact⟨rfl,HF.out⟩}}
 {
 have d3:decide (V≥2)=false:=qK h3;rw[d0,d1,d2,d3];clear h0 h1 h2 h3;go_enter Tryz.func77,Tryz.ntmps77
 go_wp2
 go_ret;exact⟨rfl,HF.out⟩}}
 {
 have d2:decide (E≤16384)=false:=qK h2;rw[d0,d1,d2];clear h0 h1 h2;go_enter Tryz.func77,Tryz.ntmps77
 go_wp2
 go_ret;exact⟨rfl,HF.out⟩}}
 {
 have d1:decide (E≥1)=false:=qK h1;rw[d0,d1];clear h0 h1;go_enter Tryz.func77,Tryz.ntmps77
 go_wp2
 go_ret;exact⟨rfl,HF.out⟩}}
 {
 have d0:decide (m≥1)=false:=qK h0;rw[d0];clear h0;go_enter Tryz.func77,Tryz.ntmps77
 go_wp2
 go_ret;exact⟨rfl,HF.out⟩}
theorem wfrom_no(m D E V:Int)(g:Nat)(w:World)(h:cfgB m E V D=false):
    Calls Tryz.prog 68 #[.agg #[.int .i64 m,.int .i64 E,.int .i64 V,.int .i64 D],.int .u64 g] w fun e w' =>e=.returned (.tuple #[.pointer none,.int .i64 2])∧Fr [] w w' :=by
 have HC:=isConfig_w m E V D (w.alloc (.cells #[.int .i64 m,.int .i64 E,.int .i64 V,.int .i64 D] 55));rw[h]at HC;have HC:=qB HC;have hb:=Blk.new w [.int .i64 m,.int .i64 E,.int .i64 V,.int .i64 D] 55;have x0:=hb.cell 0;have x1:=hb.cell 1;have x2:=hb.cell 2;have x3:=hb.cell 3;simp only[zS,zT]at x0 x1 x2 x3;clear hb h;go_enter Tryz.func68,Tryz.ntmps68
 go_wp2_with fail
 refine HC.out.mono ?_;rintro _ w1 ⟨rfl,hF⟩;have HF:=qB (((Fr.refl [] w).alloc _).trans' hF);clear hF x0 x1 x2 x3;go_wp2
 go_ret2;exact⟨rfl,HF.out⟩
theorem wnew_no(m D E V:Int)(w:World)(h:cfgB m E V D=false):
    Calls Tryz.prog 29 #[.agg #[.int .i64 m,.int .i64 E,.int .i64 V,.int .i64 D]] w fun e w' =>e=.returned (.tuple #[.pointer none,.int .i64 2])∧Fr [] w w' :=by
 have HF:=qB (wfrom_no m D E V 0 (w.alloc (.cells #[.int .i64 m,.int .i64 E,.int .i64 V,.int .i64 D] 55)) h);have hb:=Blk.new w [.int .i64 m,.int .i64 E,.int .i64 V,.int .i64 D] 55;have x0:=hb.cell 0;have x1:=hb.cell 1;have x2:=hb.cell 2;have x3:=hb.cell 3;simp only[zS,zT]at x0 x1 x2 x3;clear hb h;go_enter Tryz.func29,Tryz.ntmps29
 go_wp2_with fail
 refine HF.out.mono ?_;rintro _ w1 ⟨rfl,hF⟩;have HF:=qB (((Fr.refl [] w).alloc _).trans' hF);clear hF x0 x1 x2 x3;go_wp2
 go_ret2;exact⟨rfl,HF.out⟩
abbrev R4:=Nat×Nat×Int×Int
set_option maxHeartbeats 3200000
set_option maxHeartbeats 800000
section
variable {W wr w' :World} {p:Nat} {o:Ob} {ts:List Th}
theorem td_new_no(h:Wd W wr ts)(m D E V:Int)(hc:cfgB m E V D=false):
    Calls Tryz.prog 29 #[.agg #[.int .i64 m,.int .i64 E,.int .i64 V,.int .i64 D]] wr fun e w' =>e=.returned (.tuple #[.pointer none,.int .i64 2])∧Wd W w' ts:=
  (wnew_no m D E V wr hc).mono fun _ _ k=>⟨k.1,h.fr0 k.2⟩
end
def rC(r:R4):List Value:=[.int .u64 r.1,.int .u64 r.2.1,.int .i64 r.2.2.1,.int .i64 r.2.2.2]
section
variable {w w' :World} {v:Value} {l:List R4}
end
set_option maxHeartbeats 1600000
theorem insN_len(x:Nat):∀l:List Nat,(insN x l).length≤l.length+1
  | []=>qS _
  | a::r=>by
    show(if x=a then a::r else if x<a then x::a::r else a::insN x r).length≤_
    have:=insN_len x r;split
    · simp
    · split
      · simp
      · simp only[zI];omega
theorem idsL_snoc(L:List Lv)(e:Lv):idsL (L++[e])=insN e.v (insN e.u (idsL L)):=by
 unfold idsL;rw[List.foldl_append];rfl
theorem idsL_len2(L:List Lv):∀n,L.length=n→(idsL L).length≤2*n:=by
 intro n;induction n generalizing L with
 | zero=>intro h;rw[List.length_eq_zero_iff.1 h];exact qS 0
 | succ n ih=>{
 intro h;have hne:L≠[]:=by intro h0;rw[h0]at h;cases h
 rw[←List.dropLast_concat_getLast hne,idsL_snoc];have h1:=ih L.dropLast (by rw[List.length_dropLast];omega);have h2:=insN_len (L.getLast hne).u (idsL L.dropLast);have h3:=insN_len (L.getLast hne).v (insN (L.getLast hne).u (idsL L.dropLast));omega}
theorem rw_ids{w:World}{v:Value}{l:List Lv}(h:RowV w v l)(hl:l.length≤16384):
    Calls Tryz.prog 79 #[v] w fun e w' =>∃v', e=.returned v' ∧ RowU w' v' (idsL l)∧Fr [] w w' ∧ ∀q,v'.ownBlock=some q→w.heap.size≤q:=by
  obtain⟨a,c,rfl⟩:=h.slice;have H:=qB h;clear h;go_enter Tryz.func79,Tryz.ntmps79
  go_wp2
  go_loopw [3,4] (fun c1 x wr=>∃(i:Nat) (a:Option Addr) (n c:Nat),i≤l.length∧c1=.slice a n c∧x=.int .i64 i∧Hid (RowU wr (.slice a n c) (idsL (l.take i))∧Fr [] w wr∧∀q,(Value.slice a n c).ownBlock=some q→w.heap.size≤q)) (fun _ x _=>l.length-(intOf x).toNat)
  case atStart=>exact⟨0,none,0,0,zB _,rfl,rfl,qB ⟨⟨rfl,.inl ⟨rfl,rfl⟩⟩,Fr.refl _ _,fun q hq=>by cases hq⟩⟩
  case round=>
    obtain⟨i,ao,no,co,hi,rfl,rfl,HR⟩:=hrel;rename World=>wr
    by_cases hlt:i<l.length
    · obtain ⟨b1, c1', e1, hx1, hx2, hx3, r1⟩ := H.out.at hlt
      simp only[qY,true_and]at e1;obtain⟨rfl,rfl⟩:=e1;clear hx1 hx2 hx3;have hi1:(i:Int)<l.length:=by omega
      have hi0:(0:Int)≤i:=by omega
      have hst:idsL (l.take (i+1))=insN (l[i]'hlt).v (insN (l[i]'hlt).u (idsL (l.take i))):=by rw[List.take_add_one,qT hlt];exact idsL_snoc _ _
      generalize l[i]'hlt=x at *;obtain⟨_,_,x2,x3,_,_,_⟩:=r1;have hlen:=idsL_len2 (l.take i) _ rfl;rw[List.length_take]at hlen;have hlt1:=idsL_lt (l.take i);obtain⟨ds,hds⟩:∃ds,ds=idsL (l.take i):=⟨_,rfl⟩;rw[←hds]at HR hst hlen hlt1;have x2:=HR.out.2.1.cell x2 (by simp);have x3:=HR.out.2.1.cell x3 (by simp);have HP:=qB (show ∀w', Fr [] wr w' → Calls Tryz.prog 126 #[.slice ao no co,.int .u64 x.u] w' fun e w1=>∃a1 n1 k1,e=.returned (.slice a1 n1 k1)∧Fr [] wr w1 ∧
          Calls Tryz.prog 126 #[.slice a1 n1 k1,.int .u64 x.v] w1 fun e w2=>∃a2 n2 k2,e=.returned (.slice a2 n2 k2)∧RowU w2 (.slice a2 n2 k2) (insN x.v (insN x.u ds))∧Fr [] wr w2∧∀q,(Value.slice a2 n2 k2).ownBlock=some q→w.heap.size≤q from fun w' hf=>by
        have hr:=HR.out.1.fr0 hf;refine(rw_put hr hlt1 x.u (by omega)).mono ?_;rintro _ w1 ⟨v1,rfl,h1,hF1,hq1⟩;obtain⟨a1,k1,rfl⟩:=h1.slice;refine⟨_,_,_,rfl,hf.trans' hF1,(rw_put h1 (insN_lt hlt1) x.v (by have:=insN_len x.u ds;omega)).mono ?_⟩;rintro _ w2 ⟨v2,rfl,h2,hF2,hq2⟩;obtain⟨a2,k2,rfl⟩:=h2.slice;refine⟨_,_,_,rfl,h2,(hf.trans' hF1).trans' hF2,fun q hq=>?_⟩;have s1:=(HR.out.2.1.trans' (hf.trans' hF1)).size;have s0:=(HR.out.2.1.trans' hf).size;rcases hq2 q hq with e|e
        · rcases hq1 q e with e | e
          · exact HR.out.2.2 q e
          · omega
        · omega)
      have HF:=qB (zR HR.out.2.1 hst);clear hst hlen hlt1 hds HR;go_wp2_with fail
      go_region_held3 (fun w' => w'.cell? ⟨b1, i * 7 + 2, none⟩ = some (.int .u64 x.u) ∧ w'.cell? ⟨b1, i * 7 + 3, none⟩ = some (.int .u64 x.v))
        (first
          | go_keep
          | exact⟨hfB.cell x2 (by simp),hfB.cell x3 (by simp)⟩
          | exact⟨hfA.cell x2 (by simp),hfA.cell x3 (by simp)⟩)
        (first
          | (go_at_call 126;with_reducible refine Calls.mono (HP.out _ (Fr.refl [] wr).drew) ?_;rintro r wA ⟨a1,n1,k1,rfl,hfA,hcA⟩)
          | (go_at_call 126;with_reducible refine Calls.mono hcA ?_;rintro r wB ⟨a2,n2,k2,rfl,hB,hfB,hqB⟩))
      all_goals
        have HN:Hid (RowU wB (.slice a2 n2 k2) (idsL (l.take (i+1)))∧Fr [] w wB∧∀q,(Value.slice a2 n2 k2).ownBlock=some q→w.heap.size≤q):=qB (by
          rw[HF.out.2];exact⟨hB,HF.out.1.trans' hfB,hqB⟩)
        clear hB hfB hqB hcA hfA HP x2 x3;go_wp2_with fail
        go_roundw
        case rel=>exact⟨i+1,_,_,_,by omega,rfl,by go_num,HN⟩
        case measure=>simp[intOf];omega
    · obtain rfl : i = l.length := by omega
      go_wp2
      go_ret;have:=HR.out;rw[List.take_length]at this;exact⟨_,rfl,this⟩
theorem rw_left{w:World}{v:Value}{l:List Lv}(h:RowV w v l)(hl:l.length≤16384)(to:Int):
    Calls Tryz.prog 125 #[v,.int .i64 to] w fun e w' =>∃v', e=.returned v' ∧ RowV w' v' (l.filter fun e=>decide (to<e.x))∧Fr [] w w' ∧ ∀q,v'.ownBlock=some q→w.heap.size≤q:=by
 obtain⟨a,c,rfl⟩:=h.slice;have H:=qB h;clear h;go_enter Tryz.func125,Tryz.ntmps125
 go_wp2
 go_loopw [5,6] (fun c1 x wr=>∃(i:Nat) (a:Option Addr) (n c:Nat),i≤l.length∧c1=.slice a n c∧x=.int .i64 i∧Hid (RowV wr (.slice a n c) ((l.take i).filter fun e=>decide (to<e.x))∧Fr [] w wr∧(∀q,(Value.slice a n c).ownBlock=some q→w.heap.size≤q)∧n=((l.take i).filter fun e=>decide (to<e.x)).length)) (fun _ x _=>l.length-(intOf x).toNat)
 case atStart=>exact⟨0,none,0,0,zB _,rfl,rfl,qB ⟨RowV.nil _,Fr.refl _ _,fun q hq=>(by cases hq),rfl⟩⟩
 case round=>
  obtain⟨i,ao,no,co,hi,rfl,rfl,HR⟩:=hrel;rename World=>wr
  by_cases hlt:i<l.length
  {
  obtain⟨b1,c1', e1,hx1,hx2,hx3,r1⟩:=H.out.at hlt;simp only[qY,true_and]at e1;obtain⟨rfl,rfl⟩:=e1;clear hx1 hx2 hx3;have hi1:(i:Int)<l.length:=by omega
  have hi0:(0:Int)≤i:=by omega
  have htk:l.take (i+1)=l.take i++[l[i]'hlt]:=by rw[List.take_add_one,qT hlt];rfl
  have hst:(l.take (i+1)).filter (fun e=>decide (to<e.x))=(l.take i).filter (fun e=>decide (to<e.x))++(if to<(l[i]'hlt).x then [l[i]'hlt] else []):=by {
  rw[htk,List.filter_append];congr 1
  by_cases hh:to<(l[i]'hlt).x<;>simp[hh]};have hnl:((l.take i).filter (fun e=>decide (to<e.x))).length≤i:=zQ (List.length_filter_le _ _) (by rw[List.length_take];omega);generalize l[i]'hlt=x at *;obtain⟨ds,hds⟩:∃ds,ds=(l.take i).filter (fun e=>decide (to<e.x)):=⟨_,rfl⟩;rw[←hds]at HR hst hnl;clear hds htk;obtain⟨x0,x1,x2,x3,x4,x5,x6⟩:=r1;have x0:=HR.out.2.1.cell x0 (by simp);have x1:=HR.out.2.1.cell x1 (by simp);have x2:=HR.out.2.1.cell x2 (by simp);have x3:=HR.out.2.1.cell x3 (by simp);have x4:=HR.out.2.1.cell x4 (by simp);have x5:=HR.out.2.1.cell x5 (by simp);have x6:=HR.out.2.1.cell x6 (by simp);by_cases hx:to<x.x
  {
  have d1:decide (x.x>to)=true:=qO hx;rw[qI hx]at hst;have hno:no=ds.length:=HR.out.2.2.2;have hno2:no≤16384:=by omega
  have hown:World.ownsRow (wr.alloc (.cells #[.int .i64 x.slot,.int .u64 x.seq,.int .u64 x.u,.int .u64 x.v,.int .i64 x.wt,.int .i64 x.t,.int .i64 x.x] 45)) 0 45 7 (.slice ao no co) no (rowV ds):=by {
  have:=HR.out.1.fr0 ((Fr.refl [] wr).alloc (.cells #[.int .i64 x.slot,.int .u64 x.seq,.int .u64 x.u,.int .u64 x.v,.int .i64 x.wt,.int .i64 x.t,.int .i64 x.x] 45));unfold RowV at this;rw[←hno]at this;exact this};have HOwn:=qB hown;have Hst:=qB (zR hst hno);clear hst hno hown hnl hx;go_wp2_with (at_builtin;refine wpList_appK rfl _ _ 37 rfl 45 lvZero 7 56 (by kernel_rfl) (by kernel_rfl) rfl (by decide) (.slice ao no co) no (rowV ds) rfl HOwn.out wr.heap.size 45 [.int .i64 x.slot,.int .u64 x.seq,.int .u64 x.u,.int .u64 x.v,.int .i64 x.wt,.int .i64 x.t,.int .i64 x.x] rfl (Blk.new wr _ _) rfl (by simp[Value.oneCell']) (by omega) (by decide) ?_;intro g cap w4 hown4 hgrow4 hg4)
  have HN:Hid (RowV w4 (.slice (some ⟨g,0,none⟩) (no+1) cap) ((l.take (i+1)).filter fun e=>decide (to<e.x))∧Fr [] w w4∧(∀q,(Value.slice (some ⟨g,0,none⟩) (no+1) cap).ownBlock=some q→w.heap.size≤q)∧no+1=((l.take (i+1)).filter fun e=>decide (to<e.x)).length):=qB (by
    rw[Hst.out.1];have hs:=HR.out.2.1.size;refine⟨?_,(HR.out.2.1.alloc _).grown hgrow4 (fun k e=>.inr (HR.out.2.2.1 k e)),fun q hq=>?_,by rw[zO,Hst.out.2];rfl⟩
    · unfold RowV
      rw[zO,←Hst.out.2,rowV_snoc];exact hown4
    · have e : g = q := by simpa [Value.ownBlock] using hq
      subst e;rcases hg4 with e|e
      · exact HR.out.2.2.1 g e
      · simp at e;omega)
  clear hown4 hgrow4 hg4 HOwn x0 x1 x2 x3 x4 x5 x6;go_wp2_with fail
  go_roundw
  case rel=>exact⟨i+1,_,_,_,by omega,rfl,by go_num,HN⟩
  case measure=>simp[intOf];omega}
  {
  have d1:decide (x.x>to)=false:=qK (by omega);rw[qH hx,List.append_nil]at hst;have HN:Hid (RowV wr (.slice ao no co) ((l.take (i+1)).filter fun e=>decide (to<e.x))∧Fr [] w wr∧(∀q,(Value.slice ao no co).ownBlock=some q→w.heap.size≤q)∧no=((l.take (i+1)).filter fun e=>decide (to<e.x)).length):=qB (by
    rw[hst];exact HR.out)
  clear hst hnl hx HR;go_wp2_with fail
  go_roundw
  case rel=>exact⟨i+1,_,_,_,by omega,rfl,by go_num,HN⟩
  case measure=>simp[intOf];omega}}
  {
  obtain rfl:i=l.length:=by omega
  go_wp2
  go_ret;have:=HR.out;rw[List.take_length]at this;exact⟨_,rfl,this.1,this.2.1,this.2.2.1⟩}
def wd(x:Nat):Nat→Nat
  | 0=>x%4294967296
  | 1=>x/4294967296
  | _=>0
def wdC(x:Nat):List Value:=[.int .u64 (wd x 0:Nat),.int .u64 (wd x 1:Nat),.int .u64 0,.int .u64 0,.int .u64 0,.int .u64 0]
theorem wdC_at(x:Nat){i:Nat}(hi:i<6):(wdC x)[i]? =some (.int .u64 (wd x i:Nat)):=by
 match i,hi with
 | 0,_=>rfl
 | 1,_=>rfl
 | 2,_=>rfl
 | 3,_=>rfl
 | 4,_=>rfl
 | 5,_=>rfl
def cry(x y:Nat):Nat→Nat
  | 0=>0
  | i+1=>(wd x i+wd y i+cry x y i)/4294967296
def dig(x y i:Nat):Nat:=(wd x i+wd y i+cry x y i)%4294967296
def outL(x y i:Nat):List Value:=(List.range 6).map fun j=>.int .u64 ((if j<i then dig x y j else 0:Nat):Int)
theorem outL_set(x y:Nat){i:Nat}(hi:i<6):(outL x y i).set i (.int .u64 (dig x y i:Nat))=outL x y (i+1):=by
 match i,hi with
 | 0,_=>rfl
 | 1,_=>rfl
 | 2,_=>rfl
 | 3,_=>rfl
 | 4,_=>rfl
 | 5,_=>rfl
theorem outL_len(x y i:Nat):(outL x y i).length=6:=by simp[outL]
theorem wd_lt{x:Nat}(hx:x≤9223372036854775807)(i:Nat):wd x i<4294967296:=by
 match i with
 | 0=>exact Nat.mod_lt _ (by omega)
 | 1=>show x/4294967296<_;omega
 | n+2=>show 0<_;omega
theorem cry_le{x y:Nat}(hx:x≤9223372036854775807)(hy:y≤9223372036854775807):∀i,cry x y i≤1
  | 0=>zB _
  | i+1=>by
    have h1:=wd_lt hx i;have h2:=wd_lt hy i;have h3:=cry_le hx hy i;show(wd x i+wd y i+cry x y i)/4294967296≤1
    omega
theorem dig_sum{x y:Nat}(hx:x≤9223372036854775807)(hy:y≤9223372036854775807):dig x y 1*4294967296+dig x y 0=x+y∧dig x y 2=0∧dig x y 3=0∧dig x y 4=0∧dig x y 5=0:=by
 have e0:cry x y 1=(x%4294967296+y%4294967296+0)/4294967296:=rfl;have d0:dig x y 0=(x%4294967296+y%4294967296+0)%4294967296:=rfl;have d1:dig x y 1=(x/4294967296+y/4294967296+cry x y 1)%4294967296:=rfl;have e1:cry x y 2=(x/4294967296+y/4294967296+cry x y 1)/4294967296:=rfl;have h2:cry x y 2=0:=by rw[e1,e0];omega
 have h3:cry x y 3=0:=by show(0+0+cry x y 2)/4294967296=0;rw[h2]
 have h4:cry x y 4=0:=by show(0+0+cry x y 3)/4294967296=0;rw[h3]
 have h5:cry x y 5=0:=by show(0+0+cry x y 4)/4294967296=0;rw[h4]
 refine⟨by rw[d1,d0,e0];omega,?_,?_,?_,?_⟩
 · show(0+0+cry x y 2)%4294967296=0;rw[h2]
 · show(0+0+cry x y 3)%4294967296=0;rw[h3]
 · show(0+0+cry x y 4)%4294967296=0;rw[h4]
 · show(0+0+cry x y 5)%4294967296=0;rw[h5]
theorem more_w{x y:Nat}(hx:x≤9223372036854775807)(hy:y≤9223372036854775807)(w:World):
    Calls Tryz.prog 169 #[.agg (wdC x).toArray,.agg (wdC y).toArray] w fun e w' =>e=.returned (.agg (outL x y 6).toArray)∧Fr [] w w' :=by
 have key:Calls Tryz.prog 169 #[.agg #[.int .u64 (wd x 0:Nat),.int .u64 (wd x 1:Nat),.int .u64 0,.int .u64 0,.int .u64 0,.int .u64 0],.agg #[.int .u64 (wd y 0:Nat),.int .u64 (wd y 1:Nat),.int .u64 0,.int .u64 0,.int .u64 0,.int .u64 0]] w fun e w' =>e=.returned (.agg (outL x y 6).toArray)∧Fr [] w w' :=by {
 obtain⟨w0,hw0⟩:∃w0,w0=(((w.alloc (.cells #[.int .u64 (wd x 0:Nat),.int .u64 (wd x 1:Nat),.int .u64 0,.int .u64 0,.int .u64 0,.int .u64 0] 183)).alloc (.cells #[.int .u64 (wd y 0:Nat),.int .u64 (wd y 1:Nat),.int .u64 0,.int .u64 0,.int .u64 0,.int .u64 0] 183)).alloc (.cells #[.int .u64 0,.int .u64 0,.int .u64 0,.int .u64 0,.int .u64 0,.int .u64 0] 183)).alloc (.cells #[.int .u64 0,.int .u64 0,.int .u64 0,.int .u64 0,.int .u64 0,.int .u64 0] 183):=⟨_,rfl⟩;have ha:Blk w0 w.heap.size 183 (wdC x):=by rw[hw0];exact(((Blk.new w (wdC x) _).alloc _).alloc _).alloc _
 have hb:Blk w0 (w.heap.size+1) 183 (wdC y):=by {
 rw[hw0];have:=((Blk.new (w.alloc (.cells #[.int .u64 (wd x 0:Nat),.int .u64 (wd x 1:Nat),.int .u64 0,.int .u64 0,.int .u64 0,.int .u64 0] 183)) (wdC y) 183).alloc (.cells #[.int .u64 0,.int .u64 0,.int .u64 0,.int .u64 0,.int .u64 0,.int .u64 0] 183)).alloc (.cells #[.int .u64 0,.int .u64 0,.int .u64 0,.int .u64 0,.int .u64 0,.int .u64 0] 183);simp only[World.size_alloc]at this;exact this};have hr:Blk w0 (w.heap.size+1+1) 183 [.int .u64 0,.int .u64 0,.int .u64 0,.int .u64 0,.int .u64 0,.int .u64 0]:=by {
 rw[hw0];have:=(Blk.new ((w.alloc (.cells #[.int .u64 (wd x 0:Nat),.int .u64 (wd x 1:Nat),.int .u64 0,.int .u64 0,.int .u64 0,.int .u64 0] 183)).alloc (.cells #[.int .u64 (wd y 0:Nat),.int .u64 (wd y 1:Nat),.int .u64 0,.int .u64 0,.int .u64 0,.int .u64 0] 183)) [.int .u64 0,.int .u64 0,.int .u64 0,.int .u64 0,.int .u64 0,.int .u64 0] 183).alloc (.cells #[.int .u64 0,.int .u64 0,.int .u64 0,.int .u64 0,.int .u64 0,.int .u64 0] 183);simp only[World.size_alloc]at this;exact this};have ho:Blk w0 (w.heap.size+1+1+1) 183 (outL x y 0):=by {
 rw[hw0];have:=Blk.new (((w.alloc (.cells #[.int .u64 (wd x 0:Nat),.int .u64 (wd x 1:Nat),.int .u64 0,.int .u64 0,.int .u64 0,.int .u64 0] 183)).alloc (.cells #[.int .u64 (wd y 0:Nat),.int .u64 (wd y 1:Nat),.int .u64 0,.int .u64 0,.int .u64 0,.int .u64 0] 183)).alloc (.cells #[.int .u64 0,.int .u64 0,.int .u64 0,.int .u64 0,.int .u64 0,.int .u64 0] 183)) (outL x y 0) 183;simp only[World.size_alloc]at this;exact this};have hF0:Fr [] w w0:=by rw[hw0];exact((((Fr.refl [] w).alloc _).alloc _).alloc _).alloc _
 obtain⟨ba,hba⟩:∃ba,ba=w.heap.size:=⟨_,rfl⟩;have HW0:=qB hw0;go_enter Tryz.func169,Tryz.ntmps169
 clear hw0;go_wp2
 rw[←HW0.out,←hba];rw[←hba]at ha hb hr ho;have HA:=qB (zR ha (zR hb (zR hr (zR hF0 hba))));clear ha hb hr hF0 hba HW0;go_loopw [6,7] (fun c1 c2 wr=>∃(i:Nat),i≤6∧c1=.int .u64 (cry x y i:Nat)∧c2=.int .i64 i∧Hid (Blk wr (ba+1+1+1) 183 (outL x y i)∧Fr [ba+1+1+1] w0 wr)) (fun _ c _=>6-(intOf c).toNat)
 case atStart=>exact⟨0,by omega,rfl,rfl,qB ⟨ho,Fr.refl _ _⟩⟩
 case round=>
  obtain⟨i,hi,rfl,rfl,HR⟩:=hrel;clear ho;rename World=>wr
  by_cases hi6:i<6
  {
  have hii:(i:Int)<6:=by omega
  have hi0:(0:Int)≤i:=by omega
  have ca:=(HR.out.2.blk HA.out.1 (by simp;omega)).cell i;have cb:=(HR.out.2.blk HA.out.2.1 (by simp)).cell i;rw[wdC_at x hi6]at ca;rw[wdC_at y hi6]at cb;have l1:=wd_lt hx i;have l2:=wd_lt hy i;have l3:=cry_le hx hy i;have hset:=outL_set x y hi6;have hcs:cry x y (i+1)=(wd x i+wd y i+cry x y i)/4294967296:=rfl;have hdg:dig x y i=(wd x i+wd y i+cry x y i)%4294967296:=rfl;rw[hdg]at hset;clear hdg;have Hset:=qB (zR hset hcs);clear hset hcs;generalize wd x i=a at *;generalize wd y i=b at *;generalize cry x y i=c at *;have hw1:IntKind.u64.wrap ((a:Int)+b)=((a+b:Nat):Int):=by simp[IntKind.wrap,IntKind.bits,IntKind.signed];omega
  have hw2:IntKind.u64.wrap (((a+b:Nat):Int)+c)=((a+b+c:Nat):Int):=by simp[IntKind.wrap,IntKind.bits,IntKind.signed];omega
  obtain⟨s,hs⟩:∃s,s=a+b+c:=⟨_,rfl⟩;have hw0:IntKind.u64.wrap ((a:Int)+b+c)=(s:Int):=by rw[hs];simp[IntKind.wrap,IntKind.bits,IntKind.signed];omega
  have hsl:s≤8589934592:=by omega
  rw[←hs]at hw2 Hset;have hw3:IntKind.u64.wrap ((s:Int).tmod 4294967296)=((s%4294967296:Nat):Int):=by rw[Int.tmod_eq_emod_of_nonneg (by omega)];simp[IntKind.wrap,IntKind.bits,IntKind.signed];omega
  have hw4:IntKind.u64.wrap ((s:Int).tdiv 4294967296)=((s/4294967296:Nat):Int):=by rw[Int.tdiv_eq_ediv_of_nonneg (by omega)];simp[IntKind.wrap,IntKind.bits,IntKind.signed];omega
  have hm3:((s:Int)%4294967296)=((s%4294967296:Nat):Int):=by omega
  have hm4:((s:Int)/4294967296)=((s/4294967296:Nat):Int):=by omega
  have ht3:(s:Int).tmod 4294967296=((s%4294967296:Nat):Int):=by rw[Int.tmod_eq_emod_of_nonneg (by omega)];omega
  have ht4:(s:Int).tdiv 4294967296=((s/4294967296:Nat):Int):=by rw[Int.tdiv_eq_ediv_of_nonneg (by omega)];omega
  clear hs l1 l2 l3;obtain⟨d,hd⟩:∃d,d=s%4294967296:=⟨_,rfl⟩;obtain⟨k,hk⟩:∃k,k=s/4294967296:=⟨_,rfl⟩;rw[←hd]at hw3 hm3 ht3 Hset;rw[←hk]at hw4 hm4 ht4 Hset;clear hd hk;go_wp2
  go_quiet (fail)
  have HR2:=qB (zR (HR.out.1.drewN nq) (HR.out.2.drewN nq));have co:=HR2.out.1.cell i;have fo:=HR2.out.1.frozen i;have hex:∃u,(outL x y i)[i]? =some u:=⟨_,qT (by rw[outL_len];exact hi6)⟩;obtain⟨u,hu⟩:=hex;rw[hu]at co;clear hu ca cb HR;generalize wr.drewN nq=ws at *;go_wp2_with fail
  go_roundw
  case rel=>
   refine⟨i+1,by omega,by rw[Hset.out.2],by go_num,qB ⟨?_,HR2.out.2.setCell _ _ (.inl (by simp))⟩⟩;rw[←Hset.out.1];exact HR2.out.1.set i _
  case measure=>simp[intOf];omega}
  {
  obtain rfl:i=6:=by omega
  have hb6:=HR.out.1;have o0:=hb6.cell 0;have o1:=hb6.cell 1;have o2:=hb6.cell 2;have o3:=hb6.cell 3;have o4:=hb6.cell 4;have o5:=hb6.cell 5;have hrr:=HR.out.2.blk HA.out.2.2.1 (by simp);have r0:=hrr.cell 0;have r1:=hrr.cell 1;have r2:=hrr.cell 2;have r3:=hrr.cell 3;have r4:=hrr.cell 4;have r5:=hrr.cell 5;have f0:=hrr.frozen 0;have f1:=hrr.frozen 1;have f2:=hrr.frozen 2;have f3:=hrr.frozen 3;have f4:=hrr.frozen 4;have f5:=hrr.frozen 5;have d0:outL x y 6=[.int .u64 (dig x y 0:Nat),.int .u64 (dig x y 1:Nat),.int .u64 (dig x y 2:Nat),.int .u64 (dig x y 3:Nat),.int .u64 (dig x y 4:Nat),.int .u64 (dig x y 5:Nat)]:=rfl;rw[d0]at o0 o1 o2 o3 o4 o5;simp only[zS,zT]at o0 o1 o2 o3 o4 o5 r0 r1 r2 r3 r4 r5;have hs0:=((((((hrr.set 0 (.int .u64 (dig x y 0:Nat))).set 1 (.int .u64 (dig x y 1:Nat))).set 2 (.int .u64 (dig x y 2:Nat))).set 3 (.int .u64 (dig x y 3:Nat))).set 4 (.int .u64 (dig x y 4:Nat))).set 5 (.int .u64 (dig x y 5:Nat)));have s0:=hs0.cell 0;have s1:=hs0.cell 1;have s2:=hs0.cell 2;have s3:=hs0.cell 3;have s4:=hs0.cell 4;have s5:=hs0.cell 5;simp only[zS,zT,zH,zD]at s0 s1 s2 s3 s4 s5;have hFe:Fr [] w wr:=HA.out.2.2.2.1.trans HR.out.2 (fun b hb=>.inr (by rw[qP.1 hb,←HA.out.2.2.2.2];omega));have hbl:∀v:Value,∀i w', Fr [] w w' → Fr [] w (w'.setCell ⟨ba+1+1,i,none⟩ v):=fun v i w' h=>h.setCell _ _ (.inr (by rw[←HA.out.2.2.2.2];show ba≤ba+1+1;omega));have HFe:=qB (hbl (.int .u64 (dig x y 5:Nat)) 5 _ (hbl (.int .u64 (dig x y 4:Nat)) 4 _ (hbl (.int .u64 (dig x y 3:Nat)) 3 _ (hbl (.int .u64 (dig x y 2:Nat)) 2 _ (hbl (.int .u64 (dig x y 1:Nat)) 1 _ (hbl (.int .u64 (dig x y 0:Nat)) 0 _ hFe))))));clear hb6 hrr d0 hs0 hFe hbl HR HA;go_wp2
  exact bodyPost_ret (v:=.agg #[.int .u64 (dig x y 0:Nat),.int .u64 (dig x y 1:Nat),.int .u64 (dig x y 2:Nat),.int .u64 (dig x y 3:Nat),.int .u64 (dig x y 4:Nat),.int .u64 (dig x y 5:Nat)]) (by simp[results,Tryz.results169,go_sem,s0,s1,s2,s3,s4,s5]) rfl ⟨rfl,HFe.out⟩}};exact key
end Go.Proofs.YtgmnemndjjmgkaaGreat
namespace Go.Proofs.YtgmnemndjjmgkaaGreat
open Go.RowKit
section
variable {P:Program} {ops:Array Oper} {md:Region.Mode} (G:Nat→Sem Go.Next→Value→Prop) (must:Nat→Bool)
def sOp(ops:Array Oper)(i:Nat)(K:Act→Prop)(a:Act):Prop:=
  match ops[i]? with
  | none=>K a
  | some o=>if Region.wanted o (yielded ops a.tmps) then ∃v,G i (execOp a.eval o) v∧K (a.put o.dst v) else must i=false∧K (a.put o.dst undef)
def sWalk(ops:Array Oper)(Q:Act→Prop):Nat→List Oper→Act→Prop
  | _,[],a=>Q a
  | k,o::rest,a=>if Region.wanted o (yielded ops a.tmps) then ∃v,G k (execOp a.eval o) v∧sWalk ops Q (k+1) rest (a.put o.dst v) else must k=false∧sWalk ops Q (k+1) rest (a.put o.dst undef)
def sAny(md:Region.Mode)(ops:Array Oper)(Q:Act→Prop):Nat→Array Bool→Act→Prop
  | 0,listed,a=>Region.ready md ops listed=[]∧Q a
  | fuel+1,listed,a=>
    (Region.ready md ops listed=[]→Q a)∧∀i∈Region.ready md ops listed,sOp G must ops i (sAny md ops Q fuel (listed.setIfInBounds i true)) a
variable {G must}
def sYields(G:Nat→Sem Go.Next→Value→Prop)(must:Nat→Bool)(ops:Array Oper)(i:Nat)(o:Oper)(v:Value)(a:Act):Prop:=
  (Region.wanted o (yielded ops a.tmps)=true∧G i (execOp a.eval o) v)∨(Region.wanted o (yielded ops a.tmps)=false∧must i=false∧v=undef)
theorem sYields.op{i:Nat}{o:Oper}{v:Value}{a:Act}(hi:ops[i]? =some o)(hy:sYields G must ops i o v a){K:Act→Prop}(h:K (a.put o.dst v)):sOp G must ops i K a:=by
 unfold sOp;simp only[hi];rcases hy with⟨hw,hv⟩|⟨hw,hm,rfl⟩
 · rw[qI hw];exact⟨v,hv,h⟩
 · rw[qH (by simp[hw])];exact⟨hm,h⟩
theorem sYields.same{i:Nat}{o:Oper}{v:Value}{a a' :Act}(hy:sYields G must ops i o v a)(he:execOp a'.eval o=execOp a.eval o)
    (hw:Region.wanted o (yielded ops a'.tmps)=Region.wanted o (yielded ops a.tmps)):sYields G must ops i o v a' :=by
 unfold sYields at *;rw[he,hw];exact hy
theorem sOp_mono{i:Nat}{a:Act}{K K' :Act→Prop}(h:∀a,K a→K' a)(hh:sOp G must ops i K a):sOp G must ops i K' a:=by
 unfold sOp at *;cases ho:ops[i]? with
 | none=>simp only[ho]at hh ⊢;exact h _ hh
 | some o=>{
 simp only[ho]at hh ⊢;by_cases hw:Region.wanted o (yielded ops a.tmps)=true
 · rw[qI hw]at *;obtain⟨v,h1,h2⟩:=hh;exact⟨v,h1,h _ h2⟩
 · rw[qH hw]at *;exact⟨hh.1,h _ hh.2⟩}
theorem sYields_of_op{i:Nat}{o:Oper}{a:Act}{K:Act→Prop}(hi:ops[i]? =some o)(h:sOp G must ops i K a):∃v,sYields G must ops i o v a∧K (a.put o.dst v):=by
 unfold sOp at h;simp only[hi]at h;by_cases hw:Region.wanted o (yielded ops a.tmps)=true
 {
 rw[qI hw]at h;obtain⟨v,h1,h2⟩:=h;exact⟨v,.inl ⟨hw,h1⟩,h2⟩}
 {
 rw[qH hw]at h;exact⟨undef,.inr ⟨by simpa using hw,h.1,rfl⟩,h.2⟩}
theorem sOp_put{i j:Nat}{oi oj:Oper}{v:Value}(hj:ops[j]? =some oj)(hap:oi.apart ops oj=true)
    (hsi:∀cs b,oi.op≠.select cs b) (hsj:∀cs b,oj.op≠.select cs b) {K:Act→Prop} {a:Act}
    (hy:sYields G must ops i oi v a) (h:sOp G must ops j K (a.put oi.dst v)):
    sOp G must ops j (fun a' =>sYields G must ops i oi v a' ∧ K (a'.put oi.dst v)) a:=by
 obtain⟨h1,h2,h3⟩:=Oper.apart_spec hap;have keep:∀(a:Act),sYields G must ops i oi v a→∀u,sYields G must ops i oi v (a.put oj.dst u):=fun a hy u=>
   hy.same (execOp_put oi hsi a oj.dst u h3) (wanted_put oi a oj.dst u h3)
 unfold sOp at *;simp only[hj]at *;rw[wanted_put oj a oi.dst v h1]at h;by_cases hw:Region.wanted oj (yielded ops a.tmps)=true
 {
 rw[qI hw]at *;obtain⟨u,hu,hn⟩:=h;rw[execOp_put oj hsj a oi.dst v h1]at hu;exact⟨u,hu,keep a hy u,by rw[←Act.put_comm a v u h2];exact hn⟩}
 {
 rw[qH hw]at *;exact⟨h.1,keep a hy _,by rw[←Act.put_comm a v undef h2];exact h.2⟩}
theorem sAny_first{Q:Act→Prop}{i:Nat}{oi:Oper}{v:Value}(hi:ops[i]? =some oi)(hsel:∀(j:Nat) (o:Oper) cs b,ops[j]? =some o→o.op≠.select cs b):
    ∀(fuel:Nat) (listed:Array Bool) (a:Act),
      (∀j oj,ops[j]? =some oj→j≠i→listed.getD j true=false→(∀e∈oj.after,Region.binds md e=true→e.on≠i)→oi.apart ops oj=true) →
      i∈Region.ready md ops listed→sYields G must ops i oi v a →
      sAny G must md ops Q fuel (listed.setIfInBounds i true) (a.put oi.dst v)→sAny G must md ops Q (fuel+1) listed a:=by
  intro fuel;induction fuel with
  | zero=>
    intro listed a _ hr hy H;refine⟨fun h=>(by rw[h]at hr;cases hr),fun j hj=>?_⟩;by_cases hji:j=i
    · subst hji;exact hy.op hi H
    · have := ready_mono hj hji
      rw[H.1]at this;cases this
  | succ fuel ih=>
    intro listed a hfree hr hy H;refine⟨fun h=>(by rw[h]at hr;cases hr),fun j hj=>?_⟩;by_cases hji:j=i
    · subst hji;exact hy.op hi H
    · have h1 := H.2 j (ready_mono hj hji)
      obtain⟨hjun,oj,hoj,hall⟩:=mem_ready.1 hj;have hnot:∀e∈oj.after,Region.binds md e=true→e.on≠i:=fun e he hb heq=>by
        have h1:=hall e he hb;have h0:=(mem_ready.1 hr).1;rw[heq]at h1;rcases Nat.lt_or_ge i listed.size with h' | h'
        · simp[h']at h0 h1;rw[h0]at h1;cases h1
        · simp[Array.getElem?_eq_none h']at h1
      have h2:=sOp_put hoj (hfree j oj hoj hji hjun hnot) (fun cs b=>hsel i oi cs b hi) (fun cs b=>hsel j oj cs b hoj) hy h1;have hfree' :∀k ok,ops[k]? =some ok→k≠i→(listed.setIfInBounds j true).getD k true=false →
          (∀e∈ok.after,Region.binds md e=true→e.on≠i)→oi.apart ops ok=true:=fun k ok hk hki hun hno=>by
        refine hfree k ok hk hki ?_ hno;by_cases hjk:j=k
        · subst hjk;exact hjun
        · rw[getD_set_ne true hjk]at hun;exact hun
      refine sOp_mono (fun a' h3=>ih (listed.setIfInBounds j true) a' hfree' (ready_mono hr (Ne.symm hji)) h3.1 ?_) h2;rw[Array.setIfInBounds_comm _ _ hji];exact h3.2
theorem sAny_lex{Q:Act→Prop}(hs:Region.noSelect ops=true):∀(l:List Oper) (k:Nat) (listed:Array Bool) (a:Act),(∀j,l[j]? =ops[k+j]?) →
    Region.lexFrom md ops l.length k listed=true→sWalk G must ops Q k l a→sAny G must md ops Q l.length listed a
  | [],_,_,_,_,hB,h=>⟨by simpa[Region.lexFrom] using hB,h⟩
  | o::l,k,listed,a,hl,hB,h=>by
    have h0:ops[k]? =some o:=by simpa using (hl 0).symm
    simp only[zI,Region.lexFrom,zG]at hB;obtain⟨⟨hr,hf⟩,hB'⟩:=hB;have hst:sOp G must ops k (sWalk G must ops Q (k+1) l) a:=by unfold sOp;simp only[h0];exact h
    obtain⟨v,hy,hK⟩:=sYields_of_op h0 hst
    exact sAny_first h0 (Region.noSelect_spec hs) l.length listed a (Region.free_spec h0 hf) (by simpa using hr) hy
      (sAny_lex hs l (k+1) _ _ (fun j=>by have:=hl (j+1);simpa[Nat.add_assoc,Nat.add_comm 1 j] using this) hB' hK)
end
def seqG(P:Program)(cs:List Nat)(C:Nat→World→Prop)(i:Nat)(s:Sem Go.Next)(v:Value):Prop:=
  if i∈cs then ∀w,C (cs.idxOf i) w→writeUpon P (C (cs.idxOf i+1)) v (s.run P w) else ∀q w,C q w→Oper.quietUpon P (C q) w v (s.run P w)
section
variable {P:Program} {ops:Array Oper} {md:Region.Mode} {C:Nat→World→Prop} {cs:List Nat}
theorem any_of_sSeq(hrow:rowB md ops cs=true)(hb:edgesBack md ops=true){Q:Act→Prop}{Q' :Exit→Act→World→Prop}(hQ:∀a w,C cs.length w→Q a→Q' .normal a w):∀(fuel:Nat) (listed:Array Bool) (a:Act) (w:World),listed.size=ops.size →
    Shut md ops listed→C (cnt cs listed) w→sAny (seqG P cs C) (fun i=>decide (i∈cs)) md ops Q fuel listed a→wpAny P md ops Q' fuel listed a w:=by
 have hend:∀listed:Array Bool,listed.size=ops.size→Region.ready md ops listed=[]→cnt cs listed=cs.length:=by {
 intro listed hs h0;unfold cnt;rw[List.countP_eq_length];intro c hc;exact ready_nil hs hb h0 c (row_lt hrow c hc)};have hnd:cs.Nodup:=(row_sorted hrow).imp (fun h=>Nat.ne_of_lt h);intro fuel;induction fuel with
 | zero=>{
 intro listed a w hs _ hp h;exact⟨h.1,hQ _ _ (by rw[hend listed hs h.1]at hp;exact hp) h.2⟩}
 | succ fuel ih=>{
 intro listed a w hs hsh hp h;refine⟨fun h0=>hQ _ _ (by rw[hend listed hs h0]at hp;exact hp) (h.1 h0),fun i hi=>?_⟩;have hg:=h.2 i hi;obtain⟨hun,oi,hoi,_⟩:=mem_ready.1 hi;have hil:i<ops.size:=(qU.1 hoi).1;have hs' :(listed.setIfInBounds i true).size=ops.size:=by simp[hs]
 have hl0:listed.getD i false=false:=by simp[hs,hil]at hun ⊢;exact hun
 have next:∀a' w', C (cnt cs (listed.setIfInBounds i true)) w' → sAny (seqG P cs C) (fun i=>decide (i∈cs)) md ops Q fuel (listed.setIfInBounds i true) a' → wpAny P md ops Q' fuel (listed.setIfInBounds i true) a' w' :=
   fun a' w' hp' hg' =>ih _ a' w' hs' (hsh.set hi) hp' hg'
 unfold sOp at hg;unfold wpOp;simp only[hoi]at hg ⊢;by_cases hmem:i∈cs
 {
 have hcs:=cnt_set (L:=listed) (by omega) hl0 hnd hmem;have hidx:cs.idxOf i=cnt cs listed:=by {
 have hlt:=List.idxOf_lt_length_of_mem hmem;have hget:cs[cs.idxOf i]? =some i:=by rw[qT hlt,List.getElem_idxOf]
 have h1:=row_prefix hsh hrow _ _ hget;rw[hl0]at h1;have hge:cnt cs listed≤cs.idxOf i:=by {
 apply qZ;intro hx;have:=h1.2 (by omega);cases this};have h2:=row_prefix (hsh.set hi) hrow _ _ hget;rw[hcs]at h2;have h3:(listed.setIfInBounds i true).getD i false=true:=by simp[hs,hil]
 have:=h2.1 h3;omega};by_cases hw:Region.wanted oi (yielded ops a.tmps)=true
 {
 rw[qI hw]at hg ⊢;obtain⟨v,hv,hk⟩:=hg;unfold seqG at hv;rw[qI hmem,hidx]at hv;exact .inl (write_upon (fun w' hc' =>next _ w' (by rw[hcs];exact hc') hk) (hv w hp))}
 {
 rw[qH hw]at hg;exact absurd hmem (of_decide_eq_false hg.1)}}
 {
 have hcs:=cnt_other (L:=listed) hmem;by_cases hw:Region.wanted oi (yielded ops a.tmps)=true
 {
 rw[qI hw]at hg ⊢;obtain⟨v,hv,hk⟩:=hg;unfold seqG at hv;left
 rw[qH hmem]at hv;exact quiet_upon hp (fun w' hc' =>next _ w' (by rw[hcs];exact hc') hk) (hv _ w hp)}
 {
 rw[qH hw]at hg ⊢;exact next _ w (by rw[hcs];exact hp) hg.2}}}
structure SW (P:Program) (ops:Array Oper) (cs:List Nat) (C:Nat→World→Prop) (Q:Act→Prop) (k:Nat) (l:List Oper) (a:Act):Prop where
  out:sWalk (seqG P cs C) (fun i=>decide (i∈cs)) ops Q k l a
theorem region_sw(cs:List Nat){id:Nat}{Q:Exit→Act→World→Prop}{a:Act}{w:World}{l:List Oper}(C:Nat→World→Prop)(hm:P.follows .mixedOrders=true)(hB:Region.lexB .any l.toArray=true)(hk:(edgesBack .any l.toArray&&rowB .any l.toArray cs)=true)
    (hC:C 0 w.drew) (h:SW P l.toArray cs C (fun a' =>∀w', C cs.length w' → Q .normal a' w') 0 l a):(Code.region id l.toArray true).wp P Q a w:=by
 simp only[Region.lexB,zG]at hB;rw[zG]at hk;refine wp_region_any hm (any_of_sSeq (Q:=fun a' =>∀w', C cs.length w' → Q .normal a' w') (C:=C) (cs:=cs) hk.2 hk.1 (fun _ w' hw' h=>h w' hw') _ _ _ _ (by simp) ?_ ?_ ?_)
 · intro j oj _ hl;rw[rep_false]at hl;cases hl
 {
 have:cnt cs (Array.replicate l.toArray.size false)=0:=by unfold cnt;rw[List.countP_eq_zero];intro c _;rw[rep_false];simp
 rw[this];exact hC}
 {
 have:=sAny_lex (G:=seqG P cs C) (must:=fun i=>decide (i∈cs)) (md:=.any) hB.1 l 0 (Array.replicate l.toArray.size false) a (by simp) (by simpa using hB.2) h.out;simpa using this}
variable {Q:Act→Prop} {k:Nat} {o:Oper} {rest:List Oper} {a:Act}
theorem sw_val(hk:decide (k∈cs)=false)(hw:Region.wanted o (yielded ops a.tmps)=true)(v:Value)
    (h0:∀q w,C q w→Oper.quietUpon P (C q) w v ((execOp a.eval o).run P w)) (h:SW P ops cs C Q (k+1) rest (a.put o.dst v)):SW P ops cs C Q k (o::rest) a:=by
 refine⟨?_⟩;unfold sWalk;rw[qI hw];refine⟨v,?_,h.out⟩;unfold seqG;rw[qH (of_decide_eq_false hk)];exact h0
theorem sw_pure(hk:decide (k∈cs)=false)(hw:Region.wanted o (yielded ops a.tmps)=true)
    (h:∀K:Act→Prop,Hid (∀a,SW P ops cs C Q (k+1) rest a→K a)→Oper.pure_ P o a K):SW P ops cs C Q k (o::rest) a:=by
 obtain⟨v,h1,h2⟩:=h _ (qB fun a h=>h);refine sw_val hk hw v (fun q w _=>?_) h2;have:=h1 w;unfold Oper.quietUpon;unfold Oper.quietAt at *;revert this;generalize (execOp a.eval o).run P w=r;intro this;cases r with
 | halt x w' =>exact this.elim
 | ok x w' =>{
 cases x with
 | value u=>exact⟨this.1,this.2⟩
 | skip=>exact⟨this.1,this.2⟩
 | _=>exact this.elim}
theorem sw_call(q:Nat)(hk:(decide (k∈cs)&&decide (cs.idxOf k=q))=true)(hw:Region.wanted o (yielded ops a.tmps)=true)(v:Value)
    (h0:∀w,C q w→writeUpon P (C (q+1)) v ((execOp a.eval o).run P w)) (h:SW P ops cs C Q (k+1) rest (a.put o.dst v)):SW P ops cs C Q k (o::rest) a:=by
 rw[zG]at hk;refine⟨?_⟩;unfold sWalk;rw[qI hw];refine⟨v,?_,h.out⟩;unfold seqG;rw[qI (of_decide_eq_true hk.1),of_decide_eq_true hk.2];exact h0
theorem sw_nil(h:Q a):SW P ops cs C Q k [] a:=⟨h⟩
end
set_option maxRecDepth 10000
set_option maxHeartbeats 1600000
theorem from_w{x:Nat}(hx:x≤9223372036854775807)(w:World):
    Calls Tryz.prog 131 #[.int .i64 x] w fun e w' =>e=.returned (.agg #[.bool false,.int .u64 (wd x 0:Nat),.int .u64 (wd x 1:Nat),.int .u64 0,.int .u64 0,.int .u64 0,.int .u64 0])∧Fr [] w w' :=by
 have hw1:IntKind.u64.wrap (x:Int)=x:=by simp[IntKind.wrap,IntKind.bits,IntKind.signed];omega
 have hd0:decide ((x:Int)<0)=false:=qK (by omega);have ht3:(x:Int).tmod 4294967296=((wd x 0:Nat):Int):=by rw[Int.tmod_eq_emod_of_nonneg (by omega)];show _=((x%4294967296:Nat):Int);omega
 have ht4:(x:Int).tdiv 4294967296=((wd x 1:Nat):Int):=by rw[Int.tdiv_eq_ediv_of_nonneg (by omega)];show _=((x/4294967296:Nat):Int);omega
 have h0:=wd_lt hx 0;have h1:=wd_lt hx 1;have hm3:(x:Int)%4294967296=((wd x 0:Nat):Int):=by show _=((x%4294967296:Nat):Int);omega
 have hm4:(x:Int)/4294967296=((wd x 1:Nat):Int):=by show _=((x/4294967296:Nat):Int);omega
 generalize wd x 0=a at *;generalize wd x 1=b at *;have hw3:IntKind.u64.wrap (a:Int)=a:=by simp[IntKind.wrap,IntKind.bits,IntKind.signed];omega
 have hw4:IntKind.u64.wrap (b:Int)=b:=by simp[IntKind.wrap,IntKind.bits,IntKind.signed];omega
 clear h0 h1;go_enter Tryz.func131,Tryz.ntmps131
 go_wp2
 have hb:=(Blk.new w [.bool false,.int .u64 a,.int .u64 b,.int .u64 0,.int .u64 0,.int .u64 0,.int .u64 0] 185).alloc (.cells #[.bool false,.int .u64 a,.int .u64 b,.int .u64 0,.int .u64 0,.int .u64 0,.int .u64 0] 185);have r0:=hb.cell 0;have r1:=hb.cell 1;have r2:=hb.cell 2;have r3:=hb.cell 3;have r4:=hb.cell 4;have r5:=hb.cell 5;have r6:=hb.cell 6;simp only[zS,zT]at r0 r1 r2 r3 r4 r5 r6;exact bodyPost_ret (v:=.agg #[.bool false,.int .u64 a,.int .u64 b,.int .u64 0,.int .u64 0,.int .u64 0,.int .u64 0]) (by simp[results,Tryz.results131,go_sem,r0,r1,r2,r3,r4,r5,r6]) rfl ⟨rfl,((Fr.refl [] w).alloc _).alloc _⟩
theorem plus_w{x y:Nat}(hx:x≤9223372036854775807)(hy:y≤9223372036854775807)(w:World):
    Calls Tryz.prog 130 #[.agg #[.bool false,.int .u64 (wd x 0:Nat),.int .u64 (wd x 1:Nat),.int .u64 0,.int .u64 0,.int .u64 0,.int .u64 0],.agg #[.bool false,.int .u64 (wd y 0:Nat),.int .u64 (wd y 1:Nat),.int .u64 0,.int .u64 0,.int .u64 0,.int .u64 0]] w fun e w' =>e=.returned (.agg #[.bool false,.int .u64 (dig x y 0:Nat),.int .u64 (dig x y 1:Nat),.int .u64 (dig x y 2:Nat),.int .u64 (dig x y 3:Nat),.int .u64 (dig x y 4:Nat),.int .u64 (dig x y 5:Nat)])∧Fr [] w w' :=by
 obtain⟨w3,hw3⟩:∃w3,w3=((w.alloc (.cells #[.bool false,.int .u64 (wd x 0:Nat),.int .u64 (wd x 1:Nat),.int .u64 0,.int .u64 0,.int .u64 0,.int .u64 0] 185)).alloc (.cells #[.bool false,.int .u64 (wd y 0:Nat),.int .u64 (wd y 1:Nat),.int .u64 0,.int .u64 0,.int .u64 0,.int .u64 0] 185)).alloc (.cells #[.bool false,.int .u64 0,.int .u64 0,.int .u64 0,.int .u64 0,.int .u64 0,.int .u64 0] 185):=⟨_,rfl⟩;have ha:Blk w3 w.heap.size 185 [.bool false,.int .u64 (wd x 0:Nat),.int .u64 (wd x 1:Nat),.int .u64 0,.int .u64 0,.int .u64 0,.int .u64 0]:=by rw[hw3];exact((Blk.new w _ _).alloc _).alloc _
 have hb:Blk w3 (w.heap.size+1) 185 [.bool false,.int .u64 (wd y 0:Nat),.int .u64 (wd y 1:Nat),.int .u64 0,.int .u64 0,.int .u64 0,.int .u64 0]:=by {
 rw[hw3];have:=(Blk.new (w.alloc (.cells #[.bool false,.int .u64 (wd x 0:Nat),.int .u64 (wd x 1:Nat),.int .u64 0,.int .u64 0,.int .u64 0,.int .u64 0] 185)) [.bool false,.int .u64 (wd y 0:Nat),.int .u64 (wd y 1:Nat),.int .u64 0,.int .u64 0,.int .u64 0,.int .u64 0] 185).alloc (.cells #[.bool false,.int .u64 0,.int .u64 0,.int .u64 0,.int .u64 0,.int .u64 0,.int .u64 0] 185);simp only[World.size_alloc]at this;exact this};have hr:Blk w3 (w.heap.size+1+1) 185 [.bool false,.int .u64 0,.int .u64 0,.int .u64 0,.int .u64 0,.int .u64 0,.int .u64 0]:=by {
 rw[hw3];have:=Blk.new ((w.alloc (.cells #[.bool false,.int .u64 (wd x 0:Nat),.int .u64 (wd x 1:Nat),.int .u64 0,.int .u64 0,.int .u64 0,.int .u64 0] 185)).alloc (.cells #[.bool false,.int .u64 (wd y 0:Nat),.int .u64 (wd y 1:Nat),.int .u64 0,.int .u64 0,.int .u64 0,.int .u64 0] 185)) [.bool false,.int .u64 0,.int .u64 0,.int .u64 0,.int .u64 0,.int .u64 0,.int .u64 0] 185;simp only[World.size_alloc]at this;exact this};have hF0:Fr [] w w3:=by rw[hw3];exact(((Fr.refl [] w).alloc _).alloc _).alloc _
 have a0:=ha.cell 0;have a1:=ha.cell 1;have a2:=ha.cell 2;have a3:=ha.cell 3;have a4:=ha.cell 4;have a5:=ha.cell 5;have a6:=ha.cell 6;have b0:=hb.cell 0;have b1:=hb.cell 1;have b2:=hb.cell 2;have b3:=hb.cell 3;have b4:=hb.cell 4;have b5:=hb.cell 5;have b6:=hb.cell 6;simp only[zS,zT]at a0 a1 a2 a3 a4 a5 a6 b0 b1 b2 b3 b4 b5 b6;have HM:=qB (fun w=>more_w hx hy w);have HW3:=qB hw3;rw[hw3]at a0 b0;clear hw3;go_enter Tryz.func130,Tryz.ntmps130
 go_wp2_with fail
 rw[←HW3.out];rw[←HW3.out]at a0 b0;obtain⟨ba,hba⟩:∃ba,ba=w.heap.size:=⟨_,rfl⟩;rw[←hba]at a0 a1 a2 a3 a4 a5 a6 b0 b1 b2 b3 b4 b5 b6 hr ⊢;obtain⟨br,hbr⟩:∃br,br=ba+1+1:=⟨_,rfl⟩;rw[←hbr]at hr ⊢;have HNe:=qB (show ba∉[br]∧ba+1∉[br] from⟨fun h=>by have:=qP.1 h;omega,fun h=>by have:=qP.1 h;omega⟩);have H3:=qB (zR hr (zR hF0 (zR hba hbr)));obtain⟨CX,hCX⟩:∃CX:Nat→World→Prop,CX=fun q w' =>match q with
   | 0=>Fr [br] w3 w' ∧ Blk w' br 185 [.bool false,.int .u64 0,.int .u64 0,.int .u64 0,.int .u64 0,.int .u64 0,.int .u64 0]
   | _=>Fr [br] w3 w' ∧ Blk w' br 185 [.bool false,.int .u64 (dig x y 0:Nat),.int .u64 (dig x y 1:Nat),.int .u64 (dig x y 2:Nat),.int .u64 (dig x y 3:Nat),.int .u64 (dig x y 4:Nat),.int .u64 (dig x y 5:Nat)]:=⟨_,rfl⟩
 have HCF:=qB (show ∀q w', CX q w' → Fr [br] w3 w' from fun q w' h=>by
   rw[hCX]at h;match q,h with
   | 0,h=>exact h.1
   | n+1,h=>exact h.1)
 have HB0:=qB (show ∀w', CX 0 w' → Fr [br] w3 w' ∧ Blk w' br 185 [.bool false,.int .u64 0,.int .u64 0,.int .u64 0,.int .u64 0,.int .u64 0,.int .u64 0] from fun w' h=>by rw[hCX]at h;exact h);have HB1:=qB (show ∀w', CX 1 w' → Fr [br] w3 w' ∧ Blk w' br 185 [.bool false,.int .u64 (dig x y 0:Nat),.int .u64 (dig x y 1:Nat),.int .u64 (dig x y 2:Nat),.int .u64 (dig x y 3:Nat),.int .u64 (dig x y 4:Nat),.int .u64 (dig x y 5:Nat)] from fun w' h=>by rw[hCX]at h;exact h);have HC0:=qB (show CX 0 w3.drew by rw[hCX];exact⟨(Fr.refl _ w3).drew,hr.drew⟩);have HMr:=qB (show ∀q w', CX q w' → Calls Tryz.prog 169 #[.agg #[.int .u64 (wd x 0:Nat),.int .u64 (wd x 1:Nat),.int .u64 0,.int .u64 0,.int .u64 0,.int .u64 0],.agg #[.int .u64 (wd y 0:Nat),.int .u64 (wd y 1:Nat),.int .u64 0,.int .u64 0,.int .u64 0,.int .u64 0]] w' fun e w'' =>e=.returned (.agg #[.int .u64 (dig x y 0:Nat),.int .u64 (dig x y 1:Nat),.int .u64 (dig x y 2:Nat),.int .u64 (dig x y 3:Nat),.int .u64 (dig x y 4:Nat),.int .u64 (dig x y 5:Nat)])∧CX q w'' from fun q w' h=>(HM.out w').mono fun e w'' k=>⟨k.1,by
   rw[hCX]at h ⊢;match q,h with
   | 0,h=>exact⟨h.1.trans k.2 (by simp),k.2.blk h.2 (by simp)⟩
   | n+1,h=>exact⟨h.1.trans k.2 (by simp),k.2.blk h.2 (by simp)⟩⟩)
 have HSt:=qB (show ∀w', CX 0 w' → CX 1 (((((((w'.setCell ⟨br,0,none⟩ (.bool false)).setCell ⟨br,1,none⟩ (.int .u64 (dig x y 0:Nat))).setCell ⟨br,2,none⟩ (.int .u64 (dig x y 1:Nat))).setCell ⟨br,3,none⟩ (.int .u64 (dig x y 2:Nat))).setCell ⟨br,4,none⟩ (.int .u64 (dig x y 3:Nat))).setCell ⟨br,5,none⟩ (.int .u64 (dig x y 4:Nat))).setCell ⟨br,6,none⟩ (.int .u64 (dig x y 5:Nat))) from fun w' h=>by
   rw[hCX]at h ⊢;obtain⟨h1,h2⟩:=h;exact⟨(((((((h1.setCell ⟨br,0,none⟩ (.bool false) (.inl (by simp))).setCell ⟨br,1,none⟩ (.int .u64 (dig x y 0:Nat)) (.inl (by simp))).setCell ⟨br,2,none⟩ (.int .u64 (dig x y 1:Nat)) (.inl (by simp))).setCell ⟨br,3,none⟩ (.int .u64 (dig x y 2:Nat)) (.inl (by simp))).setCell ⟨br,4,none⟩ (.int .u64 (dig x y 3:Nat)) (.inl (by simp))).setCell ⟨br,5,none⟩ (.int .u64 (dig x y 4:Nat)) (.inl (by simp))).setCell ⟨br,6,none⟩ (.int .u64 (dig x y 5:Nat)) (.inl (by simp))),((((((h2.set 0 (.bool false)).set 1 (.int .u64 (dig x y 0:Nat))).set 2 (.int .u64 (dig x y 1:Nat))).set 3 (.int .u64 (dig x y 2:Nat))).set 4 (.int .u64 (dig x y 3:Nat))).set 5 (.int .u64 (dig x y 4:Nat))).set 6 (.int .u64 (dig x y 5:Nat))⟩)
 clear hr hF0 hba hbr hCX ha hb HM HW3;refine region_sw [8] CX (by kernel_rfl) (by kernel_rfl) (by kernel_rfl) HC0.out ?_;iterate 1 (refine sw_pure (by decide) (by kernel_rfl) (fun KK hK=>?_);go_simp;refine hK.out _ ?_;clear hK KK)
 refine sw_val (by decide) (by kernel_rfl) (.bool false) (fun q w' hw' =>?_) ?_
 {
 have c0:=(HCF.out q w' hw').cell a0 HNe.out.1;have c1:=(HCF.out q w' hw').cell a1 HNe.out.1;have c2:=(HCF.out q w' hw').cell a2 HNe.out.1;have c3:=(HCF.out q w' hw').cell a3 HNe.out.1;have c4:=(HCF.out q w' hw').cell a4 HNe.out.1;have c5:=(HCF.out q w' hw').cell a5 HNe.out.1;have c6:=(HCF.out q w' hw').cell a6 HNe.out.1;go_simp;first|done|exact hw' | exact⟨rfl,hw'⟩};iterate 1 (refine sw_pure (by decide) (by kernel_rfl) (fun KK hK=>?_);go_simp;refine hK.out _ ?_;clear hK KK)
 refine sw_val (by decide) (by kernel_rfl) (.agg #[.int .u64 (wd x 0:Nat),.int .u64 (wd x 1:Nat),.int .u64 0,.int .u64 0,.int .u64 0,.int .u64 0]) (fun q w' hw' =>?_) ?_
 {
 have c0:=(HCF.out q w' hw').cell a0 HNe.out.1;have c1:=(HCF.out q w' hw').cell a1 HNe.out.1;have c2:=(HCF.out q w' hw').cell a2 HNe.out.1;have c3:=(HCF.out q w' hw').cell a3 HNe.out.1;have c4:=(HCF.out q w' hw').cell a4 HNe.out.1;have c5:=(HCF.out q w' hw').cell a5 HNe.out.1;have c6:=(HCF.out q w' hw').cell a6 HNe.out.1;go_simp;first|done|exact hw' | exact⟨rfl,hw'⟩};iterate 1 (refine sw_pure (by decide) (by kernel_rfl) (fun KK hK=>?_);go_simp;refine hK.out _ ?_;clear hK KK)
 refine sw_val (by decide) (by kernel_rfl) (.agg #[.int .u64 (wd y 0:Nat),.int .u64 (wd y 1:Nat),.int .u64 0,.int .u64 0,.int .u64 0,.int .u64 0]) (fun q w' hw' =>?_) ?_
 {
 have c0:=(HCF.out q w' hw').cell b0 HNe.out.2;have c1:=(HCF.out q w' hw').cell b1 HNe.out.2;have c2:=(HCF.out q w' hw').cell b2 HNe.out.2;have c3:=(HCF.out q w' hw').cell b3 HNe.out.2;have c4:=(HCF.out q w' hw').cell b4 HNe.out.2;have c5:=(HCF.out q w' hw').cell b5 HNe.out.2;have c6:=(HCF.out q w' hw').cell b6 HNe.out.2;go_simp;first|done|exact hw' | exact⟨rfl,hw'⟩};refine sw_val (by decide) (by kernel_rfl) (.agg #[.int .u64 (dig x y 0:Nat),.int .u64 (dig x y 1:Nat),.int .u64 (dig x y 2:Nat),.int .u64 (dig x y 3:Nat),.int .u64 (dig x y 4:Nat),.int .u64 (dig x y 5:Nat)]) (fun q w' hw' =>?_) ?_
 {
 go_simp;exact HMr.out q w' hw'};iterate 1 (refine sw_pure (by decide) (by kernel_rfl) (fun KK hK=>?_);go_simp;refine hK.out _ ?_;clear hK KK)
 refine sw_call 0 (by decide) (by kernel_rfl) (undef) (fun w' hw' =>?_) ?_
 {
 obtain⟨hF,hbx⟩:=HB0.out w' hw';have e0:=hbx.cell 0;have z0:=hbx.frozen 0;have e1:=hbx.cell 1;have z1:=hbx.frozen 1;have e2:=hbx.cell 2;have z2:=hbx.frozen 2;have e3:=hbx.cell 3;have z3:=hbx.frozen 3;have e4:=hbx.cell 4;have z4:=hbx.frozen 4;have e5:=hbx.cell 5;have z5:=hbx.frozen 5;have e6:=hbx.cell 6;have z6:=hbx.frozen 6;simp only[zS,zT]at e0 e1 e2 e3 e4 e5 e6;unfold writeUpon;go_simp;exact HSt.out w' hw'};refine sw_nil ?_;intro w6 hC6;obtain⟨hF6,hb6⟩:=HB1.out w6 hC6;have r0:=hb6.cell 0;have r1:=hb6.cell 1;have r2:=hb6.cell 2;have r3:=hb6.cell 3;have r4:=hb6.cell 4;have r5:=hb6.cell 5;have r6:=hb6.cell 6;simp only[zS,zT]at r0 r1 r2 r3 r4 r5 r6;have HFe:=qB (H3.out.2.1.trans hF6 (fun b hb=>.inr (by rw[qP.1 hb,H3.out.2.2.2,←H3.out.2.2.1];omega)));clear a0 a1 a2 a3 a4 a5 a6 b0 b1 b2 b3 b4 b5 b6 hC6 hF6 hb6 HSt HMr HC0 HB0 HB1 HCF H3;go_wp2
 exact bodyPost_ret (v:=.agg #[.bool false,.int .u64 (dig x y 0:Nat),.int .u64 (dig x y 1:Nat),.int .u64 (dig x y 2:Nat),.int .u64 (dig x y 3:Nat),.int .u64 (dig x y 4:Nat),.int .u64 (dig x y 5:Nat)]) (by simp[results,Tryz.results130,go_sem,r0,r1,r2,r3,r4,r5,r6]) rfl ⟨rfl,HFe.out⟩
theorem int_w{x y:Nat}(hx:x≤9223372036854775807)(hy:y≤9223372036854775807)(w:World):
    Calls Tryz.prog 168 #[.agg #[.bool false,.int .u64 (dig x y 0:Nat),.int .u64 (dig x y 1:Nat),.int .u64 (dig x y 2:Nat),.int .u64 (dig x y 3:Nat),.int .u64 (dig x y 4:Nat),.int .u64 (dig x y 5:Nat)]] w fun e w' =>e=.returned (.tuple #[.int .i64 (sumV x y),.bool (decide (x+y≤9223372036854775807))])∧Fr [] w w' :=by
 obtain⟨h1,h2,h3,h4,h5⟩:=dig_sum hx hy;rw[h2,h3,h4,h5];have l0:dig x y 0<4294967296:=Nat.mod_lt _ (by omega);have l1:dig x y 1<4294967296:=Nat.mod_lt _ (by omega);clear h2 h3 h4 h5;generalize dig x y 0=a at *;generalize dig x y 1=b at *;obtain⟨s,hs⟩:∃s,s=x+y:=⟨_,rfl⟩;rw[←hs]at h1 ⊢;have hw1:IntKind.u64.wrap ((b:Int)*4294967296+a)=(s:Int):=by rw[←h1];simp[IntKind.wrap,IntKind.bits,IntKind.signed];omega
 have hw2:IntKind.u64.wrap ((b:Int)*4294967296)=(b:Int)*4294967296:=by simp[IntKind.wrap,IntKind.bits,IntKind.signed];omega
 have hb:=Blk.new w [.bool false,.int .u64 a,.int .u64 b,.int .u64 0,.int .u64 0,.int .u64 0,.int .u64 0] 185;have r0:=hb.cell 0;have r1:=hb.cell 1;have r2:=hb.cell 2;have r3:=hb.cell 3;have r4:=hb.cell 4;have r5:=hb.cell 5;have r6:=hb.cell 6;simp only[zS,zT]at r0 r1 r2 r3 r4 r5 r6;have HF:=qB ((Fr.refl [] w).alloc (.cells #[.bool false,.int .u64 a,.int .u64 b,.int .u64 0,.int .u64 0,.int .u64 0,.int .u64 0] 185));have hsum:((x:Int)+y)=(s:Int):=by omega
 by_cases hle:s≤9223372036854775807
 {
 have e1:sumV x y=(s:Int):=by unfold sumV;rw[qI (by omega)];exact hsum
 have e2:decide (s≤9223372036854775807)=true:=qO hle;rw[e1,e2];have d1:decide ((s:Int)>9223372036854775807)=false:=qK (by omega);have hw3:IntKind.i64.wrap (s:Int)=s:=by simp[IntKind.wrap,IntKind.bits,IntKind.signed];omega
 clear e1 e2 hsum hle hs h1 hb;go_enter Tryz.func168,Tryz.ntmps168
 go_wp2
 go_ret2;exact⟨rfl,HF.out⟩}
 {
 have e1:sumV x y=0:=by unfold sumV;exact qH (by omega)
 have e2:decide (s≤9223372036854775807)=false:=qK hle;rw[e1,e2];have d1:decide ((s:Int)>9223372036854775807)=true:=qO (by omega);clear e1 e2 hsum hle hs h1 hb;go_enter Tryz.func168,Tryz.ntmps168
 go_wp2
 go_ret2;exact⟨rfl,HF.out⟩}
theorem fit_w{x y:Nat}(hx:x≤9223372036854775807)(hy:y≤9223372036854775807)(w:World):
    Calls Tryz.prog 129 #[.agg #[.bool false,.int .u64 (dig x y 0:Nat),.int .u64 (dig x y 1:Nat),.int .u64 (dig x y 2:Nat),.int .u64 (dig x y 3:Nat),.int .u64 (dig x y 4:Nat),.int .u64 (dig x y 5:Nat)]] w fun e w' =>e=.returned (.tuple #[.int .i64 (sumV x y),.int .i64 (sumC x y)])∧Fr [] w w' :=by
 have HI:=qB (fun w=>int_w hx hy w);have hb:=Blk.new w [.bool false,.int .u64 (dig x y 0:Nat),.int .u64 (dig x y 1:Nat),.int .u64 (dig x y 2:Nat),.int .u64 (dig x y 3:Nat),.int .u64 (dig x y 4:Nat),.int .u64 (dig x y 5:Nat)] 185;have r0:=hb.cell 0;have r1:=hb.cell 1;have r2:=hb.cell 2;have r3:=hb.cell 3;have r4:=hb.cell 4;have r5:=hb.cell 5;have r6:=hb.cell 6;simp only[zS,zT]at r0 r1 r2 r3 r4 r5 r6;have HF:=qB ((Fr.refl [] w).alloc (.cells #[.bool false,.int .u64 (dig x y 0:Nat),.int .u64 (dig x y 1:Nat),.int .u64 (dig x y 2:Nat),.int .u64 (dig x y 3:Nat),.int .u64 (dig x y 4:Nat),.int .u64 (dig x y 5:Nat)] 185));clear hb;by_cases hle:x+y≤9223372036854775807
 {
 have e2:decide (x+y≤9223372036854775807)=true:=qO hle;have e3:sumC x y=0:=by unfold sumC;exact qI (by omega)
 rw[e2]at HI;rw[e3];clear e2 e3 hle;generalize sumV x y=sv at *;go_enter Tryz.func129,Tryz.ntmps129
 go_wp2_with fail
 refine(HI.out _).mono ?_;rintro _ w2 ⟨rfl,hF⟩;have HF2:=qB (HF.out.trans' hF);clear hF;go_wp2
 go_ret2;exact⟨rfl,HF2.out⟩}
 {
 have e2:decide (x+y≤9223372036854775807)=false:=qK hle;have e3:sumC x y=7:=by unfold sumC;exact qH (by omega)
 have e1:sumV x y=0:=by unfold sumV;exact qH (by omega)
 rw[e2,e1]at HI;rw[e3,e1];clear e1 e2 e3 hle;go_enter Tryz.func129,Tryz.ntmps129
 go_wp2_with fail
 refine(HI.out _).mono ?_;rintro _ w2 ⟨rfl,hF⟩;have HF2:=qB (HF.out.trans' hF);clear hF;go_wp2
 go_ret2;exact⟨rfl,HF2.out⟩}
theorem r01_add{x y:Int}(hx0:0≤x)(hx:x≤9223372036854775807)(hy0:0≤y)(hy:y≤9223372036854775807)(w:World):
    Calls Tryz.prog 78 #[.int .i64 x,.int .i64 y] w fun e w' =>e=.returned (.tuple #[.int .i64 (sumV x y),.int .i64 (sumC x y)])∧Fr [] w w' :=by
 obtain⟨x,rfl⟩:=Int.eq_ofNat_of_zero_le hx0;obtain⟨y,rfl⟩:=Int.eq_ofNat_of_zero_le hy0;have H1:=qB (fun w=>from_w (x:=x) (by omega) w);have H2:=qB (fun w=>from_w (x:=y) (by omega) w);have H3:=qB (fun w=>plus_w (x:=x) (y:=y) (by omega) (by omega) w);have H4:=qB (fun w=>fit_w (x:=x) (y:=y) (by omega) (by omega) w);clear hx0 hx hy0 hy;generalize sumV x y=sv at *;generalize sumC x y=sc at *;go_enter Tryz.func78,Tryz.ntmps78
 go_wp2_with fail
 refine(H1.out _).mono ?_;rintro _ w1 ⟨rfl,hF⟩;have HF1:=qB hF;clear hF;go_wp2_with fail
 refine(H2.out _).mono ?_;rintro _ w2 ⟨rfl,hF⟩;have HF2:=qB (HF1.out.trans' hF);clear hF;go_wp2_with fail
 refine(H3.out _).mono ?_;rintro _ w3 ⟨rfl,hF⟩;have HF3:=qB (HF2.out.trans' hF);clear hF;go_wp2_with fail
 refine(H4.out _).mono ?_;rintro _ w4 ⟨rfl,hF⟩;have HF4:=qB (HF3.out.trans' hF);clear hF;go_wp2
 go_ret2;exact⟨rfl,HF4.out⟩
def rfC(o:Ob)(v:Value):List Value:=[.bool true,.int .i64 o.m,.int .i64 o.E,.int .i64 o.V,.int .i64 o.D,.int .i64 o.now,v,.int .u64 o.last,.int .u64 o.gone]
def RfAt(w:World)(pr:Nat)(o:Ob)(K:List Nat):Prop:=∃a c,Blk w pr 115 (rfC o (.slice a o.L.length c))∧RowV w (.slice a o.L.length c) o.L∧(∀q,(Value.slice a o.L.length c).ownBlock=some q→q≠pr)∧K=pr::(Value.slice a o.L.length c).ownBlock.toList
def thF(p:Nat)(o:Ob):Th:=⟨fun w K=>RfAt w p o K,
  fun⟨a,c,h1,h2,h3,e⟩ q hq=>by
    rw[e]at hq;rcases qF.1 hq with rfl|hq
    · exact h1.lt
    · exact h2.lt (by simpa using hq),
  fun⟨a,c,h1,h2,h3,e⟩ hf hs=>⟨a,c,hf.blk h1 (hs _ (by simp[e])),h2.fr hf (fun q hq=>hs q (by rw[e];simp[hq])),h3,e⟩⟩
section
variable {W wr w w' :World} {p:Nat} {o:Ob} {ts:List Th} {a:Option Addr} {c n:Nat}
theorem rfv_w(h:Blk w p 115 (rfC o (.slice a n c))):Calls Tryz.prog 117 #[wptr p] w fun e w' =>e=.returned (.bool true)∧w' =w:=by
 have c0:=h.cell 0;simp only[rfC,zS]at c0;clear h;go_enter Tryz.func117,Tryz.ntmps117
 go_wp2
 go_ret;exact⟨rfl,rfl⟩
theorem rd_now(h:Wd W wr (thF p o::ts)):Calls Tryz.prog 64 #[wptr p] wr fun e w' =>e=.returned (.int .i64 o.now)∧w' =wr:=by
 obtain⟨K,a,c,h1,_⟩:=h.get;have HV:=qB (rfv_w h1);have c5:=h1.cell 5;simp only[rfC,zS,zT]at c5;clear h1 h;go_enter Tryz.func64,Tryz.ntmps64
 go_wp2_with fail
 refine HV.out.mono ?_;rintro _ w ⟨rfl,rfl⟩;go_wp2
 go_ret;exact⟨rfl,rfl⟩
theorem rd_added(h:Wd W wr (thF p o::ts)):Calls Tryz.prog 62 #[wptr p] wr fun e w' =>e=.returned (.tuple #[.int .u64 o.last,.int .u64 o.gone])∧Fr [] wr w' :=by
 obtain⟨K,a,c,h1,_⟩:=h.get;have HV:=qB (rfv_w h1);have c7:=h1.cell 7;have c8:=h1.cell 8;simp only[rfC,zS,zT]at c7 c8;clear h1 h;go_enter Tryz.func62,Tryz.ntmps62
 go_wp2_with fail
 refine HV.out.mono ?_;rintro _ w ⟨rfl,rfl⟩;go_wp2_with fail
 go_quiet (fail)
 go_wp2
 go_ret2;exact⟨rfl,(Fr.refl _ _).drewN _⟩
theorem rd_version(h:Wd W wr (thF p o::ts))(hs:o.last+o.gone<18446744073709551616):Calls Tryz.prog 63 #[wptr p] wr fun e w' =>e=.returned (.int .u64 (o.last+o.gone:Nat))∧Fr [] wr w' :=by
 have HA:=qB (rd_added h);have hw:IntKind.u64.wrap ((o.last:Int)+o.gone)=((o.last+o.gone:Nat):Int):=by simp[IntKind.wrap,IntKind.bits,IntKind.signed];omega
 clear h hs;go_enter Tryz.func63,Tryz.ntmps63
 go_wp2_with fail
 refine HA.out.mono ?_;rintro _ w2 ⟨rfl,hF⟩;have HF:=qB hF;clear hF;go_wp2
 go_ret;exact⟨rfl,HF.out⟩
theorem rd_config(h:Wd W wr (thF p o::ts)):Calls Tryz.prog 65 #[wptr p] wr fun e w' =>e=.returned (.agg #[.int .i64 o.m,.int .i64 o.E,.int .i64 o.V,.int .i64 o.D])∧Fr [] wr w' :=by
 obtain⟨K,a,c,h1,_⟩:=(h.fr0 ((Fr.refl [] wr).alloc (.cells #[.int .i64 0,.int .i64 0,.int .i64 0,.int .i64 0] 55))).get;have HV:=qB (rfv_w h1);have c1:=h1.cell 1;have c2:=h1.cell 2;have c3:=h1.cell 3;have c4:=h1.cell 4;have hb:=Blk.new wr [.int .i64 o.m,.int .i64 o.E,.int .i64 o.V,.int .i64 o.D] 55;have r0:=hb.cell 0;have r1:=hb.cell 1;have r2:=hb.cell 2;have r3:=hb.cell 3;simp only[rfC,zS,zT]at c1 c2 c3 c4 r0 r1 r2 r3;have HF:=qB ((Fr.refl [] wr).alloc (.cells #[.int .i64 o.m,.int .i64 o.E,.int .i64 o.V,.int .i64 o.D] 55));clear h h1 hb;go_enter Tryz.func65,Tryz.ntmps65
 go_wp2_with fail
 refine HV.out.mono ?_;rintro _ _ ⟨rfl,rfl⟩;go_wp2
 exact bodyPost_ret (v:=.agg #[.int .i64 o.m,.int .i64 o.E,.int .i64 o.V,.int .i64 o.D]) (by simp[results,Tryz.results65,go_sem,r0,r1,r2,r3]) rfl ⟨rfl,HF.out⟩
theorem rd_ids(h:Wd W wr (thF p o::ts))(hl:o.L.length≤16384):Calls Tryz.prog 67 #[wptr p] wr fun e w' =>∃v,e=.returned v∧Wd W w' (thU v (idsL o.L)::thF p o::ts):=by
 obtain⟨K,a,c,h1,h2,_⟩:=h.get;have HV:=qB (rfv_w h1);have HI:=qB (rw_ids h2 hl);have c6:=h1.cell 6;simp only[rfC,zS,zT]at c6;have HW:=qB h;clear h h1 h2;go_enter Tryz.func67,Tryz.ntmps67
 go_wp2_with fail
 refine HV.out.mono ?_;rintro _ _ ⟨rfl,rfl⟩;go_wp2_with fail
 refine HI.out.mono ?_;rintro _ w2 ⟨v,rfl,k1,k2,k3⟩;have HN:=qB (show Wd W w2 (thU v (idsL o.L)::thF p o::ts) from HW.out.new k2 ⟨k1,rfl⟩ (fun q hq=>k3 q (by simpa using hq)));clear k1 k2 k3;go_wp2
 go_ret;exact⟨v,rfl,HN.out⟩
theorem rowV_one37(l:List Lv):∀u∈rowV l,u.oneCell' =true:=rowV_one l
theorem rd_live(h:Wd W wr (thF p o::ts))(hl:o.L.length≤16384):Calls Tryz.prog 66 #[wptr p] wr fun e w' =>∃a c,e=.returned (.slice a o.L.length c)∧Wd W w' (thV (.slice a o.L.length c) o.L::thF p o::ts):=by
  obtain⟨K,a,c,h1,h2,_⟩:=h.get;have HV:=qB (rfv_w h1);have c6:=h1.cell 6;simp only[rfC,zS,zT]at c6;have HW:=qB h;have HR:=qB (h2.fr0 ((Fr.refl [] wr).alloc (.cells #[] 45)));obtain⟨n,hn⟩:∃n,n=o.L.length:=⟨_,rfl⟩;rw[←hn]at c6 HR hl ⊢;have Hn:=qB hn;clear h h1 h2 hn;go_enter Tryz.func66,Tryz.ntmps66
  go_wp2_with fail
  refine HV.out.mono ?_;rintro _ w ⟨rfl,rfl⟩;have c6:=((Fr.refl [] w).alloc (.cells #[] 45)).cell c6 (by simp);have HM:=qB (show ∀(v1:Value) (w1:World),w1.ownsRow 0 45 7 v1 n (rowV o.L)→Fr [w.heap.size] (w.alloc (.cells #[] 45)) w1→(∀q,v1.ownBlock=some q→q=w.heap.size∨(w.alloc (.cells #[] 45)).heap.size≤q) →
      Wd W w1 (thV v1 o.L::thF p o::ts) from fun v1 w1 hown1 hF1 hq1=>by
    have hs0:(w.alloc (.cells #[] 45)).heap.size=w.heap.size+1:=by simp
    have hF:Fr [] w w1:=((Fr.refl [] w).alloc _).trans hF1 (fun b hb=>.inr (Nat.le_of_eq (qP.1 hb).symm));have hr:RowV w1 v1 o.L:=by unfold RowV;rw[←Hn.out];exact hown1
    refine HW.out.new hF ⟨hr,rfl⟩ (fun q hq=>?_);rcases hq1 q (by simpa using hq) with e|e<;>omega)
  have HOw:=qB (show World.ownsRow (w.alloc (.cells #[] 45)) 0 45 7 (.slice a n c) n (rowV o.L) by
    have:=HR.out;unfold RowV at this;rw[←Hn.out]at this;exact this)
  go_wp2_with (at_builtin;refine wpList_app_mt rfl _ _ 37 rfl 45 lvZero 7 56 (by kernel_rfl) (by kernel_rfl) rfl (by decide) w.heap.size rfl (Blk.new w [] _) (.slice a n c) n (rowV o.L) rfl HOw.out (rowV_one37 o.L) (by unfold maxLen;omega) (by omega) ?_;intro v1 w1 hown1 hF1 hq1;have HN:=qB (HM.out v1 w1 hown1 hF1 hq1);obtain⟨a1,c1,rfl⟩:=ownsRow_slice hown1;clear hown1 hF1 hq1 HM HOw)
  go_wp2
  go_ret;exact⟨a1,c1,rfl,HN.out⟩
end
section
variable {W wr w w' :World} {p:Nat} {o:Ob} {ts:List Th} {a:Option Addr} {c n:Nat}
theorem Ob.lenE(hok:o.Ok):o.L.length≤16384:=by have:=hok.leE;have:=hok.mE;omega
theorem rd_tick(h:Wd W wr (thF p o::ts))(hok:o.Ok)(to:Int)(ht2:to≤9223372036854775807):
    Calls Tryz.prog 72 #[wptr p,.int .i64 to] wr fun e w' =>e=.returned (.int .i64 (chkT o.m o.now to))∧Wd W w' (thF p (o.tickS to)::ts):=by
 obtain⟨K,⟨a,c,h1,h2,h3,rfl⟩,hs⟩:=h.open;have HV:=qB (rfv_w h1);have c1:=h1.cell 1;have c5:=h1.cell 5;have c6:=h1.cell 6;simp only[rfC,zS,zT]at c1 c5 c6;by_cases hlt:to<o.now
 {
 have e1:chkT o.m o.now to=10:=by unfold chkT;exact qI hlt
 have e2:o.tickS to=o:=by unfold Ob.tickS;rw[e1];exact qH (by omega)
 rw[e1,e2];have d1:decide (to<o.now)=true:=qO hlt;have HW:=qB h;clear h hs h1 h2 h3 e1 e2 hlt;go_enter Tryz.func72,Tryz.ntmps72
 go_wp2_with fail
 refine HV.out.mono ?_;rintro _ _ ⟨rfl,rfl⟩;go_wp2
 go_ret;exact⟨rfl,HW.out⟩}
 {
 have d1:decide (to<o.now)=false:=qK hlt;have HA:=qB (r01_add (x:=to) (y:=o.m) (by have:=hok.n0;omega) ht2 (by have:=hok.m1;omega) hok.m2 wr);by_cases hov:to+o.m≤9223372036854775807
 {
 have e0:sumC to o.m=0:=qI hov;have e1:chkT o.m o.now to=0:=by unfold chkT;rw[qH hlt];exact e0
 have e2:o.tickS to=o.tick to:=by unfold Ob.tickS;exact qI e1
 rw[e0]at HA;rw[e1,e2];have HL:=qB (fun(w' :World) (hf:Fr [] wr w')=>rw_left (h2.fr0 hf) (Ob.lenE hok) to);have HB:=qB (zR h1 (zR h2 h3));have HS:=qB (fun(w' :World) (t' :Th) (k:Stp wr w' (p::(Value.slice a o.L.length c).ownBlock.toList) t')=>hs k);obtain⟨n,hn⟩:∃n,n=o.L.length:=⟨_,rfl⟩;rw[←hn]at c6;have hll:=Ob.lenE hok;have hlast:=hok.last;have hmax:=hok.max;rw[←hn]at hll hlast;have hfl:(o.left to).length≤n:=by rw[hn];exact List.length_filter_le _ _
 have Hn:=qB (zR hn (zR hlast hmax));clear h hs h1 h2 h3 e0 e1 e2 hlt hov hn hlast hmax;generalize sumV to o.m=sv at *;go_enter Tryz.func72,Tryz.ntmps72
 go_wp2_with fail
 refine HV.out.mono ?_;rintro _ wr ⟨rfl,rfl⟩;go_wp2_with fail
 refine HA.out.mono ?_;rintro _ w2 ⟨rfl,hF2⟩;have c6:=hF2.cell c6 (by simp);have HL2:=qB (HL.out w2 hF2);rw[←Hn.out.1]at HL2;have HF2:=qB hF2;clear hF2 HL HA HV c1 c5;go_wp2_with fail
 refine HL2.out.mono ?_;rintro _ w3 ⟨v3,rfl,hr3,hF3,hq3⟩;obtain⟨a3,c3,rfl⟩:=hr3.slice;obtain⟨m3,hm3⟩:∃m3,m3=(o.left to).length:=⟨_,rfl⟩;rw[show(o.L.filter fun e=>decide (to<e.x)).length=(o.left to).length from rfl,←hm3]at hr3 hq3 ⊢;rw[←hm3]at hfl;have hF03:=HF2.out.trans' hF3;have hb3:=hF03.blk HB.out.1 (by simp);have hq3:∀q,(Value.slice a3 m3 c3).ownBlock=some q→wr.heap.size≤q:=fun q hq=>zQ HF2.out.size (hq3 q hq);have H3:=qB (zR hr3 (zR hF03 (zR hq3 (zR hb3 hm3))));have c6:=hb3.cell 6;have c8:=hb3.cell 8;have z8:=hb3.frozen 8;simp only[rfC,zS,zT]at c6 c8;rw[←Hn.out.1]at c6;have hw1:IntKind.i64.wrap ((n:Int)-m3)=((n-m3:Nat):Int):=by simp[IntKind.wrap,IntKind.bits,IntKind.signed];omega
 have hw2:IntKind.u64.wrap (((n-m3:Nat):Int))=((n-m3:Nat):Int):=by simp[IntKind.wrap,IntKind.bits,IntKind.signed];omega
 have hgl:o.gone+(n-m3)≤9223372036854775807:=by have h1:=Hn.out.2.1;have h2:=Hn.out.2.2;omega
 have hw3:IntKind.u64.wrap ((o.gone:Int)+((n-m3:Nat):Int))=((o.gone+(n-m3):Nat):Int):=by simp[IntKind.wrap,IntKind.bits,IntKind.signed];omega
 clear hr3 hF03 hb3 hF3 hq3 hm3 HF2 HL2 hgl;obtain⟨d,hd⟩:∃d,d=n-m3:=⟨_,rfl⟩;rw[←hd]at hw1 hw2 hw3;obtain⟨g', hg'⟩:∃g', g' =o.gone+d:=⟨_,rfl⟩;rw[←hg']at hw3;have Hd:=qB (zR hd hg');clear hd hg';go_wp2_with fail
 refine region_one 17 (fun w' =>Fr [p] w3 w' ∧ Blk w' p 115 (rfC { o with gone:=g' } (.slice a n c))) (by kernel_rfl) (by kernel_rfl) (by kernel_rfl) ?_;iterate 17 (refine gWalk_pre (by decide) (fun K hK=>?_);go_simp;refine hK _ ?_;clear hK K)
 refine gWalk_write rfl undef (fun w' hw' =>?_) ?_
 {
 obtain⟨nq,rfl⟩:=hw';go_simp;refine⟨((Fr.refl _ w3).drewN nq).setCell _ _ (.inl (by simp)),?_⟩;have:=(H3.out.2.2.2.1.drewN nq).set 8 (.int .u64 g');rw[←Hn.out.1]at this;exact this};refine gWalk_nil ?_;rintro w4 ⟨hF4,hb4⟩;have x6:=hb4.cell 6;have y6:=hb4.frozen 6;have hb5:=hb4.set 6 (.slice a3 m3 c3);have x5:=hb5.cell 5;have y5:=hb5.frozen 5;have hb6:=hb5.set 5 (.int .i64 to);simp only[rfC,zS,zT,zH,zD]at x6 x5 hb6;have H6:=qB (zR hF4 hb6);clear hF4 hb4 hb5 hb6 c6 c8 z8 hw1 hw2 hw3;go_wp2
 go_ret;obtain⟨hr3,hF03,hq3,hb3,hm3⟩:=H3.out;have hFe:Fr [p] w3 ((w4.setCell ⟨p,6,none⟩ (.slice a3 m3 c3)).setCell ⟨p,5,none⟩ (.int .i64 to)):=(H6.out.1.setCell _ _ (.inl (by simp))).setCell _ _ (.inl (by simp));have hlt:=HB.out.1.lt;have hs1:=hF03.size;have hml:(o.tick to).L.length=m3:=hm3.symm;refine⟨rfl,HS.out _ _ ⟨p::(Value.slice a3 (o.tick to).L.length c3).ownBlock.toList,⟨a3,c3,?_,?_,?_,rfl⟩,?_,?_⟩⟩
 {
 have e:rfC (o.tick to) (.slice a3 (o.tick to).L.length c3)=[.bool true,.int .i64 o.m,.int .i64 o.E,.int .i64 o.V,.int .i64 o.D,.int .i64 to,.slice a3 m3 c3,.int .u64 o.last,.int .u64 g']:=by rw[Hd.out.2,Hd.out.1,hm3,Hn.out.1];rfl
 rw[e];exact H6.out.2}
 {
 have:RowV w3 (.slice a3 (o.tick to).L.length c3) (o.tick to).L:=by rw[hml];exact hr3
 exact this.fr hFe (fun q hq hm=>by
   have e:=qP.1 hm;have:=hq3 q (by rw[←hml];exact hq);omega)}
 {
 intro q hq e;have:=hq3 q (by rw[←hml];exact hq);omega}
 · exact(hF03.mono (by simp)).trans hFe (fun b hb=>.inl (by rw[qP.1 hb];simp))
 {
 intro q hq;rcases qF.1 hq with rfl|hq
 · exact .inl (by simp)
 · exact .inr (hq3 q (by rw[←hml];simpa using hq))}}
 {
 have e0:sumC to o.m=7:=qH hov;have e1:chkT o.m o.now to=7:=by unfold chkT;rw[qH hlt];exact e0
 have e2:o.tickS to=o:=by unfold Ob.tickS;rw[e1];exact qH (by omega)
 rw[e0]at HA;rw[e1,e2];have HW:=qB h;clear h hs h1 h2 h3 e0 e1 e2 hlt hov c6;generalize sumV to o.m=sv at *;go_enter Tryz.func72,Tryz.ntmps72
 go_wp2_with fail
 refine HV.out.mono ?_;rintro _ _ ⟨rfl,rfl⟩;go_wp2_with fail
 refine HA.out.mono ?_;rintro _ w2 ⟨rfl,hF⟩;have HW2:=qB (HW.out.fr0 hF);clear hF HW HA;go_wp2
 go_ret;exact⟨rfl,HW2.out⟩}}
end
set_option maxHeartbeats 800000
theorem app_rows{w:World}{v x:Value}{l m:List Lv}(hv:RowV w v l)(hx:RowV w x m)(hn:l.length+m.length≤65536)(ty:TypeId):
    ∃v' w', (Builtin.append_ #[37,37] ty #[v,x]).run Tryz.prog w=.ok v' w' ∧ RowV w' v' (l++m)∧Fr v.ownBlock.toList w w' ∧ ∀q,v'.ownBlock=some q→v.ownBlock=some q∨w.heap.size≤q:=by
 obtain⟨i0,hi,hz0,hz1,hz2⟩:=info_parts Tryz.info45;have hx' :=hx;have hxl:=hx.1;rcases hx.2 with⟨rfl,h0⟩|⟨gx,cap,cur,rfl,_,hgx,hnc,hcm,hcs,htake⟩
 {
 obtain rfl:m=[]:=List.eq_nil_of_length_eq_zero h0;refine⟨v,w,run_append_owned_none w 0 37 ty 45 i0 7 Tryz.underlying37 hi v l.length (rowV l) hv,by rw[List.append_nil];exact hv,Fr.refl _ _,fun q e=>.inl e⟩}
 {
 obtain⟨v', w', hr,h2,h3,_,h5⟩:=run_append_own_at (P:=Tryz.prog) w 0 37 ty 45 i0 lvZero 7 56 Tryz.underlying37 hi hz0 hz1 hz2 rfl (by decide) v l.length (rowV l) hv ⟨gx,0,none⟩ m.length cap (rowV m) (rowV_len m) (hx'.cells (g:=gx) rfl) (rowV_one m) (by unfold maxLen;omega) (by omega) (zB _);refine⟨v', w', hr,?_,⟨h3.os,h3.tape,h3.output,h3.size,fun k hk hm=>h3.block k hk (fun e=>hm (by simp[e]))⟩,fun q hq=>?_⟩
 {
 unfold RowV;rw[zO,rowV_app];exact h2}
 {
 rcases h5 with h5|h5
 · rw[←h5];exact .inl hq
 · rw[hq]at h5;simp at h5;exact .inr (by omega)}}
theorem si_app{w:World}{o:Oper}{a:Act}{K:Value→World→Prop}(s x:Operand)
    (ho:o.op=.call { callee:=.builtin .append,args:=#[s,x],argTypes:=#[37,37] }) {v y:Value} {l m:List Lv} (hs:a.eval s=v) (hx:a.eval x=y) (hv:RowV w v l) (hy:RowV w y m) (hn:l.length+m.length≤65536)
    (h:∀v' w', RowV w' v' (l++m)→Fr v.ownBlock.toList w w' → (∀q,v'.ownBlock=some q→v.ownBlock=some q∨w.heap.size≤q)→K v' w'):stepUpon Tryz.prog K ((execOp a.eval o).run Tryz.prog w):=by
 obtain⟨v', w', hr,h1,h2,h3⟩:=app_rows hv hy hn o.type;unfold execOp;simp only[ho,resolve,invoke,builtin,Sem.run_bind,Sem.run_pure,Result.andThen_ok,List.map_toArray,List.map_cons,List.map_nil,hs,hx,hr];exact h v' w' h1 h2 h3
theorem RowV.mt(w:World):RowV (w.alloc (.cells #[] 45)) (.slice (some ⟨w.heap.size,0,none⟩) 0 0) []:=
  ⟨by simp[rowV],.inr ⟨w.heap.size,0,#[],rfl,zB _,Blk.new w [] 45,qS _,zB _,by simp,by simp[rowV]⟩⟩
theorem RowV.one(w:World)(x:Lv):RowV (w.alloc (.cells (lvC x).toArray 45)) (.slice (some ⟨w.heap.size,0,none⟩) 1 1) [x]:=
  ⟨by simp[rowV,lvC],.inr ⟨w.heap.size,1,(lvC x).toArray,rfl,zB _,Blk.new w (lvC x) 45,qS _,by decide,by simp[lvC],by simp[rowV,lvC]⟩⟩
def LRows(w0 w:World)(f:Nat→Value)(g:Nat→Option (List Lv)):Prop:=
  Fr [] w0 w∧(∀k c,g k=some c→RowV w (f k) c∧∀q,(f k).ownBlock=some q→w0.heap.size≤q) ∧
    ∀j k c d,j≠k→g j=some c→g k=some d→∀q,(f j).ownBlock=some q→(f k).ownBlock≠some q
section
variable {w0 w w' :World} {f:Nat→Value} {g g' :Nat→Option (List Lv)} {i:Nat} {v:Value} {c:List Lv}
theorem LRows.pass(h:LRows w0 w f g)(hf:Fr [] w w')(hg:∀k c,g' k=some c→k≠i∧g k=some c):LRows w0 w' (updK f i v) g' :=by
 obtain⟨h1,h2,h3⟩:=h;refine⟨h1.trans' hf,fun k c hk=>?_,fun j k c d hjk hj hk=>?_⟩
 {
 obtain⟨k1,k2⟩:=hg k c hk;rw[updK_ne _ _ k1];exact⟨(h2 k c k2).1.fr0 hf,(h2 k c k2).2⟩}
 {
 obtain⟨j1,j2⟩:=hg j c hj;obtain⟨k1,k2⟩:=hg k d hk;rw[updK_ne _ _ j1,updK_ne _ _ k1];exact h3 j k c d hjk j2 k2}
theorem LRows.new(h:LRows w0 w f g)(hf:Fr [] w w')(hr:RowV w' v c)(ho:∀q,v.ownBlock=some q→w.heap.size≤q)
    (hg:∀k c', g' k=some c' → (k=i∧c' =c)∨(k≠i∧g k=some c')):LRows w0 w' (updK f i v) g' :=by
 obtain⟨h1,h2,h3⟩:=h;have hs:=h1.size;have hlt:∀{k d q},g k=some d→(f k).ownBlock=some q→q<w.heap.size:=fun hk hq=>(h2 _ _ hk).1.lt hq;refine⟨h1.trans' hf,fun k c' hk=>?_,fun j k c' d hjk hj hk q hqj hqk=>?_⟩
 {
 rcases hg k c' hk with⟨rfl,rfl⟩|⟨k1,k2⟩
 · rw[updK_eq];exact⟨hr,fun q hq=>zQ hs (ho q hq)⟩
 · rw[updK_ne _ _ k1];exact⟨(h2 k c' k2).1.fr0 hf,(h2 k c' k2).2⟩}
 {
 rcases hg j c' hj with⟨rfl,rfl⟩|⟨j1,j2⟩
 {
 rcases hg k d hk with⟨rfl,rfl⟩|⟨k1,k2⟩
 · exact hjk rfl
 {
 rw[updK_eq]at hqj;rw[updK_ne _ _ k1]at hqk;have:=ho q hqj;have:=hlt k2 hqk;omega}}
 {
 rcases hg k d hk with⟨rfl,rfl⟩|⟨k1,k2⟩
 {
 rw[updK_eq]at hqk;rw[updK_ne _ _ j1]at hqj;have:=ho q hqk;have:=hlt j2 hqj;omega}
 {
 rw[updK_ne _ _ j1]at hqj;rw[updK_ne _ _ k1]at hqk;exact h3 j k c' d hjk j2 k2 q hqj hqk}}}
theorem LRows.app{j0:Nat}{l:List Lv}(h:LRows w0 w f g)(hj:g j0=some l)(hf:Fr (f j0).ownBlock.toList w w')(hr:RowV w' v c)(ho:∀q,v.ownBlock=some q→(f j0).ownBlock=some q∨w.heap.size≤q)
    (hg:∀k c', g' k=some c' → (k=i∧c' =c)∨(k≠i∧k≠j0∧g k=some c')):LRows w0 w' (updK f i v) g' :=by
 obtain⟨h1,h2,h3⟩:=h;have hs:=h1.size;have hlt:∀{k d q},g k=some d→(f k).ownBlock=some q→q<w.heap.size:=fun hk hq=>(h2 _ _ hk).1.lt hq;refine⟨h1.trans hf (fun b hb=>.inr ((h2 j0 l hj).2 b (by simpa using hb))),fun k c' hk=>?_,fun j k c' d hjk hj' hk q hqj hqk=>?_⟩
 {
 rcases hg k c' hk with⟨rfl,rfl⟩|⟨k1,k3,k2⟩
 {
 rw[updK_eq];exact⟨hr,fun q hq=>(ho q hq).elim (fun e=>(h2 j0 l hj).2 q e) (fun e=>zQ hs e)⟩}
 {
 rw[updK_ne _ _ k1];exact⟨(h2 k c' k2).1.fr hf (fun q hq hm=>h3 k j0 c' l k3 k2 hj q hq (by simpa using hm)),(h2 k c' k2).2⟩}}
 {
 rcases hg j c' hj' with⟨rfl,rfl⟩|⟨j1,j3,j2⟩
 {
 rcases hg k d hk with⟨rfl,rfl⟩|⟨k1,k3,k2⟩
 · exact hjk rfl
 {
 rw[updK_eq]at hqj;rw[updK_ne _ _ k1]at hqk;rcases ho q hqj with e|e
 · exact h3 k j0 d l k3 k2 hj q hqk e
 · have:=hlt k2 hqk;omega}}
 {
 rcases hg k d hk with⟨rfl,rfl⟩|⟨k1,k3,k2⟩
 {
 rw[updK_eq]at hqk;rw[updK_ne _ _ j1]at hqj;rcases ho q hqk with e|e
 · exact h3 j j0 c' l j3 j2 hj q hqj e
 · have:=hlt j2 hqj;omega}
 {
 rw[updK_ne _ _ j1]at hqj;rw[updK_ne _ _ k1]at hqk;exact h3 j k c' d hjk j2 k2 q hqj hqk}}}
end
def InvR(G:Nat→Value→Prop)(g:(Nat→Bool)→Nat→Option (List Lv))(w0:World)(f:Nat→Value)(L:Nat→Bool)(w:World):Prop:=(∀k,L k=true→G k (f k))∧LRows w0 w f (g L)
section
variable {G:Nat→Value→Prop} {g:(Nat→Bool)→Nat→Option (List Lv)} {w0 w w' :World} {f:Nat→Value} {L:Nat→Bool} {i:Nat} {v:Value} {c:List Lv}
theorem gstep(h:∀k,L k=true→G k (f k))(hG:G i v):∀k,updK L i true k=true→G k (updK f i v k):=fun k hk=>by
 by_cases e:k=i
 · subst e;rw[updK_eq];exact hG
 · rw[updK_ne _ _ e]at hk ⊢;exact h k hk
theorem InvR.pass(h:InvR G g w0 f L w)(hG:G i v)(hf:Fr [] w w')(hg:∀k c,g (updK L i true) k=some c→k≠i∧g L k=some c):InvR G g w0 (updK f i v) (updK L i true) w' :=⟨gstep h.1 hG,h.2.pass hf hg⟩
theorem InvR.new(h:InvR G g w0 f L w)(hG:G i v)(hf:Fr [] w w')(hr:RowV w' v c)(ho:∀q,v.ownBlock=some q→w.heap.size≤q)
    (hg:∀k c', g (updK L i true) k=some c' → (k=i∧c' =c)∨(k≠i∧g L k=some c')):InvR G g w0 (updK f i v) (updK L i true) w' :=⟨gstep h.1 hG,h.2.new hf hr ho hg⟩
theorem InvR.app{j0:Nat}{l:List Lv}(h:InvR G g w0 f L w)(hG:G i v)(hj:g L j0=some l)(hf:Fr (f j0).ownBlock.toList w w')(hr:RowV w' v c)(ho:∀q,v.ownBlock=some q→(f j0).ownBlock=some q∨w.heap.size≤q)
    (hg:∀k c', g (updK L i true) k=some c' → (k=i∧c' =c)∨(k≠i∧k≠j0∧g L k=some c')):InvR G g w0 (updK f i v) (updK L i true) w' :=⟨gstep h.1 hG,h.2.app hj hf hr ho hg⟩
theorem InvR.row(h:InvR G g w0 f L w){k:Nat}(hk:g L k=some c):RowV w (f k) c:=(h.2.2.1 k c hk).1
theorem InvR.fr(h:InvR G g w0 f L w):Fr [] w0 w:=h.2.1
end
theorem dep_of{md:Region.Mode}{o:Oper}{L:Nat→Bool}(h:∀j∈depsOf md o,L j=true)(j:Nat)(hj:(depsOf md o).contains j=true):L j=true:=h j (by simpa using hj)
theorem InvR.start{G:Nat→Value→Prop}{g:(Nat→Bool)→Nat→Option (List Lv)}(w:World)(h:∀k,g (fun _=>false) k=none):InvR G g w (fun _=>undef) (fun _=>false) w.drew:=
  ⟨fun k hk=>(by cases hk),show LRows w w.drew _ _ from⟨(Fr.refl [] w).drew,fun k c hk=>(by rw[h k]at hk;cases hk),fun j k c d _ hj=>(by rw[h j]at hj;cases hj)⟩⟩
theorem tm_of{b:Act}{d:Nat}{v:Value}(h:b.tmps[d]? =some v):∀h:d<b.tmps.size,b.tmps[d]'h=v:=fun hd=>by rw[Array.getElem?_eq_getElem hd]at h;exact Option.some.inj h
theorem ev_tmp{b:Act}{d:Nat}{v:Value}(h:b.tmps[d]? =some v):b.eval (.tmp d)=v:=by simp[Act.eval,h]
theorem own_mk{n len cap:Nat}:∀q,(Value.slice (some ⟨n,0,none⟩) len cap).ownBlock=some q→n≤q:=fun q hq=>by
 simp[Value.ownBlock]at hq;omega
def Clo(ops:Array Oper)(L:Nat→Bool):Prop:=∀k o,ops[k]? =some o→L k=true→∀j∈depsOf .any o,L j=true
def CloI(ops:Array Oper)(I:(Nat→Value)→(Nat→Bool)→World→Prop)(f:Nat→Value)(L:Nat→Bool)(w:World):Prop:=Clo ops L∧I f L w
def reachB(ops:Array Oper):Nat→Nat→List Nat
  | 0,k=>[k]
  | n+1,k=>k::match ops[k]? with|none=>[]|some o=>(depsOf .any o).flatMap (reachB ops n)
theorem Clo.reach{ops:Array Oper}{L:Nat→Bool}(h:Clo ops L):∀n k,L k=true→∀j∈reachB ops n k,L j=true
  | 0,k,hk,j,hj=>by rw[qP.1 hj];exact hk
  | n+1,k,hk,j,hj=>by
    rcases qF.1 hj with rfl|hj
    · exact hk
    · cases ho:ops[k]? with
      | none=>rw[ho]at hj;cases hj
      | some o=>
        rw[ho]at hj;obtain⟨i,hi,hj⟩:=List.mem_flatMap.1 hj;exact h.reach n i (h k o ho hk i hi) j hj
theorem Clo.none{ops:Array Oper}:Clo ops fun _=>false:=fun _ _ _ h=>(by cases h)
theorem Clo.step{ops:Array Oper}{L:Nat→Bool}(h:Clo ops L){k:Nat}{o:Oper}(ho:ops[k]? =some o)(hd:∀j∈depsOf .any o,L j=true):Clo ops (updK L k true):=fun i o' ho' hi j hj=>by
 have up:∀m,L m=true→updK L k true m=true:=fun m hm=>by
   by_cases e:m=k
   · subst e;exact updK_eq ..
   · rw[updK_ne _ _ e];exact hm
 by_cases e:i=k
 {
 subst e;obtain rfl:=Option.some.inj (ho.symm.trans ho');exact up _ (hd j hj)}
 {
 rw[updK_ne _ _ e]at hi;exact up _ (h i o' ho' hi j hj)}
theorem step_up_mono{P:Program}{K K' :Value→World→Prop}(h:∀v w,K v w→K' v w){r:Result Go.Next}(hr:stepUpon P K r):stepUpon P K' r:=by
 cases r with
 | halt x w' =>exact hr.elim
 | ok x w' =>{
 cases x with
 | value u=>exact h _ _ hr
 | skip=>exact h _ _ hr
 | enter f args=>exact Calls.mono hr fun e w'' ⟨v,he,hw''⟩=>⟨v,he,h _ _ hw''⟩
 | _=>exact hr.elim}
theorem stepC_plain{P:Program}{ops:Array Oper}{I:(Nat→Value)→(Nat→Bool)→World→Prop}{f:Nat→Value}{k:Nat}{o:Oper}{a:Act}(ho:ops[k]? =some o)(hg:o.guard=none)
    (h:∀L w,Clo ops L→(∀j∈depsOf .any o,L j=true)→L k=false→I f L w→stepUpon P (fun v w' =>I (updK f k v) (updK L k true) w') ((execOp a.eval o).run P w)):stepI P ops .any (CloI ops I) f k o a:=
  stepI_plain hg fun L w hd hn hI=>step_up_mono (fun _ _ hk=>⟨hI.1.step ho hd,hk⟩) (h L w hI.1 hd hn hI.2)
theorem region_invC{P:Program}{id:Nat}{Q:Exit→Act→World→Prop}{a:Act}{w:World}{l:List Oper}(I:(Nat→Value)→(Nat→Bool)→World→Prop)(hm:P.follows .mixedOrders=true)(hB:invB .any l.toArray=true)
    (h0:I (fun _=>undef) (fun _=>false) w.drew) (hstep:∀f,StepsB P l.toArray .any (CloI l.toArray I) f a 0 l)
    (hend:∀f L w', (∀k,k<l.length→L k=true)→I f L w' → Q .normal (endA f 0 l a) w'):(Code.region id l.toArray true).wp P Q a w:=
  region_invB (CloI l.toArray I) hm hB ⟨Clo.none,h0⟩ hstep fun f L w' hL hI=>hend f L w' hL hI.2
set_option maxHeartbeats 1600000
def G17(p:Nat)(va:Value)(x:Lv):Nat→Value→Prop
  | 0,y=>y=wptr p
  | 2,y=>y=wptr p
  | 3,y=>y=.pointer (some ⟨p,0,none⟩)
  | 4,y=>y=.pointer (some ⟨p,6,none⟩)
  | 5,y=>y=va
  | 7,y=>y=wptr p
  | 8,y=>y=.pointer (some ⟨p,0,none⟩)
  | 9,y=>y=.pointer (some ⟨p,7,none⟩)
  | 10,y=>y=.int .u64 x.seq
  | 11,y=>y=.agg #[.int .u64 x.u,.int .u64 x.v,.int .i64 x.wt,.int .i64 x.t]
  | 12,y=>y=.int .i64 x.x
  | 13,y=>y=.agg #[.int .i64 0,.int .u64 x.seq,.int .u64 x.u,.int .u64 x.v,.int .i64 x.wt,.int .i64 x.t,.int .i64 x.x]
  | 16,y=>y=.pointer (some ⟨p,0,none⟩)
  | 17,y=>y=.pointer (some ⟨p,6,none⟩)
  | _,_=>True
def g17(l:List Lv)(x:Lv)(L:Nat→Bool):Nat→Option (List Lv)
  | 1=>if L 1=true∧L 6=false then some [] else none
  | 6=>if L 6=true∧L 15=false then some l else none
  | 14=>if L 14=true∧L 15=false then some [x] else none
  | 15=>if L 15=true then some (l++[x]) else none
  | _=>none
theorem g17_pass{l:List Lv}{x:Lv}{L:Nat→Bool}{i:Nat}(h0:i≠1)(h2:i≠6)(h5:i≠14)(h6:i≠15):∀k c,g17 l x (updK L i true) k=some c→k≠i∧g17 l x L k=some c:=by
 intro k c hk;have e:g17 l x (updK L i true) k=g17 l x L k:=by {
 unfold g17;split<;>simp only[updK,qH (Ne.symm h0),qH (Ne.symm h2),qH (Ne.symm h5),qH (Ne.symm h6)]};rw[e]at hk;refine⟨?_,hk⟩;rintro rfl;unfold g17 at hk;split at hk<;>first|exact h0 rfl|exact h2 rfl|exact h5 rfl|exact h6 rfl|cases hk
theorem g17_new1{l:List Lv}{x:Lv}{L:Nat→Bool}:∀k c,g17 l x (updK L 1 true) k=some c→(k=1∧c=[])∨(k≠1∧g17 l x L k=some c):=by
 intro k c hk;unfold g17 at hk ⊢;split at hk<;>simp_all [updK]
theorem g17_new14{l:List Lv}{x:Lv}{L:Nat→Bool}:∀k c,g17 l x (updK L 14 true) k=some c→(k=14∧c=[x])∨(k≠14∧g17 l x L k=some c):=by
 intro k c hk;unfold g17 at hk ⊢;split at hk<;>simp_all [updK]
theorem g17_app6{l:List Lv}{x:Lv}{L:Nat→Bool}:∀k c,g17 l x (updK L 6 true) k=some c→(k=6∧c=[]++l)∨(k≠6∧k≠1∧g17 l x L k=some c):=by
 intro k c hk;unfold g17 at hk ⊢;split at hk<;>simp_all [updK]
theorem g17_app15{l:List Lv}{x:Lv}{L:Nat→Bool}:∀k c,g17 l x (updK L 15 true) k=some c→(k=15∧c=l++[x])∨(k≠15∧k≠6∧g17 l x L k=some c):=by
 intro k c hk;unfold g17 at hk ⊢;split at hk<;>simp_all [updK]
theorem g17_none{l:List Lv}{x:Lv}:∀k,g17 l x (fun _=>false) k=none:=by
 intro k;unfold g17;split<;>simp
def I17(p:Nat)(va:Value)(l:List Lv)(x:Lv)(w0:World)(f:Nat→Value)(L:Nat→Bool)(w:World):Prop:=
  (L 18=false→InvR (G17 p va x) (g17 l x) w0 f L w)∧(L 18=true→∃w1,Fr [] w0 w1∧RowV w1 (f 15) (l++[x])∧(∀q,(f 15).ownBlock=some q→w0.heap.size≤q)∧w=w1.setCell ⟨p,6,none⟩ (f 15))
theorem step17{P:Program}{ops:Array Oper}{p:Nat}{va:Value}{l:List Lv}{x:Lv}{w0:World}{f:Nat→Value}{k:Nat}{o:Oper}{a:Act}(ho:ops[k]? =some o)(hg:o.guard=none)(hd18:(reachB ops 2 18).contains k=true)(hk:k≠18)
    (h:∀L w,(∀j∈depsOf .any o,L j=true)→L k=false→InvR (G17 p va x) (g17 l x) w0 f L w→stepUpon P (fun v w' =>InvR (G17 p va x) (g17 l x) w0 (updK f k v) (updK L k true) w') ((execOp a.eval o).run P w)):
    stepI P ops .any (CloI ops (I17 p va l x w0)) f k o a:=
  stepC_plain ho hg fun L w hc hd hn hI=>by
 have h0:L 18=false:=by {
 cases e:L 18 with
 | false=>rfl
 | true=>rw[hc.reach 2 18 e k (by simpa using hd18)]at hn;cases hn};refine step_up_mono (fun v w' hh=>⟨fun _=>hh,fun e=>?_⟩) (h L w hd hn (hI.1 h0));rw[updK_ne _ _ hk.symm,h0]at e;cases e
section
variable {W wr w w' :World} {p:Nat} {o:Ob} {ts:List Th} {a:Option Addr} {c n:Nat}
theorem rd_add(h:Wd W wr (thF p o::ts))(hok:o.Ok)(u v:Nat)(wt t:Int)(ht2:t≤9223372036854775807):
    Calls Tryz.prog 71 #[wptr p,recA u v wt t] wr fun e w' =>e=.returned (.int .i64 (o.addC u v t:Nat))∧Wd W w' (thF p (o.add u v wt t)::ts):=by
 have hW1:Wd W (wr.alloc (.cells #[.int .u64 u,.int .u64 v,.int .i64 wt,.int .i64 t] 42)) (thF p o::thB wr.heap.size 42 [.int .u64 u,.int .u64 v,.int .i64 wt,.int .i64 t]::ts):=
   (show Wd W _ (thB wr.heap.size 42 [.int .u64 u,.int .u64 v,.int .i64 wt,.int .i64 t]::thF p o::ts) from
     h.new (K:=[wr.heap.size]) ((Fr.refl [] wr).alloc _) ⟨Blk.new wr [.int .u64 u,.int .u64 v,.int .i64 wt,.int .i64 t] 42,rfl⟩ (fun q hq=>Nat.le_of_eq (qP.1 hq).symm)).swap
 obtain⟨_,h1,_⟩:=hW1.swap.get;obtain⟨_,a,c,h2,h3,_⟩:=hW1.get;have HV:=qB (rfv_w h2);have q0:=h1.cell 0;have q1:=h1.cell 1;have q3:=h1.cell 3;have c1:=h2.cell 1;have c5:=h2.cell 5;have c6:=h2.cell 6;simp only[rfC,zS,zT]at c1 c5 c6 q0 q1 q3;have HW:=qB hW1;have HK:=qB (zR h1 (zR h2 h3));have HO:=qB hok;clear hW1 h h1 h2 h3 hok;go_enter Tryz.func71,Tryz.ntmps71
 go_wp2_with fail
 refine HV.out.mono ?_;rintro _ _ ⟨rfl,rfl⟩;clear HV;by_cases hne:u=v
 {
 have d1:((u:Int) == v)=true:=by simp;omega
 have HC:=qB (show o.addC u v t=9 from qI hne);clear hne;go_wp2_with fail
 go_ret;have e:=HC.out;refine⟨by rw[e];rfl,?_⟩;unfold Ob.add;rw[e,qH (by decide)];exact HW.out.drop2};have d1:((u:Int) == v)=false:=by simp;omega
 have HN:=qB hne;clear hne;go_wp2_with fail
 obtain⟨xb,hxb⟩:∃xb,xb=wr.heap.size:=⟨_,rfl⟩;rw[←hxb]at HW HK q0 q1 q3 ⊢;clear hxb;generalize wr.alloc (.cells #[.int .u64 u,.int .u64 v,.int .i64 wt,.int .i64 t] 42)=w1 at *;go_quiet (fail)
 have HF2:=(Fr.refl [] w1).drewN nq;generalize w1.drewN nq=w2 at *;have q0:=HF2.cell q0 (by simp);have q1:=HF2.cell q1 (by simp);have q3:=HF2.cell q3 (by simp);have c1:=HF2.cell c1 (by simp);have c5:=HF2.cell c5 (by simp);have c6:=HF2.cell c6 (by simp);have HW2:=qB (HW.out.fr0 HF2);have HK2:=qB (zR (HF2.blk HK.out.1 (by simp)) (zR (HF2.blk HK.out.2.1 (by simp)) (HK.out.2.2.fr0 HF2)));clear HW HK HF2;by_cases hlt:t<o.now
 {
 have d2:decide (t<o.now)=true:=qO hlt;have HC:=qB (show o.addC u v t=10 by unfold Ob.addC;rw[qH HN.out];exact qI hlt);clear hlt;rw[d2];go_wp2_with fail
 go_ret;have e:=HC.out;refine⟨by rw[e];rfl,?_⟩;unfold Ob.add;rw[e,qH (by decide)];exact HW2.out.drop2};have d2:decide (t<o.now)=false:=qK hlt;rw[d2];have HA:=qB (r01_add (x:=t) (y:=o.m) (by have:=HO.out.n0;omega) ht2 (by have:=HO.out.m1;omega) HO.out.m2 w2.drew);have HT:=qB (Int.not_lt.1 hlt);clear hlt;have HQ:=qB (fun(w' :World) (hf:Fr [] w2.drew w')=>zR (hf.cell (((Fr.refl [] w2).drew).cell c1 (by simp)) (by simp)) (hf.cell (((Fr.refl [] w2).drew).cell q3 (by simp)) (by simp)));go_wp2_with fail
 go_region_held3 (fun w' => w'.cell? ⟨p, 1, none⟩ = some (.int .i64 o.m) ∧ w'.cell? ⟨xb, 3, none⟩ = some (.int .i64 t))
   (first
     | go_keep
     | (exact HQ.out _ hF3))
   (first
     | (go_at_call 78;refine HA.out.mono ?_;rintro _ w3 ⟨rfl,hF3⟩))
 have HF3:=(Fr.refl [] w2).drew.trans' hF3;have q0:=HF3.cell q0 (by simp);have q1:=HF3.cell q1 (by simp);have q3:=HF3.cell q3 (by simp);have hK3:=zR (HF3.blk HK2.out.1 (by simp)) (zR (HF3.blk HK2.out.2.1 (by simp)) (HK2.out.2.2.fr0 HF3));have c2:=hK3.2.1.cell 2;have c3:=hK3.2.1.cell 3;have c6:=hK3.2.1.cell 6;have c7:=hK3.2.1.cell 7;simp only[rfC,zS,zT]at c2 c3 c6 c7;have HW3:=qB (HW2.out.fr0 HF3);have HK3:=qB hK3;have HF3:=qB HF3;clear HW2 HK2 HA HQ c1 c5 hK3 hF3;by_cases hov:9223372036854775807<t+o.m
 {
 have e1:sumC t o.m=7:=qH (by omega);have HC:=qB (show o.addC u v t=7 by unfold Ob.addC;rw[qH HN.out,qH (by have:=HT.out;omega)];exact qI (.inl hov));rw[e1];clear hov e1;go_wp2_with fail
 go_ret;have e:=HC.out;refine⟨by rw[e];rfl,?_⟩;unfold Ob.add;rw[e,qH (by decide)];exact HW3.out.drop2};have e1:sumC t o.m=0:=qI (by omega);rw[e1];by_cases hla:9223372036854775807≤o.last
 {
 have HC:=qB (show o.addC u v t=7 by unfold Ob.addC;rw[qH HN.out,qH (by have:=HT.out;omega)];exact qI (.inr hla));have d3:decide ((o.last:Int)≥9223372036854775807)=true:=qO (by omega);have d4:decide (o.last≥9223372036854775807)=true:=qO (by omega);have d5:decide (9223372036854775807≤o.last)=true:=qO (by omega);clear hov hla e1;go_wp2_with fail
 go_ret;have e:=HC.out;refine⟨by rw[e];rfl,?_⟩;unfold Ob.add;rw[e,qH (by decide)];exact HW3.out.drop2};have d3:decide ((o.last:Int)≥9223372036854775807)=false:=qK (by omega);have d4:decide (o.last≥9223372036854775807)=false:=qK (by omega);have d5:decide (9223372036854775807≤o.last)=false:=qK (by omega);have HOV:=qB (zR (Int.not_lt.1 hov) (Nat.not_le.1 hla));clear hov hla e1;have HL:=qB (rw_left (HK3.out.2.2.fr0 (Fr.refl [] w3).drew) (Ob.lenE HO.out) t);have HQ:=qB (fun(w' :World) (hf:Fr [] w3.drew w')=>zR (hf.cell (((Fr.refl [] w3).drew).cell c6 (by simp)) (by simp)) (hf.cell (((Fr.refl [] w3).drew).cell q3 (by simp)) (by simp)));go_wp2_with fail
 go_region_held3 (fun w' => w'.cell? ⟨p, 6, none⟩ = some (.slice a o.L.length c) ∧ w'.cell? ⟨xb, 3, none⟩ = some (.int .i64 t))
   (first
     | go_keep
     | (exact HQ.out _ hF4))
   (first
     | (go_at_call 125;refine HL.out.mono ?_;rintro _ w4 ⟨v4,rfl,hr4,hF4,hq4⟩))
 have HF4:=(Fr.refl [] w3).drew.trans' hF4;have q0:=HF4.cell q0 (by simp);have q1:=HF4.cell q1 (by simp);have q3:=HF4.cell q3 (by simp);have c2:=HF4.cell c2 (by simp);have c3:=HF4.cell c3 (by simp);have HW4:=qB (HW3.out.fr0 HF4);have hr4:RowV w4 v4 (o.left t):=hr4;obtain⟨a4,k4,rfl⟩:=hr4.slice;obtain⟨m4,hm4⟩:∃m4,m4=(o.left t).length:=⟨_,rfl⟩;rw[←hm4]at hr4 ⊢;have hml:m4≤o.L.length:=by rw[hm4];exact List.length_filter_le _ _
 have hl16:=zQ hml (Ob.lenE HO.out);have HR4:=qB hr4;have HM4:=qB hm4;clear HW3 HK3 HL HQ c6 c7 hF4 hq4 HF4 hr4 HF3 hml d3 d4 d5;by_cases hE:o.E≤m4
 {
 have d6:decide ((m4:Int)≥o.E)=true:=qO (by omega);have d7:decide (m4≥o.E)=true:=qO (by omega);have d8:decide (o.E≤m4)=true:=qO (by omega);have HC:=qB (show o.addC u v t=12 by unfold Ob.addC;rw[qH HN.out,qH (by have:=HT.out;omega),qH (by have:=HOV.out;omega),←HM4.out];exact qI hE);clear hE hl16 hm4;go_wp2_with fail
 go_ret;have e:=HC.out;refine⟨by rw[e];rfl,?_⟩;unfold Ob.add;rw[e,qH (by decide)];exact HW4.out.drop2};have d6:decide ((m4:Int)≥o.E)=false:=qK (by omega);have d7:decide (m4≥o.E)=false:=qK (by omega);have d8:decide (o.E≤m4)=false:=qK (by omega);have HE:=qB hE;clear hE;have HI:=qB (rw_ids (HR4.out.fr0 (Fr.refl [] w4).drew) (show(o.left t).length≤16384 by rw[←hm4];exact hl16));have hil:(idsL (o.left t)).length≤2*16384:=zQ (idsL_len2 _ _ rfl) (by rw[←hm4];omega);have hil2:(insN u (idsL (o.left t))).length≤2*16384+1:=zQ (insN_len _ _) (by omega);have HIL:=qB (show(idsL (o.left t)).length≤60000∧(insN u (idsL (o.left t))).length≤60000 from⟨by omega,by omega⟩);have HQ:=qB (fun(w' :World) (hf:Fr [] w4.drew w')=>zR (hf.cell (((Fr.refl [] w4).drew).cell c3 (by simp)) (by simp)) (zR (hf.cell (((Fr.refl [] w4).drew).cell q0 (by simp)) (by simp)) (hf.cell (((Fr.refl [] w4).drew).cell q1 (by simp)) (by simp))));obtain⟨il,hilx⟩:∃il,il=(Ob.idsUV (o.left t) u v).length:=⟨_,rfl⟩;have HIX:=qB hilx;clear hilx hil hil2 hm4 hl16;go_wp2_with fail
 go_region_held3 (fun w' => w'.cell? ⟨p, 3, none⟩ = some (.int .i64 o.V) ∧ w'.cell? ⟨xb, 0, none⟩ = some (.int .u64 u) ∧ w'.cell? ⟨xb, 1, none⟩ = some (.int .u64 v))
   (first
     | go_keep
     | (exact HQ.out _ hF7)
     | (exact HQ.out _ hF6)
     | (exact HQ.out _ hF5))
   (first
     | (go_at_call 126;refine(rw_put hr6 (insN_lt (idsL_lt _)) v HIL.out.2).mono ?_;rintro _ w7 ⟨v7,rfl,hr7,hF7', hq7⟩;have hF7:=hF6.trans' hF7'; obtain⟨a7,k7,rfl⟩:=hr7.slice;rw[show(insN v (insN u (idsL (o.left t)))).length=il from HIX.out.symm])
     | (go_at_call 126;refine(rw_put hr5 (idsL_lt _) u HIL.out.1).mono ?_;rintro _ w6 ⟨v6,rfl,hr6,hF6', hq6⟩;have hF6:=hF5.trans' hF6')
     | (go_at_call 79;refine HI.out.mono ?_;rintro _ w5 ⟨v5,rfl,hr5,hF5,hq5⟩))
 have HF7:=qB ((Fr.refl [] w4).drew.trans' hF7);have HW7:=qB (HW4.out.fr0 HF7.out);have q3:=HF7.out.cell q3 (by simp);clear hr7 hq7 hr6 hr5 hF5 hF6 hF6' hF7' hq5 hq6 HI HQ hF7 q0 q1 c2 c3 HW4 HF7 HIL HR4 d6 d7 d8;have HC:=qB (show o.addC u v t=if o.V<il then 11 else 0 by unfold Ob.addC;rw[qH HN.out,qH (by have:=HT.out;omega),qH (by have:=HOV.out;omega),←HM4.out,qH HE.out,HIX.out]);clear HIX;by_cases hV:o.V<il
 {
 have d6:decide (il>o.V)=true:=qO (by omega);have d7:decide ((il:Int)>o.V)=true:=qO (by omega);have d8:decide ((o.V:Int)<il)=true:=qO (by omega);have d9:decide (o.V<il)=true:=qO (by omega);have HC:=qB (HC.out.trans (qI hV));clear hV;try rw[d7]
 try rw[d8]
 try rw[d6]
 try rw[d9]
 go_wp2_with fail
 go_ret;have e:=HC.out;refine⟨by rw[e];rfl,?_⟩;unfold Ob.add;rw[e,qH (by decide)];exact HW7.out.drop2};have d6:decide (il>o.V)=false:=qK (by omega);have d7:decide ((il:Int)>o.V)=false:=qK (by omega);have d8:decide ((o.V:Int)<il)=false:=qK (by omega);have d9:decide (o.V<il)=false:=qK (by omega);have HC:=qB (HC.out.trans (qH hV));clear hV;try rw[d7]
 try rw[d8]
 try rw[d6]
 try rw[d9]
 have HTK:=qB (show Calls Tryz.prog 72 #[wptr p,.int .i64 t] w7 fun e w' =>e=.returned (.int .i64 0)∧Wd W w' (thF p (o.tick t)::thB xb 42 [.int .u64 u,.int .u64 v,.int .i64 wt,.int .i64 t]::ts) by
   have k:=rd_tick HW7.out HO.out t ht2;have e0:sumC t o.m=0:=qI HOV.out.1;have e1:chkT o.m o.now t=0:=by unfold chkT;rw[qH (by have:=HT.out;omega)];exact e0
   have e2:o.tickS t=o.tick t:=by unfold Ob.tickS;exact qI e1
   rw[e1,e2]at k;exact k)
 go_wp2_with fail
 refine HTK.out.mono ?_;rintro _ w8 ⟨rfl,hW8⟩;clear HTK HW7 d6 d7 d8 d9 q3;have e2:sumV t o.m=t+o.m:=qI HOV.out.1;obtain⟨x,hx⟩:∃x:Lv,x=⟨0,o.last+1,u,v,wt,t,t+o.m⟩:=⟨_,rfl⟩;rw[e2,show t+o.m=x.x by rw[hx]];obtain⟨K8,⟨a1,c1,h1,h2,h3,rfl⟩,hs⟩:=hW8.open;have c7:=h1.cell 7;have z7:=h1.frozen 7;simp only[rfC,zS,zT]at c7;rw[show(o.tick t).last=o.last from rfl]at c7;have hw:IntKind.u64.wrap ((o.last:Int)+1)=(x.seq:Int):=by rw[hx];have:=HOV.out;simp[IntKind.wrap,IntKind.bits,IntKind.signed];omega
 have H8:=qB (zR h1 (zR h2 h3));have HS8:=qB (fun(w' :World) (t' :Th) (k:Stp w8 w' (p::(Value.slice a1 (o.tick t).L.length c1).ownBlock.toList) t')=>hs k);have HX:=qB hx;clear h1 h2 h3 hs hW8 hx e2;go_wp2_with fail
 clear c7 z7 hw;have HW9:=qB (HS8.out (w8.setCell ⟨p,7,none⟩ (.int .u64 x.seq)) (thF p { o.tick t with last:=x.seq }) ⟨_,⟨a1,c1,H8.out.1.set 7 (.int .u64 x.seq),H8.out.2.1.fr ((Fr.refl [p] w8).setCell _ _ (.inl (by simp))) (fun q hq hm=>H8.out.2.2 q hq (qP.1 hm)),H8.out.2.2,rfl⟩,(Fr.refl _ w8).setCell _ _ (.inl (by simp)),fun q hq=>.inl hq⟩);clear H8 HS8;generalize w8.setCell ⟨p,7,none⟩ (.int .u64 x.seq)=w9 at *;obtain⟨_,hbx,_⟩:=HW9.out.swap.get;clear a1 c1;obtain⟨K9,⟨a1,c1,h1,h2,h3,rfl⟩,hs⟩:=HW9.out.open;have HS9:=qB (fun(w' :World) (t' :Th) (k:Stp w9 w' (p::(Value.slice a1 (o.tick t).L.length c1).ownBlock.toList) t')=>hs k);obtain⟨l,hl⟩:∃l,l=o.left t:=⟨_,rfl⟩;obtain⟨n1,hn1⟩:∃n1,n1=l.length:=⟨_,rfl⟩;have h2:RowV w9 (.slice a1 n1 c1) l:=by rw[hn1,hl];exact h2
 have h1:Blk w9 p 115 (rfC { o.tick t with last:=x.seq } (.slice a1 n1 c1)):=by rw[hn1,hl];exact h1
 have hbx:Blk w9 xb 42 [.int .u64 x.u,.int .u64 x.v,.int .i64 x.wt,.int .i64 x.t]:=by rw[HX.out];exact hbx
 have hle:l.length≤16384:=by rw[hl];exact zQ (List.length_filter_le _ _) (Ob.lenE HO.out)
 have H9:=qB (zR h1 (zR hbx (zR h2 h3)));have HLN:=qB (zR hl (zR hn1 hle));clear h1 hbx h2 h3 hs hl hn1 hle;refine region_invC (I17 p (.slice a1 n1 c1) l x w9) (by kernel_rfl) (by kernel_rfl) ⟨fun _=>InvR.start w9 g17_none,fun e=>(by cases e)⟩ ?_ ?_
 {
 refine(fun(H:∀a:Act,a.tmps.size=102→a.tmps[0]? =some (wptr p)→a.tmps[3]? =some (.pointer (some ⟨xb,0,none⟩))→a.tmps[5]? =some (.int .i64 x.x)→∀f,StepsB _ _ _ _ f a 0 _)=>H _ rfl rfl rfl rfl) fun a hsz t0 t3 t5 f=>?_;refine⟨?_,?_,?_,?_,?_,?_,?_,?_,?_,?_,?_,?_,?_,?_,?_,?_,?_,?_,?_,trivial⟩
 {
 intro b hb hf hg;have hbs:b.tmps.size=102:=hb.trans hsz;have T0:=tm_of ((hg 0 (by kernel_rfl)).trans t0);clear hf hg hb;refine step17 rfl rfl (by kernel_rfl) (by decide) fun L w hd hnL hI=>?_;go_simp;exact hI.pass rfl (Fr.refl [] w) (g17_pass (by decide) (by decide) (by decide) (by decide))}
 {
 intro b hb hf hg;have hbs:b.tmps.size=102:=hb.trans hsz;clear hf hg hb;refine step17 rfl rfl (by kernel_rfl) (by decide) fun L w hd hnL hI=>?_;go_simp;exact hI.new trivial ((Fr.refl [] w).alloc _) (RowV.mt w) own_mk g17_new1}
 {
 intro b hb hf hg;have hbs:b.tmps.size=102:=hb.trans hsz;have T0:=tm_of ((hg 0 (by kernel_rfl)).trans t0);clear hf hg hb;refine step17 rfl rfl (by kernel_rfl) (by decide) fun L w hd hnL hI=>?_;go_simp;exact hI.pass rfl (Fr.refl [] w) (g17_pass (by decide) (by decide) (by decide) (by decide))}
 {
 intro b hb hf hg;have hbs:b.tmps.size=102:=hb.trans hsz;have t86:b.tmps[86]? =some (f 2):=hf 2 86 (by decide) (by kernel_rfl) (by rw[hsz];decide);have T86:=tm_of t86;clear hf hg hb;refine step17 rfl rfl (by kernel_rfl) (by decide) fun L w hd hnL hI=>?_;have e2:f 2=wptr p:=hI.1 2 (dep_of hd 2 (by decide));rw[e2]at T86;go_simp;exact hI.pass rfl (Fr.refl [] w) (g17_pass (by decide) (by decide) (by decide) (by decide))}
 {
 intro b hb hf hg;have hbs:b.tmps.size=102:=hb.trans hsz;have t87:b.tmps[87]? =some (f 3):=hf 3 87 (by decide) (by kernel_rfl) (by rw[hsz];decide);have T87:=tm_of t87;clear hf hg hb;refine step17 rfl rfl (by kernel_rfl) (by decide) fun L w hd hnL hI=>?_;have e3:f 3=.pointer (some ⟨p,0,none⟩):=hI.1 3 (dep_of hd 3 (by decide));rw[e3]at T87;go_simp;exact hI.pass rfl (Fr.refl [] w) (g17_pass (by decide) (by decide) (by decide) (by decide))}
 {
 intro b hb hf hg;have hbs:b.tmps.size=102:=hb.trans hsz;have t88:b.tmps[88]? =some (f 4):=hf 4 88 (by decide) (by kernel_rfl) (by rw[hsz];decide);have T88:=tm_of t88;clear hf hg hb;refine step17 rfl rfl (by kernel_rfl) (by decide) fun L w hd hnL hI=>?_;have e4:f 4=.pointer (some ⟨p,6,none⟩):=hI.1 4 (dep_of hd 4 (by decide));rw[e4]at T88;have c6:=(hI.fr.blk H9.out.1 (by simp)).cell 6;have c7:=(hI.fr.blk H9.out.1 (by simp)).cell 7;simp only[rfC,zS,zT]at c6 c7;go_simp;exact hI.pass rfl (Fr.refl [] w) (g17_pass (by decide) (by decide) (by decide) (by decide))}
 {
 intro b hb hf hg;have hbs:b.tmps.size=102:=hb.trans hsz;have t85:b.tmps[85]? =some (f 1):=hf 1 85 (by decide) (by kernel_rfl) (by rw[hsz];decide);have T85:=tm_of t85;have t89:b.tmps[89]? =some (f 5):=hf 5 89 (by decide) (by kernel_rfl) (by rw[hsz];decide);have T89:=tm_of t89;clear hf hg hb;refine step17 rfl rfl (by kernel_rfl) (by decide) fun L w hd hnL hI=>?_;have e5:f 5=.slice a1 n1 c1:=hI.1 5 (dep_of hd 5 (by decide));have hr1:g17 l x L 1=some []:=qI ⟨dep_of hd 1 (by decide),hnL⟩;have hy:RowV w (f 5) l:=by rw[e5];exact H9.out.2.2.1.fr0 hI.fr
 refine si_app (.tmp 85) (.tmp 89) rfl (ev_tmp t85) (ev_tmp t89) (hI.row hr1) hy (by have:=HLN.out.2.2;simp;omega) fun v' w' k1 k2 k3=>?_;exact hI.app trivial hr1 k2 k1 k3 g17_app6}
 {
 intro b hb hf hg;have hbs:b.tmps.size=102:=hb.trans hsz;have T0:=tm_of ((hg 0 (by kernel_rfl)).trans t0);clear hf hg hb;refine step17 rfl rfl (by kernel_rfl) (by decide) fun L w hd hnL hI=>?_;go_simp;exact hI.pass rfl (Fr.refl [] w) (g17_pass (by decide) (by decide) (by decide) (by decide))}
 {
 intro b hb hf hg;have hbs:b.tmps.size=102:=hb.trans hsz;have t91:b.tmps[91]? =some (f 7):=hf 7 91 (by decide) (by kernel_rfl) (by rw[hsz];decide);have T91:=tm_of t91;clear hf hg hb;refine step17 rfl rfl (by kernel_rfl) (by decide) fun L w hd hnL hI=>?_;have e7:f 7=wptr p:=hI.1 7 (dep_of hd 7 (by decide));rw[e7]at T91;go_simp;exact hI.pass rfl (Fr.refl [] w) (g17_pass (by decide) (by decide) (by decide) (by decide))}
 {
 intro b hb hf hg;have hbs:b.tmps.size=102:=hb.trans hsz;have t92:b.tmps[92]? =some (f 8):=hf 8 92 (by decide) (by kernel_rfl) (by rw[hsz];decide);have T92:=tm_of t92;clear hf hg hb;refine step17 rfl rfl (by kernel_rfl) (by decide) fun L w hd hnL hI=>?_;have e8:f 8=.pointer (some ⟨p,0,none⟩):=hI.1 8 (dep_of hd 8 (by decide));rw[e8]at T92;go_simp;exact hI.pass rfl (Fr.refl [] w) (g17_pass (by decide) (by decide) (by decide) (by decide))}
 {
 intro b hb hf hg;have hbs:b.tmps.size=102:=hb.trans hsz;have t93:b.tmps[93]? =some (f 9):=hf 9 93 (by decide) (by kernel_rfl) (by rw[hsz];decide);have T93:=tm_of t93;clear hf hg hb;refine step17 rfl rfl (by kernel_rfl) (by decide) fun L w hd hnL hI=>?_;have e9:f 9=.pointer (some ⟨p,7,none⟩):=hI.1 9 (dep_of hd 9 (by decide));rw[e9]at T93;have c6:=(hI.fr.blk H9.out.1 (by simp)).cell 6;have c7:=(hI.fr.blk H9.out.1 (by simp)).cell 7;simp only[rfC,zS,zT]at c6 c7;go_simp;exact hI.pass rfl (Fr.refl [] w) (g17_pass (by decide) (by decide) (by decide) (by decide))}
 {
 intro b hb hf hg;have hbs:b.tmps.size=102:=hb.trans hsz;have T3:=tm_of ((hg 3 (by kernel_rfl)).trans t3);clear hf hg hb;refine step17 rfl rfl (by kernel_rfl) (by decide) fun L w hd hnL hI=>?_;have hb:=hI.fr.blk H9.out.2.1 (by simp);have q0:=hb.cell 0;have q1:=hb.cell 1;have q2:=hb.cell 2;have q3:=hb.cell 3;simp only[zS,zT]at q0 q1 q2 q3;clear hb;go_simp;exact hI.pass rfl (Fr.refl [] w) (g17_pass (by decide) (by decide) (by decide) (by decide))}
 {
 intro b hb hf hg;have hbs:b.tmps.size=102:=hb.trans hsz;have T5:=tm_of ((hg 5 (by kernel_rfl)).trans t5);clear hf hg hb;refine step17 rfl rfl (by kernel_rfl) (by decide) fun L w hd hnL hI=>?_;go_simp;exact hI.pass rfl (Fr.refl [] w) (g17_pass (by decide) (by decide) (by decide) (by decide))}
 {
 intro b hb hf hg;have hbs:b.tmps.size=102:=hb.trans hsz;have t94:b.tmps[94]? =some (f 10):=hf 10 94 (by decide) (by kernel_rfl) (by rw[hsz];decide);have T94:=tm_of t94;have t95:b.tmps[95]? =some (f 11):=hf 11 95 (by decide) (by kernel_rfl) (by rw[hsz];decide);have T95:=tm_of t95;have t96:b.tmps[96]? =some (f 12):=hf 12 96 (by decide) (by kernel_rfl) (by rw[hsz];decide);have T96:=tm_of t96;clear hf hg hb;refine step17 rfl rfl (by kernel_rfl) (by decide) fun L w hd hnL hI=>?_;have e10:f 10=.int .u64 x.seq:=hI.1 10 (dep_of hd 10 (by decide));rw[e10]at T94;have e11:f 11=.agg #[.int .u64 x.u,.int .u64 x.v,.int .i64 x.wt,.int .i64 x.t]:=hI.1 11 (dep_of hd 11 (by decide));rw[e11]at T95;have e12:f 12=.int .i64 x.x:=hI.1 12 (dep_of hd 12 (by decide));rw[e12]at T96;go_simp;exact hI.pass rfl (Fr.refl [] w) (g17_pass (by decide) (by decide) (by decide) (by decide))}
 {
 intro b hb hf hg;have hbs:b.tmps.size=102:=hb.trans hsz;have t97:b.tmps[97]? =some (f 13):=hf 13 97 (by decide) (by kernel_rfl) (by rw[hsz];decide);have T97:=tm_of t97;clear hf hg hb;refine step17 rfl rfl (by kernel_rfl) (by decide) fun L w hd hnL hI=>?_;have e13:f 13=.agg #[.int .i64 0,.int .u64 x.seq,.int .u64 x.u,.int .u64 x.v,.int .i64 x.wt,.int .i64 x.t,.int .i64 x.x]:=hI.1 13 (dep_of hd 13 (by decide));rw[e13]at T97;go_simp;refine hI.new trivial ((Fr.refl [] w).alloc _) (c:=[x]) ?_ own_mk g17_new14;rw[show x=⟨0,x.seq,x.u,x.v,x.wt,x.t,x.x⟩ by rw[HX.out]];exact RowV.one w ⟨0,x.seq,x.u,x.v,x.wt,x.t,x.x⟩}
 {
 intro b hb hf hg;have hbs:b.tmps.size=102:=hb.trans hsz;have t90:b.tmps[90]? =some (f 6):=hf 6 90 (by decide) (by kernel_rfl) (by rw[hsz];decide);have T90:=tm_of t90;have t98:b.tmps[98]? =some (f 14):=hf 14 98 (by decide) (by kernel_rfl) (by rw[hsz];decide);have T98:=tm_of t98;clear hf hg hb;refine step17 rfl rfl (by kernel_rfl) (by decide) fun L w hd hnL hI=>?_;have hr6:g17 l x L 6=some l:=qI ⟨dep_of hd 6 (by decide),hnL⟩;have hr14:g17 l x L 14=some [x]:=qI ⟨dep_of hd 14 (by decide),hnL⟩;refine si_app (.tmp 90) (.tmp 98) rfl (ev_tmp t90) (ev_tmp t98) (hI.row hr6) (hI.row hr14) (by have:=HLN.out.2.2;simp;omega) fun v' w' k1 k2 k3=>?_;exact hI.app trivial hr6 k2 k1 k3 g17_app15}
 {
 intro b hb hf hg;have hbs:b.tmps.size=102:=hb.trans hsz;have t84:b.tmps[84]? =some (f 0):=hf 0 84 (by decide) (by kernel_rfl) (by rw[hsz];decide);have T84:=tm_of t84;clear hf hg hb;refine step17 rfl rfl (by kernel_rfl) (by decide) fun L w hd hnL hI=>?_;have e0:f 0=wptr p:=hI.1 0 (dep_of hd 0 (by decide));rw[e0]at T84;go_simp;exact hI.pass rfl (Fr.refl [] w) (g17_pass (by decide) (by decide) (by decide) (by decide))}
 {
 intro b hb hf hg;have hbs:b.tmps.size=102:=hb.trans hsz;have t100:b.tmps[100]? =some (f 16):=hf 16 100 (by decide) (by kernel_rfl) (by rw[hsz];decide);have T100:=tm_of t100;clear hf hg hb;refine step17 rfl rfl (by kernel_rfl) (by decide) fun L w hd hnL hI=>?_;have e16:f 16=.pointer (some ⟨p,0,none⟩):=hI.1 16 (dep_of hd 16 (by decide));rw[e16]at T100;go_simp;exact hI.pass rfl (Fr.refl [] w) (g17_pass (by decide) (by decide) (by decide) (by decide))}
 {
 intro b hb hf hg;have hbs:b.tmps.size=102:=hb.trans hsz;have t101:b.tmps[101]? =some (f 17):=hf 17 101 (by decide) (by kernel_rfl) (by rw[hsz];decide);have T101:=tm_of t101;have t99:b.tmps[99]? =some (f 15):=hf 15 99 (by decide) (by kernel_rfl) (by rw[hsz];decide);have T99:=tm_of t99;clear hf hg hb;refine stepC_plain rfl rfl fun L w hc hd hnL hI=>?_;have hI:=hI.1 hnL;have e17:f 17=.pointer (some ⟨p,6,none⟩):=hI.1 17 (dep_of hd 17 (by decide));rw[e17]at T101;have hr15:g17 l x L 15=some (l++[x]):=qI (dep_of hd 15 (by decide));have hr:=hI.row hr15;have hq:=(hI.2.2.1 15 _ hr15).2;have hF:=hI.fr;have hb:=hF.blk H9.out.1 (by simp);have c6:=hb.cell 6;have z6:=hb.frozen 6;simp only[rfC,zS,zT]at c6;obtain⟨y,hy⟩:∃y,y=f 15:=⟨_,rfl⟩;rw[←hy]at T99 hr hq;obtain⟨a15,c15,rfl⟩:=hr.slice;clear hI;go_simp;refine⟨fun e=>(by rw[updK_eq]at e;cases e),fun _=>⟨w,hF,?_⟩⟩;rw[updK_ne _ _ (by decide),←hy];exact⟨hr,hq,by rw[show(l++[x]).length=l.length+1 from zO]⟩}}
 {
 rintro f L wt hL hI;obtain⟨w10,hF,hr,hq,rfl⟩:=hI.2 (hL 18 (by simp));simp only[endA];go_simp;have hb:=hF.blk H9.out.1 (by simp);obtain⟨y,hy⟩:∃y,y=f 15:=⟨_,rfl⟩;rw[←hy]at hr hq ⊢;obtain⟨a15,c15,rfl⟩:=hr.slice;have hb2:=hb.set 6 (.slice a15 (l++[x]).length c15);have HFin:=qB (zR hF (zR hr (zR hq hb2)));clear hF hr hq hb hb2 hy hI hL;go_wp2
 go_ret;obtain⟨hF,hr,hq,hb⟩:=HFin.out;have e:=HC.out;refine⟨by rw[e];rfl,?_⟩;unfold Ob.add;rw[e,qI rfl];have hlt:=H9.out.1.lt;have eL:((o.tick t).put u v wt).L=l++[x]:=by rw[HX.out,HLN.out.1];rfl
 refine(show Wd W _ (thF p ((o.tick t).put u v wt)::thB xb 42 [.int .u64 u,.int .u64 v,.int .i64 wt,.int .i64 t]::ts) from HS9.out _ _ ⟨_,⟨a15,c15,?_,?_,?_,rfl⟩,?_,?_⟩).drop2
 {
 rw[eL];have:rfC ((o.tick t).put u v wt) (.slice a15 (l++[x]).length c15)=(rfC { o.tick t with last:=x.seq } (.slice a1 n1 c1)).set 6 (.slice a15 (l++[x]).length c15):=by rw[HX.out];rfl
 rw[this];rw[show(l++[x]).length=l.length+1 from zO]at hb ⊢;exact hb}
 {
 rw[eL];exact hr.fr ((Fr.refl [p] _).setCell _ _ (.inl (by simp))) (fun q hq' hm=>by have:=hq q hq'; have:=qP.1 hm;omega)}
 {
 rw[eL];intro q hq' e;have:=hq q hq';omega}
 · exact(hF.mono (by simp)).trans ((Fr.refl [p] _).setCell _ _ (.inl (by simp))) (fun b hb=>.inl (by rw[qP.1 hb];simp))
 {
 intro q hq';rcases qF.1 hq' with rfl|hq'
 · exact .inl (by simp)
 · exact .inr (hq q (by rw[←eL];simpa using hq'))}}
end
section
variable {W wr w w' :World} {p:Nat} {o:Ob} {ts:List Th} {a:Option Addr} {c n:Nat}
theorem hold7{x1 x2 x3 x4 x5 x7 x8:Value}(h:w.cell? ⟨p,1,none⟩=some x1∧w.cell? ⟨p,2,none⟩=some x2∧w.cell? ⟨p,3,none⟩=some x3∧w.cell? ⟨p,4,none⟩=some x4∧w.cell? ⟨p,5,none⟩=some x5∧w.cell? ⟨p,7,none⟩=some x7∧w.cell? ⟨p,8,none⟩=some x8)(hf:Fr [] w w'):
    w'.cell? ⟨p,1,none⟩=some x1∧w'.cell? ⟨p,2,none⟩=some x2∧w'.cell? ⟨p,3,none⟩=some x3∧w'.cell? ⟨p,4,none⟩=some x4∧w'.cell? ⟨p,5,none⟩=some x5∧w'.cell? ⟨p,7,none⟩=some x7∧w'.cell? ⟨p,8,none⟩=some x8:=
  ⟨hf.cell h.1 (by simp),hf.cell h.2.1 (by simp),hf.cell h.2.2.1 (by simp),hf.cell h.2.2.2.1 (by simp),hf.cell h.2.2.2.2.1 (by simp),hf.cell h.2.2.2.2.2.1 (by simp),hf.cell h.2.2.2.2.2.2 (by simp)⟩
theorem held_rf{v:Value}(h:Blk w p 115 (rfC o v)):w.cell? ⟨p,1,none⟩=some (.int .i64 o.m)∧w.cell? ⟨p,2,none⟩=some (.int .i64 o.E)∧w.cell? ⟨p,3,none⟩=some (.int .i64 o.V)∧w.cell? ⟨p,4,none⟩=some (.int .i64 o.D)∧w.cell? ⟨p,5,none⟩=some (.int .i64 o.now)∧w.cell? ⟨p,7,none⟩=some (.int .u64 o.last)∧w.cell? ⟨p,8,none⟩=some (.int .u64 o.gone):=
  ⟨h.cell 1,h.cell 2,h.cell 3,h.cell 4,h.cell 5,h.cell 7,h.cell 8⟩
theorem rd_copy(h:Wd W wr (thF p o::ts))(hl:o.L.length≤16384):Calls Tryz.prog 73 #[wptr p] wr fun e w' =>∃q,e=.returned (wptr q)∧Wd W w' (thF q o::thF p o::ts):=by
 obtain⟨K,a,c,h1,h2,_⟩:=h.get;have HV:=qB (rfv_w h1);have HL:=qB (rd_live (h.fr0 (Fr.refl [] wr).drew) hl);have hh:=hold7 (held_rf h1) (Fr.refl [] wr).drew;obtain⟨c1,c2,c3,c4,c5,c7,c8⟩:=held_rf h1;have HQ:=qB (fun(w' :World) (v:Value) (k:Wd W w' (thV v o.L::thF p o::ts))=>by
   obtain⟨_,_,_,k1,_⟩:=k.swap.get;exact held_rf k1)
 obtain⟨n,hn⟩:∃n,n=o.L.length:=⟨_,rfl⟩;rw[←hn]at HL;have Hn:=qB hn;clear h h1 h2 hn;go_enter Tryz.func73,Tryz.ntmps73
 go_wp2_with fail
 refine HV.out.mono ?_;rintro _ _ ⟨rfl,rfl⟩;clear HV;go_wp2_with fail
 go_region_held3 (fun w' => w'.cell? ⟨p, 1, none⟩ = some (.int .i64 o.m) ∧ w'.cell? ⟨p, 2, none⟩ = some (.int .i64 o.E) ∧ w'.cell? ⟨p, 3, none⟩ = some (.int .i64 o.V) ∧ w'.cell? ⟨p, 4, none⟩ = some (.int .i64 o.D) ∧ w'.cell? ⟨p, 5, none⟩ = some (.int .i64 o.now) ∧ w'.cell? ⟨p, 7, none⟩ = some (.int .u64 o.last) ∧ w'.cell? ⟨p, 8, none⟩ = some (.int .u64 o.gone))
   (first
     | go_keep
     | (exact HQ.out _ _ hW3)
     | (exact hold7 (by assumption) ((Fr.refl [] _).alloc _)))
   (first
     | (go_at_call 66;refine HL.out.mono ?_;rintro _ w3 ⟨a3,k3,rfl,hW3⟩))
 have HN:=qB (show Wd W (w3.alloc (.cells #[.bool true,.int .i64 o.m,.int .i64 o.E,.int .i64 o.V,.int .i64 o.D,.int .i64 o.now,.slice a3 n k3,.int .u64 o.last,.int .u64 o.gone] 115)) (thF w3.heap.size o::thF p o::ts) by
   obtain⟨K,⟨k1,rfl⟩,hs⟩:=hW3.open;have hq:=fun q (hq:(Value.slice a3 n k3).ownBlock=some q)=>k1.lt hq;have hF:Fr [] w3 (w3.alloc (.cells #[.bool true,.int .i64 o.m,.int .i64 o.E,.int .i64 o.V,.int .i64 o.D,.int .i64 o.now,.slice a3 n k3,.int .u64 o.last,.int .u64 o.gone] 115)):=(Fr.refl [] w3).alloc _;have hb:Blk (w3.alloc (.cells #[.bool true,.int .i64 o.m,.int .i64 o.E,.int .i64 o.V,.int .i64 o.D,.int .i64 o.now,.slice a3 n k3,.int .u64 o.last,.int .u64 o.gone] 115)) w3.heap.size 115 (rfC o (.slice a3 n k3)):=Blk.new w3 (rfC o (.slice a3 n k3)) 115;rw[Hn.out]at hb hF hq k1 hs ⊢;refine hs ⟨w3.heap.size::(Value.slice a3 o.L.length k3).ownBlock.toList,⟨a3,k3,hb,k1.fr0 hF,fun q hq' e=>?_,rfl⟩,hF.mono (by simp),fun q hq' =>?_⟩
   · have:=hq q hq'; omega
   · rcases qF.1 hq' with rfl | hq'
     · exact .inr (qS _)
     · exact .inl hq')
 clear c1 c2 c3 c4 c5 c7 c8 hh HQ HL hW3;go_wp2
 go_ret;exact⟨_,rfl,HN.out⟩
end
end Go.Proofs.YtgmnemndjjmgkaaGreat
