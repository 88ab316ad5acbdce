/- Images with one wrong field and the right CRC-32; the plain law. -/
import Derived.Test.YtjdgpcjbgjnahaaGreatDoorE13
import Derived.Test.YtjdgpcjbgjnahaaGreatDoorE1
import Derived.Test.YtjdgpcjbgjnahaaGreatDoorE4
import Derived.Test.YtjdgpcjbgjnahaaGreatDoorE12
import Derived.Laws.Cover3
set_option maxRecDepth 10000
set_option maxHeartbeats 3200000
set_option linter.unusedSimpArgs false
set_option linter.unusedVariables false
/- Numbers that are appended as bytes: the walk of image's put. -/
namespace Go.Proofs.YtjdgpcjbgjnahaaGreatDoor
open Go.RowKit
def PA(w:World)(v:Value)(wr:World)(b:Value)(l:List Nat):Prop:=fA wr b l/\(∀q,b.ownBlock=some q->v.ownBlock=some q∨w.heap.size<=q)/\Fr v.ownBlock.toList w wr
theorem PA.own{w wr:World}{v:Value}{a:Option Addr}{n c:Nat}{l:List Nat}(h:PA w v wr (.slice a n c) l)(hn:l.length=n):∀o,World.ownsRow (wr.alloc o) 0 5 1 (.slice a n c) n (cA l):=fun o=>by
 have:=h.1.fr0 ((Fr.refl [] wr).alloc o);unfold fA at this;rw[hn]at this;exact this
theorem PA.push{w wr w4:World}{v:Value}{a:Option Addr}{n c g c' :Nat}{l:List Nat}{b:Nat}{o:Obj}(h:PA w v wr (.slice a n c) l)(hn:l.length=n)(hown:w4.ownsRow 0 5 1 (.slice (some ⟨g,0,none⟩) (n+1) c') (n+1) (cA l++[.int .u8 (b:Int)]))(hgrow:(wr.alloc o).grownBy w4 (Value.slice a n c).ownBlock)(hg:(Value.slice a n c).ownBlock=some g∨(wr.alloc o).heap.size<=g):
    PA w v w4 (.slice (some ⟨g,0,none⟩) (n+1) c') (l++[b]):=by
 have hF:Fr (Value.slice a n c).ownBlock.toList wr w4:=((Fr.refl _ _).alloc _).grown hgrow (fun q e=>.inl (by simp[e]));have hs:=h.2.2.size;simp only[World.size_alloc]at hg;refine⟨?_,fun q e=>?_,h.2.2.trans hF (fun q hq=>?_)⟩
 {
 unfold fA;rw[zF,hn,tN];exact hown}
 {
 simp only[Value.ownBlock,qI]at e;subst e;rcases hg with e|e
 · exact h.2.1 _ e
 · exact .inr (by omega)}
 · exact(h.2.1 q (by simpa using hq)).imp (fun e=>by simp[e]) id
theorem aVY{w:World}{v:Value}{l ns:List Nat}{nb sz cn:Nat}(hv:fA w v l)(hb:Blk w nb 36 (ns.map fun x:Nat=>.int .u64 (x:Int)))(hne:v.ownBlock≠some nb)(hsz:sz<=8)(hl:l.length+8*ns.length<=1073741824):
    Calls Tryz.prog 48 #[v,.int .i64 sz,.slice (some ⟨nb,0,none⟩) ns.length cn] w fun e w' =>∃v', e=.returned v' /\ PA w v w' v' (l++ns.flatMap (beN sz)):=by
 obtain⟨n,hn⟩:∃n,n=ns.length:=⟨_,rfl⟩;rw[<-hn]at hl ⊢;have HNn:=qA hn;obtain⟨a0,c0,rfl⟩:=hv.slice;have HP0:=qA (show PA w (.slice a0 l.length c0) w (.slice a0 l.length c0) l from⟨hv,fun q h=>.inl h,Fr.refl _ _⟩);obtain⟨v0,hv0⟩:∃v0,v0=Value.slice a0 l.length c0:=⟨_,rfl⟩;have HV0:=qA hv0;have HN:=qA (show Blk w nb 36 (ns.map fun x:Nat=>.int .u64 (x:Int))/\v0.ownBlock≠some nb from⟨hb,by rw[hv0];exact hne⟩);have HS:=qA hsz;have HP0:Hid (PA w v0 w (.slice a0 (l.length+n*0) c0) (l++(ns.take 0).flatMap (beN sz))):=qA (by rw[hv0];simpa using HP0.out);obtain⟨ln,hln⟩:∃ln,ln=l.length:=⟨_,rfl⟩;rw[<-hln]at hl HP0 HV0 ⊢;have HLn:=qA hln;clear hn hv hb hne hv0 hln hsz;go_enter Tryz.func48,Tryz.ntmps48
 go_wp2_with fail
 go_loopw [0,12] (fun c1 c2 wr=>∃k:Nat,k<=n/\(∃sa sc,c1=.slice sa (ln+n*0+sz*k) sc/\Hid (PA w v0 wr (.slice sa (ln+n*0+sz*k) sc) (l++(ns.take k).flatMap (beN sz))))/\c2=.int .i64 k) (fun _ c _=>n-(intOf c).toNat)
 case atStart=>exact⟨0,by omega,⟨_,_,rfl,HP0⟩,rfl⟩
 case round=>
  clear HP0;obtain⟨k,hk,⟨sa,sc,rfl,HP⟩,rfl⟩:=hrel;rename World=>wr
  by_cases hlt:k<n
  {
  have hlt' :(k:Int)<n:=by omega
  have hk0:(0:Int)<=k:=by omega
  have hw1:IntKind.i64.wrap ((k:Int)+1)=((k+1:Nat):Int):=by rw[show(k:Int)+1=((k+1:Nat):Int) by omega];exact zG _ (by omega)
  have hws:IntKind.i64.wrap ((sz:Int)-1)=(sz:Int)-1:=by have:=HS.out;simp[IntKind.wrap,IntKind.bits,IntKind.signed];omega
  have hkn:k<ns.length:=by rw[<-HNn.out];exact hlt
  have c0:=(HP.out.2.2.blk HN.out.1 (fun hm=>HN.out.2 (by simpa using hm))).cell k;rw[List.getElem?_map,qL hkn]at c0;simp only[Option.map_some]at c0;have htk:ns.take (k+1)=ns.take k++[ns[k]'hkn]:=by rw[List.take_add_one,qL hkn];rfl
  generalize ns[k]'hkn=x at *;have HTk:=qA (show l++(ns.take (k+1)).flatMap (beN sz)=l++(ns.take k).flatMap (beN sz)++beN sz x by rw[htk,List.flatMap_append];simp);have hl0:(l++(ns.take k).flatMap (beN sz)).length=ln+n*0+sz*k:=by {
  have:∀m:List Nat,(m.flatMap (beN sz)).length=sz*m.length:=fun m=>by
    induction m with
    | nil=>rfl
    | cons y m ih=>rw[List.flatMap_cons,zF,aT,ih,qZ,Nat.mul_succ,Nat.add_comm]
  rw[zF,this,List.length_take,<-HLn.out,<-HNn.out,Nat.min_eq_left (by omega)];omega};have hle:sz*k<=8*n:=Nat.mul_le_mul HS.out hk;obtain⟨n0,hn0⟩:∃n0,n0=ln+n*0+sz*k:=⟨_,rfl⟩;obtain⟨B,hB⟩:∃B,B=l++(ns.take k).flatMap (beN sz):=⟨_,rfl⟩;have HEq:=qA (zI hn0 (zI hB hl0));have hn0le:n0<=1073741824:=by omega
  have HP1:Hid (PA w v0 wr (.slice sa (n0+(sz-sz)) sc) (B++(beN sz x).take (sz-sz))):=qA (by rw[hn0,hB];simpa using HP.out);have HBl:=qA (show B.length=n0 by rw[hB,hn0];exact hl0);rw[<-hn0];clear htk HP hl0 hn0 hB hle;go_wp2_with fail
  clear c0;go_loopw [0,9] (fun c1 c2 wr=>∃i:Nat,i<=sz/\(∃sa sc,c1=.slice sa (n0+(sz-i)) sc/\Hid (PA w v0 wr (.slice sa (n0+(sz-i)) sc) (B++(beN sz x).take (sz-i))))/\c2=.int .i64 ((i:Int)-1)) (fun _ c _=>((intOf c)+1).toNat)
  case atStart=>exact⟨sz,by omega,⟨sa,sc,by rw[Nat.sub_self,Nat.add_zero],HP1⟩,rfl⟩
  case round=>
   clear HP1;obtain⟨i,hi,⟨sa,sc,rfl,HP⟩,rfl⟩:=hrel;rename World=>wr
   by_cases hi0:0<i
   {
   have hi8:i=1∨i=2∨i=3∨i=4∨i=5∨i=6∨i=7∨i=8:=by have:=HS.out;omega
   rcases hi8 with rfl|rfl|rfl|rfl|rfl|rfl|rfl|rfl
   {
   have HQ:=qA (PA.own (n:=n0+(sz-1)) HP.out (by rw[zF,List.length_take,aT,HBl.out];omega));go_wp2_with (first|(at_builtin;refine aB rfl (.tmp 22) (.tmp 28) 22 rfl 5 (.int .u8 0) 1 Tryz.underlying22 Tryz.info5 rfl (.slice sa (n0+(sz-1)) sc) (n0+(sz-1)) (cA (B++(beN sz x).take (sz-1))) rfl (HQ.out _) wr.heap.size (.int .u8 ((x:Int)%256)) rfl (aC _ _ _ _ rfl) rfl (by have:=HS.out;omega) (by decide) ?_;intro g' cap' w4 hown4 hgrow4 hg4)|fail)
   have HN4:Hid (PA w v0 w4 (.slice (some ⟨g', 0,none⟩) (n0+(sz-0)) cap') (B++(beN sz x).take (sz-0))):=qA (by
     rw[show(x:Int)%256=((x/1%256:Nat):Int) by omega]at hown4;have h1:=PA.push HP.out (by rw[zF,List.length_take,aT,HBl.out];omega) hown4 hgrow4 hg4;have hlt:sz-1<(beN sz x).length:=by rw[aT];omega
     have hat:=jV sz x hlt;rw[show sz-1-(sz-1)=0 by omega]at hat;have h2:(beN sz x).take (sz-0)=(beN sz x).take (sz-1)++[x/1%256]:=by
       rw[show sz-0=sz-1+1 by omega,List.take_add_one,qL hlt,hat];rfl
     rw[h2,<-List.append_assoc,show n0+(sz-0)=n0+(sz-1)+1 by omega];exact h1)
   rw[show n0+(sz-1)+1=n0+(sz-0) by omega];clear HQ hown4 hgrow4 hg4 HP;go_roundw
   case rel=>exact⟨0,by omega,⟨_,_,rfl,HN4⟩,by go_num⟩
   case measure=>simp[intOf]}
   {
   have HQ:=qA (PA.own (n:=n0+(sz-2)) HP.out (by rw[zF,List.length_take,aT,HBl.out];omega));go_wp2_with (first|(at_builtin;refine aB rfl (.tmp 22) (.tmp 28) 22 rfl 5 (.int .u8 0) 1 Tryz.underlying22 Tryz.info5 rfl (.slice sa (n0+(sz-2)) sc) (n0+(sz-2)) (cA (B++(beN sz x).take (sz-2))) rfl (HQ.out _) wr.heap.size (.int .u8 ((x:Int)/256%256)) rfl (aC _ _ _ _ rfl) rfl (by have:=HS.out;omega) (by decide) ?_;intro g' cap' w4 hown4 hgrow4 hg4)|fail)
   have HN4:Hid (PA w v0 w4 (.slice (some ⟨g', 0,none⟩) (n0+(sz-1)) cap') (B++(beN sz x).take (sz-1))):=qA (by
     rw[show(x:Int)/256%256=((x/256%256:Nat):Int) by omega]at hown4;have h1:=PA.push HP.out (by rw[zF,List.length_take,aT,HBl.out];omega) hown4 hgrow4 hg4;have hlt:sz-2<(beN sz x).length:=by rw[aT];omega
     have hat:=jV sz x hlt;rw[show sz-1-(sz-2)=1 by omega]at hat;have h2:(beN sz x).take (sz-1)=(beN sz x).take (sz-2)++[x/256%256]:=by
       rw[show sz-1=sz-2+1 by omega,List.take_add_one,qL hlt,hat];rfl
     rw[h2,<-List.append_assoc,show n0+(sz-1)=n0+(sz-2)+1 by omega];exact h1)
   rw[show n0+(sz-2)+1=n0+(sz-1) by omega];clear HQ hown4 hgrow4 hg4 HP;go_roundw
   case rel=>exact⟨1,by omega,⟨_,_,rfl,HN4⟩,by go_num⟩
   case measure=>simp[intOf]}
   {
   have HQ:=qA (PA.own (n:=n0+(sz-3)) HP.out (by rw[zF,List.length_take,aT,HBl.out];omega));go_wp2_with (first|(at_builtin;refine aB rfl (.tmp 22) (.tmp 28) 22 rfl 5 (.int .u8 0) 1 Tryz.underlying22 Tryz.info5 rfl (.slice sa (n0+(sz-3)) sc) (n0+(sz-3)) (cA (B++(beN sz x).take (sz-3))) rfl (HQ.out _) wr.heap.size (.int .u8 ((x:Int)/65536%256)) rfl (aC _ _ _ _ rfl) rfl (by have:=HS.out;omega) (by decide) ?_;intro g' cap' w4 hown4 hgrow4 hg4)|fail)
   have HN4:Hid (PA w v0 w4 (.slice (some ⟨g', 0,none⟩) (n0+(sz-2)) cap') (B++(beN sz x).take (sz-2))):=qA (by
     rw[show(x:Int)/65536%256=((x/65536%256:Nat):Int) by omega]at hown4;have h1:=PA.push HP.out (by rw[zF,List.length_take,aT,HBl.out];omega) hown4 hgrow4 hg4;have hlt:sz-3<(beN sz x).length:=by rw[aT];omega
     have hat:=jV sz x hlt;rw[show sz-1-(sz-3)=2 by omega]at hat;have h2:(beN sz x).take (sz-2)=(beN sz x).take (sz-3)++[x/65536%256]:=by
       rw[show sz-2=sz-3+1 by omega,List.take_add_one,qL hlt,hat];rfl
     rw[h2,<-List.append_assoc,show n0+(sz-2)=n0+(sz-3)+1 by omega];exact h1)
   rw[show n0+(sz-3)+1=n0+(sz-2) by omega];clear HQ hown4 hgrow4 hg4 HP;go_roundw
   case rel=>exact⟨2,by omega,⟨_,_,rfl,HN4⟩,by go_num⟩
   case measure=>simp[intOf]}
   {
   have HQ:=qA (PA.own (n:=n0+(sz-4)) HP.out (by rw[zF,List.length_take,aT,HBl.out];omega));go_wp2_with (first|(at_builtin;refine aB rfl (.tmp 22) (.tmp 28) 22 rfl 5 (.int .u8 0) 1 Tryz.underlying22 Tryz.info5 rfl (.slice sa (n0+(sz-4)) sc) (n0+(sz-4)) (cA (B++(beN sz x).take (sz-4))) rfl (HQ.out _) wr.heap.size (.int .u8 ((x:Int)/16777216%256)) rfl (aC _ _ _ _ rfl) rfl (by have:=HS.out;omega) (by decide) ?_;intro g' cap' w4 hown4 hgrow4 hg4)|fail)
   have HN4:Hid (PA w v0 w4 (.slice (some ⟨g', 0,none⟩) (n0+(sz-3)) cap') (B++(beN sz x).take (sz-3))):=qA (by
     rw[show(x:Int)/16777216%256=((x/16777216%256:Nat):Int) by omega]at hown4;have h1:=PA.push HP.out (by rw[zF,List.length_take,aT,HBl.out];omega) hown4 hgrow4 hg4;have hlt:sz-4<(beN sz x).length:=by rw[aT];omega
     have hat:=jV sz x hlt;rw[show sz-1-(sz-4)=3 by omega]at hat;have h2:(beN sz x).take (sz-3)=(beN sz x).take (sz-4)++[x/16777216%256]:=by
       rw[show sz-3=sz-4+1 by omega,List.take_add_one,qL hlt,hat];rfl
     rw[h2,<-List.append_assoc,show n0+(sz-3)=n0+(sz-4)+1 by omega];exact h1)
   rw[show n0+(sz-4)+1=n0+(sz-3) by omega];clear HQ hown4 hgrow4 hg4 HP;go_roundw
   case rel=>exact⟨3,by omega,⟨_,_,rfl,HN4⟩,by go_num⟩
   case measure=>simp[intOf]}
   {
   have HQ:=qA (PA.own (n:=n0+(sz-5)) HP.out (by rw[zF,List.length_take,aT,HBl.out];omega));go_wp2_with (first|(at_builtin;refine aB rfl (.tmp 22) (.tmp 28) 22 rfl 5 (.int .u8 0) 1 Tryz.underlying22 Tryz.info5 rfl (.slice sa (n0+(sz-5)) sc) (n0+(sz-5)) (cA (B++(beN sz x).take (sz-5))) rfl (HQ.out _) wr.heap.size (.int .u8 ((x:Int)/4294967296%256)) rfl (aC _ _ _ _ rfl) rfl (by have:=HS.out;omega) (by decide) ?_;intro g' cap' w4 hown4 hgrow4 hg4)|fail)
   have HN4:Hid (PA w v0 w4 (.slice (some ⟨g', 0,none⟩) (n0+(sz-4)) cap') (B++(beN sz x).take (sz-4))):=qA (by
     rw[show(x:Int)/4294967296%256=((x/4294967296%256:Nat):Int) by omega]at hown4;have h1:=PA.push HP.out (by rw[zF,List.length_take,aT,HBl.out];omega) hown4 hgrow4 hg4;have hlt:sz-5<(beN sz x).length:=by rw[aT];omega
     have hat:=jV sz x hlt;rw[show sz-1-(sz-5)=4 by omega]at hat;have h2:(beN sz x).take (sz-4)=(beN sz x).take (sz-5)++[x/4294967296%256]:=by
       rw[show sz-4=sz-5+1 by omega,List.take_add_one,qL hlt,hat];rfl
     rw[h2,<-List.append_assoc,show n0+(sz-4)=n0+(sz-5)+1 by omega];exact h1)
   rw[show n0+(sz-5)+1=n0+(sz-4) by omega];clear HQ hown4 hgrow4 hg4 HP;go_roundw
   case rel=>exact⟨4,by omega,⟨_,_,rfl,HN4⟩,by go_num⟩
   case measure=>simp[intOf]}
   {
   have HQ:=qA (PA.own (n:=n0+(sz-6)) HP.out (by rw[zF,List.length_take,aT,HBl.out];omega));go_wp2_with (first|(at_builtin;refine aB rfl (.tmp 22) (.tmp 28) 22 rfl 5 (.int .u8 0) 1 Tryz.underlying22 Tryz.info5 rfl (.slice sa (n0+(sz-6)) sc) (n0+(sz-6)) (cA (B++(beN sz x).take (sz-6))) rfl (HQ.out _) wr.heap.size (.int .u8 ((x:Int)/1099511627776%256)) rfl (aC _ _ _ _ rfl) rfl (by have:=HS.out;omega) (by decide) ?_;intro g' cap' w4 hown4 hgrow4 hg4)|fail)
   have HN4:Hid (PA w v0 w4 (.slice (some ⟨g', 0,none⟩) (n0+(sz-5)) cap') (B++(beN sz x).take (sz-5))):=qA (by
     rw[show(x:Int)/1099511627776%256=((x/1099511627776%256:Nat):Int) by omega]at hown4;have h1:=PA.push HP.out (by rw[zF,List.length_take,aT,HBl.out];omega) hown4 hgrow4 hg4;have hlt:sz-6<(beN sz x).length:=by rw[aT];omega
     have hat:=jV sz x hlt;rw[show sz-1-(sz-6)=5 by omega]at hat;have h2:(beN sz x).take (sz-5)=(beN sz x).take (sz-6)++[x/1099511627776%256]:=by
       rw[show sz-5=sz-6+1 by omega,List.take_add_one,qL hlt,hat];rfl
     rw[h2,<-List.append_assoc,show n0+(sz-5)=n0+(sz-6)+1 by omega];exact h1)
   rw[show n0+(sz-6)+1=n0+(sz-5) by omega];clear HQ hown4 hgrow4 hg4 HP;go_roundw
   case rel=>exact⟨5,by omega,⟨_,_,rfl,HN4⟩,by go_num⟩
   case measure=>simp[intOf]}
   {
   have HQ:=qA (PA.own (n:=n0+(sz-7)) HP.out (by rw[zF,List.length_take,aT,HBl.out];omega));go_wp2_with (first|(at_builtin;refine aB rfl (.tmp 22) (.tmp 28) 22 rfl 5 (.int .u8 0) 1 Tryz.underlying22 Tryz.info5 rfl (.slice sa (n0+(sz-7)) sc) (n0+(sz-7)) (cA (B++(beN sz x).take (sz-7))) rfl (HQ.out _) wr.heap.size (.int .u8 ((x:Int)/281474976710656%256)) rfl (aC _ _ _ _ rfl) rfl (by have:=HS.out;omega) (by decide) ?_;intro g' cap' w4 hown4 hgrow4 hg4)|fail)
   have HN4:Hid (PA w v0 w4 (.slice (some ⟨g', 0,none⟩) (n0+(sz-6)) cap') (B++(beN sz x).take (sz-6))):=qA (by
     rw[show(x:Int)/281474976710656%256=((x/281474976710656%256:Nat):Int) by omega]at hown4;have h1:=PA.push HP.out (by rw[zF,List.length_take,aT,HBl.out];omega) hown4 hgrow4 hg4;have hlt:sz-7<(beN sz x).length:=by rw[aT];omega
     have hat:=jV sz x hlt;rw[show sz-1-(sz-7)=6 by omega]at hat;have h2:(beN sz x).take (sz-6)=(beN sz x).take (sz-7)++[x/281474976710656%256]:=by
       rw[show sz-6=sz-7+1 by omega,List.take_add_one,qL hlt,hat];rfl
     rw[h2,<-List.append_assoc,show n0+(sz-6)=n0+(sz-7)+1 by omega];exact h1)
   rw[show n0+(sz-7)+1=n0+(sz-6) by omega];clear HQ hown4 hgrow4 hg4 HP;go_roundw
   case rel=>exact⟨6,by omega,⟨_,_,rfl,HN4⟩,by go_num⟩
   case measure=>simp[intOf]}
   {
   have HQ:=qA (PA.own (n:=n0+(sz-8)) HP.out (by rw[zF,List.length_take,aT,HBl.out];omega));go_wp2_with (first|(at_builtin;refine aB rfl (.tmp 22) (.tmp 28) 22 rfl 5 (.int .u8 0) 1 Tryz.underlying22 Tryz.info5 rfl (.slice sa (n0+(sz-8)) sc) (n0+(sz-8)) (cA (B++(beN sz x).take (sz-8))) rfl (HQ.out _) wr.heap.size (.int .u8 ((x:Int)/72057594037927936%256)) rfl (aC _ _ _ _ rfl) rfl (by have:=HS.out;omega) (by decide) ?_;intro g' cap' w4 hown4 hgrow4 hg4)|fail)
   have HN4:Hid (PA w v0 w4 (.slice (some ⟨g', 0,none⟩) (n0+(sz-7)) cap') (B++(beN sz x).take (sz-7))):=qA (by
     rw[show(x:Int)/72057594037927936%256=((x/72057594037927936%256:Nat):Int) by omega]at hown4;have h1:=PA.push HP.out (by rw[zF,List.length_take,aT,HBl.out];omega) hown4 hgrow4 hg4;have hlt:sz-8<(beN sz x).length:=by rw[aT];omega
     have hat:=jV sz x hlt;rw[show sz-1-(sz-8)=7 by omega]at hat;have h2:(beN sz x).take (sz-7)=(beN sz x).take (sz-8)++[x/72057594037927936%256]:=by
       rw[show sz-7=sz-8+1 by omega,List.take_add_one,qL hlt,hat];rfl
     rw[h2,<-List.append_assoc,show n0+(sz-7)=n0+(sz-8)+1 by omega];exact h1)
   rw[show n0+(sz-8)+1=n0+(sz-7) by omega];clear HQ hown4 hgrow4 hg4 HP;go_roundw
   case rel=>exact⟨7,by omega,⟨_,_,rfl,HN4⟩,by go_num⟩
   case measure=>simp[intOf]}}
   {
   obtain rfl:i=0:=by omega
   have HN5:Hid (PA w v0 wr (.slice sa (ln+n*0+sz*(k+1)) sc) (l++(ns.take (k+1)).flatMap (beN sz))):=qA (by
     rw[HTk.out,<-HEq.out.2.1,Nat.mul_succ,<-Nat.add_assoc,<-HEq.out.1];have h1:=HP.out;rw[show sz-0=sz from rfl,List.take_of_length_le (by rw[aT];exact qK _)]at h1;exact h1)
   have hfin:n0+sz=ln+n*0+sz*(k+1):=by rw[HEq.out.1,Nat.mul_succ];omega
   rw[show n0+(sz-0)=ln+n*0+sz*(k+1) from hfin];clear HP;go_wp2_with fail
   go_roundw
   case rel=>exact⟨k+1,by omega,⟨_,_,rfl,HN5⟩,by go_num⟩
   case measure=>simp[intOf];omega}}
  {
  obtain rfl:k=n:=by omega
  have HF:Hid (PA w v0 wr (.slice sa (ln+k*0+sz*k) sc) (l++ns.flatMap (beN sz))):=qA (by
    have h1:=HP.out;rw[HNn.out,List.take_length]at h1;rw[HNn.out];exact h1)
  clear HP;go_wp2
  go_ret;have hF:=HF.out;rw[HV0.out]at hF;exact⟨_,rfl,hF⟩}
theorem mH{l:List Nat}(hb:Byt l){k:Nat}(hk:k<l.length)(h8:l.length<=8):aN (l.take k)<72057594037927936:=by
 have h1:=iZ (hb.take k);rw[List.length_take,Nat.min_eq_left (Nat.le_of_lt hk)]at h1;have h2:256 ^ k<=256 ^ 7:=Nat.pow_le_pow_right (by decide) (by omega);exact Nat.lt_of_lt_of_le h1 h2
theorem aFU{x y:Nat}(hx:x<72057594037927936)(hy:y<256):Go.bits .or .u64 ((x:Int)*256) (y:Int)=((x*256+y:Nat):Int):=by
 have k:=Go.bits_join .u64 64 (by decide) (fun n h0 h1=>by simp[IntKind.wrap,IntKind.bits,IntKind.signed];omega) 8 ((x:Int)*256) (y:Int) (by omega) (by omega) (by omega) (by omega) (by omega) (by omega);rw[k];omega
theorem aTK{w:World}{a:Option Addr}{l:List Nat}{cap:Nat}(hr:RdB w a l)(hb:Byt l)(hl:l.length<=8):
    Calls Tryz.prog 50 #[.slice a l.length cap] w fun e w' =>e=.returned (.int .u64 (aN l:Nat))/\w' =w:=by
 obtain⟨n,hn⟩:∃n,n=l.length:=⟨_,rfl⟩;rw[<-hn]at hl ⊢;have HR:=qA (zI hr (zI hb hn));clear hr hb hn;go_enter Tryz.func50,Tryz.ntmps50
 go_wp2_with fail
 go_loopw [3,8] (fun r i wr=>∃(k:Nat) (x:Nat),k<=n/\r=.int .u64 x/\i=.int .i64 k/\wr=w/\Hid (x=aN (l.take k))) (fun _ i _=>n-(intOf i).toNat)
 case atStart=>exact⟨0,0,qS _,rfl,rfl,rfl,qA rfl⟩
 case round=>
  obtain⟨k,x,hk,rfl,rfl,rfl,HX⟩:=hrel;by_cases hlt:k<n
  {
  have hlt' :(k:Int)<n:=by omega
  have hk0:(0:Int)<=k:=by omega
  have hw1:IntKind.i64.wrap ((k:Int)+1)=((k+1:Nat):Int):=by rw[show(k:Int)+1=((k+1:Nat):Int) by omega];exact zG _ (by omega)
  have hkl:k<l.length:=by rw[<-HR.out.2.2];exact hlt
  obtain⟨b,off,rfl,_,c0⟩:=HR.out.1 k hkl;have hby:=HR.out.2.1 _ (List.getElem_mem hkl);have hx:x<72057594037927936:=by rw[HX.out];exact mH HR.out.2.1 hkl (by rw[<-HR.out.2.2];exact hl)
  have htk:l.take (k+1)=l.take k++[l[k]'hkl]:=by rw[List.take_add_one,qL hkl];rfl
  generalize l[k]'hkl=y at *;have hwy:IntKind.u64.wrap (y:Int)=y:=by simp[IntKind.wrap,IntKind.bits,IntKind.signed];omega
  have hwx:IntKind.u64.wrap ((x:Int)*256)=(x:Int)*256:=by simp[IntKind.wrap,IntKind.bits,IntKind.signed];omega
  have hor:=aFU hx hby;have HN:=qA (show x*256+y=aN (l.take (k+1)) by rw[htk,tL,<-HX.out]);clear htk HX;go_wp2_with fail
  go_roundw
  case rel=>exact⟨k+1,x*256+y,by omega,rfl,by go_num,trivial,HN⟩
  case measure=>simp[intOf];omega}
  {
  obtain rfl:k=n:=by omega
  go_wp2
  go_ret;refine⟨?_,rfl⟩;have e:=HX.out;rw[HR.out.2.2,List.take_length]at e;rw[e];rfl}
theorem aOT(w:World):Calls Tryz.prog 47 #[] w fun e w' =>e=.returned (.agg #[.int .u8 83,.int .u8 69,.int .u8 69,.int .u8 80,.int .u8 1])/\Fr [] w w' :=by
 have hb:=Blk.new w [.int .u8 83,.int .u8 69,.int .u8 69,.int .u8 80,.int .u8 1] 91;have r0:=hb.cell 0;have r1:=hb.cell 1;have r2:=hb.cell 2;have r3:=hb.cell 3;have r4:=hb.cell 4;simp only[zJ,zK]at r0 r1 r2 r3 r4;have HF:=qA ((Fr.refl [] w).alloc (.cells #[.int .u8 83,.int .u8 69,.int .u8 69,.int .u8 80,.int .u8 1] 91));clear hb;go_enter Tryz.func47,Tryz.ntmps47
 go_wp2
 exact bodyPost_ret (v:=.agg #[.int .u8 83,.int .u8 69,.int .u8 69,.int .u8 80,.int .u8 1]) (by simp[results,Tryz.results47,go_sem,r0,r1,r2,r3,r4]) rfl ⟨rfl,HF.out⟩
theorem aVZ{w:World}{rb b off n cap:Nat}{l:List Nat}{t:TypeId}(hv:Blk w rb t [.slice (some ⟨b,off,none⟩) n cap])(hr:RdB w (some ⟨b,off,none⟩) l)(hb:Byt l)(hn:l.length=n)(h8:8<=n)(hc:n<cap):
    Calls Tryz.prog 51 #[.pointer (some ⟨rb,0,none⟩)] w fun e w' =>e=.returned (.int .u64 (aN (l.take 8):Nat))/\w' =w.setCell ⟨rb,0,none⟩ (.slice (some ⟨b,off+8,none⟩) (n-8) (cap-8)):=by
 have c0:=hv.cell 0;have z0:=hv.frozen 0;simp only[zJ]at c0;have hg:=aTK (cap:=cap) (hr.take 8) (hb.take 8) (by rw[List.length_take];omega);rw[show(l.take 8).length=8 by rw[List.length_take];omega]at hg;have HG:=qA hg;have h8' :(8:Int)<=n:=by omega
 have hcap8:(8:Int)<=cap:=by omega
 have hcn:(n:Int)<=cap:=by omega
 have hne:¬cap=8:=by omega
 clear hv hr hb hn hg;go_enter Tryz.func51,Tryz.ntmps51
 go_wp2_with fail
 refine HG.out.mono ?_;rintro _ w2 ⟨rfl,rfl⟩;clear HG;go_wp2
 go_ret;exact⟨rfl,rfl⟩
theorem aHX{w:World}{a:Option Addr}{l:List Nat}{cap:Nat}(hr:RdB w a l)(hb:Byt l)(hl:l.length<=4611686018427387904):
    Calls Tryz.prog 15 #[.slice a l.length cap] w fun e w' =>e=.returned (.int .u32 (crc l:Nat))/\w' =w:=by
 obtain⟨n,hn⟩:∃n,n=l.length:=⟨_,rfl⟩;rw[<-hn]at hl ⊢;have HR:=qA (zI hr (zI hb hn));clear hr hb hn;go_enter Tryz.func15,Tryz.ntmps15
 go_wp2_with fail
 go_loopw [3,9] (fun r i wr=>∃(k:Nat) (x:Nat),k<=n/\r=.int .u32 x/\i=.int .i64 k/\wr=w/\x<4294967296/\Hid (x=vX 4294967295 (l.take k))) (fun _ i _=>n-(intOf i).toNat)
 case atStart=>exact⟨0,4294967295,qS _,rfl,rfl,rfl,by decide,qA rfl⟩
 case round=>
  obtain⟨k,x,hk,rfl,rfl,rfl,hx,HX⟩:=hrel;by_cases hlt:k<n
  {
  have hlt' :(k:Int)<n:=by omega
  have hk0:(0:Int)<=k:=by omega
  have hw1:IntKind.i64.wrap ((k:Int)+1)=((k+1:Nat):Int):=by rw[show(k:Int)+1=((k+1:Nat):Int) by omega];exact zG _ (by omega)
  have hkl:k<l.length:=by rw[<-HR.out.2.2];exact hlt
  obtain⟨b,off,rfl,_,c0⟩:=HR.out.1 k hkl;have hby:=HR.out.2.1 _ (List.getElem_mem hkl);have htk:l.take (k+1)=l.take k++[l[k]'hkl]:=by rw[List.take_add_one,qL hkl];rfl
  generalize l[k]'hkl=y at *;have hwy:IntKind.u32.wrap (y:Int)=y:=wrap_u32 (by omega);have hxy:Go.bits .xor .u32 (x:Int) (y:Int)=((x ^^^ y:Nat):Int):=sZ hx (by omega);have hlx:x ^^^ y<4294967296:=aAU hx (by omega);have HN:=qA (show aIC 8 (x ^^^ y)=vX 4294967295 (l.take (k+1)) by rw[htk,aID,<-HX.out];rfl);clear htk HX;generalize x ^^^ y=z at *;go_wp2_with fail
  go_loopw [3,17] (fun r i wr2=>∃(j:Nat) (x:Nat),j<=8/\r=.int .u32 x/\i=.int .i64 j/\wr2=wr/\x<4294967296/\Hid (aIC (8-j) x=vX 4294967295 (l.take (k+1)))) (fun _ i _=>8-(intOf i).toNat)
  case atStart=>exact⟨0,z,by omega,rfl,rfl,rfl,hlx,HN⟩
  case round=>
   clear HN hlx hwy hxy;obtain⟨j,x,hj,rfl,rfl,rfl,hx,HX⟩:=hrel;by_cases hj8:j<8
   {
   have hj8' :(j:Int)<8:=by omega
   have hw2:IntKind.i64.wrap ((j:Int)+1)=((j+1:Nat):Int):=by rw[show(j:Int)+1=((j+1:Nat):Int) by omega];exact zG _ (by omega)
   have e1:=aKV hx;have e2:=aKW hx;have hlt2:=aGG hx;have HN:=qA (show aIC (8-(j+1)) (aAT x)=vX 4294967295 (l.take (k+1)) by
     rw[<-HX.out,show 8-j=(8-(j+1))+1 by omega];rfl)
   clear HX;go_wp2_with fail
   go_roundw
   case rel=>exact⟨j+1,aAT x,by omega,rfl,by go_num,trivial,hlt2,HN⟩
   case measure=>simp[intOf];omega}
   {
   obtain rfl:j=8:=by omega
   have HN:=qA (show x=vX 4294967295 (l.take (k+1)) from HX.out);clear HX;go_wp2_with fail
   go_roundw
   case rel=>exact⟨k+1,x,by omega,rfl,by go_num,trivial,hx,HN⟩
   case measure=>simp[intOf];omega}}
  {
  obtain rfl:k=n:=by omega
  have hnx:=aPO hx;go_wp2
  go_ret;refine⟨?_,rfl⟩;have e:=HX.out;rw[HR.out.2.2,List.take_length]at e;rw[e];rfl}
def RcW(w:World)(a:Option Addr)(l:List R4):Prop:=
  ∀i (hi:i<l.length),∃b off,a=some ⟨b,off,none⟩/\b<w.heap.size/\w.cell? ⟨b,off+i*4,none⟩=some (.int .u64 l[i].1)/\w.cell? ⟨b,off+i*4+1,none⟩=some (.int .u64 l[i].2.1) /\
    w.cell? ⟨b,off+i*4+2,none⟩=some (.int .i64 l[i].2.2.1)/\w.cell? ⟨b,off+i*4+3,none⟩=some (.int .i64 l[i].2.2.2)
def R4.ok(r:R4):Prop:=r.1<18446744073709551616/\r.2.1<18446744073709551616/\ -9223372036854775808<=r.2.2.2/\r.2.2.2<=9223372036854775807
def RsI(w wr:World)(p:Nat)(last:Int)(l:List R4)(R:Option Ob):Prop:=∃X K,eK wr p X K/\Fr [] w wr/\(∀q∈K,w.heap.size<=q)/\(∀e∈X.s.L,e.t<=last)/\0<=last/\X.s.L.length+l.length<=X.E/\X.s.last+l.length<=9223372036854775807/\X.ob.resL last l=R
def RsE(w w' :World)(R:Option Ob)(e:Ending):Prop:=match R with
  | none=>e=.returned (.tuple #[.pointer none,.int .i64 2])/\Fr [] w w'
  | some o=>∃p X K,e=.returned (.tuple #[cJ p,.int .i64 0])/\X.ob=o/\eK w' p X K/\Fr [] w w' /\ ∀q∈K,w.heap.size<=q
theorem aWA(m E V D now:Int)(g:Nat)(a:Option Addr)(cap:Nat)(l:List R4)(w:World)(hg:g<18446744073709551616)(hn1:-9223372036854775808<=now)(hn2:now<=9223372036854775807)(hm2:m<=9223372036854775807)
    (hl:l.length<=9223372036854775807) (hrow:RcW w a l) (hok:∀r∈l,r.ok):
    Calls Tryz.prog 53 #[.agg #[.int .i64 m,.int .i64 E,.int .i64 V,.int .i64 D],.int .i64 now,.int .u64 g,.slice a l.length cap] w fun e w' =>RsE w w' (kX m E V D now g l) e:=by
 have hbx:=Blk.new w [.int .i64 m,.int .i64 E,.int .i64 V,.int .i64 D] 31;have hF1:Fr [] w (w.alloc (.cells #[.int .i64 m,.int .i64 E,.int .i64 V,.int .i64 D] 31)):=(Fr.refl [] w).alloc _;obtain⟨w1,hw1⟩:∃w1,w1=w.alloc (.cells #[.int .i64 m,.int .i64 E,.int .i64 V,.int .i64 D] 31):=⟨_,rfl⟩;rw[show w.alloc (.cells [.int .i64 m,.int .i64 E,.int .i64 V,.int .i64 D].toArray 31)=w.alloc (.cells #[.int .i64 m,.int .i64 E,.int .i64 V,.int .i64 D] 31) from rfl,<-hw1]at hbx;rw[<-hw1]at hF1;have HBx:=qA (zI hbx hF1);have x0:=hbx.cell 0;have x1:=hbx.cell 1;have x2:=hbx.cell 2;have x3:=hbx.cell 3;simp only[zJ,zK]at x0 x1 x2 x3;rw[hw1]at x0 x1 x2 x3;have HL:=qA (zI hrow hok);clear hbx hF1 hrow hok;by_cases hg1:g<=9223372036854775807
 {
 have d1:decide ((g:Int)>9223372036854775807)=false:=qF (by omega);cases hcf:nL m E V D with
 | false=>{
 have hR:kX m E V D now g l=none:=qC (by rw[hcf];simp);rw[hR];have HFr:=aOQ m D E V g w1 hcf;rw[hw1]at HFr;have HFr:=qA HFr;have HW1:=qA hw1;clear hR hcf hw1;go_enter Tryz.func53,Tryz.ntmps53
 go_wp2_with fail
 refine HFr.out.mono ?_;rintro _ w2 ⟨rfl,hF⟩;rw[<-HW1.out]at hF;have HF:=qA (HBx.out.2.trans' hF);clear hF x0 x1 x2 x3 HFr;go_wp2
 go_ret2;exact⟨rfl,HF.out⟩}
 | true=>{
 obtain⟨c1,c2,c3,c4,c5,c6,c7⟩:=iQ.1 hcf;obtain⟨E,rfl⟩:=Int.eq_ofNat_of_zero_le (show 0<=E by omega);obtain⟨V,rfl⟩:=Int.eq_ofNat_of_zero_le (show 0<=V by omega);have hfr:=aHT m D E V g w1 c1 hm2 (by omega) (by omega) (by omega) (by omega) c6 c7 hg1;rw[hw1]at hfr;have HFr:=qA hfr;have HW1:=qA hw1;clear hfr hw1;by_cases hlE:l.length<=E/\l.length<=9223372036854775807-g
 {
 have d2:decide ((l.length:Int)>E)=false:=qF (by omega);have d2n:decide (E<l.length)=false:=qF (by omega);have d3n:decide (9223372036854775807-(g:Int)<l.length)=false:=qF (by omega);have hw2:IntKind.u64.wrap (l.length:Int)=l.length:=by simp[IntKind.wrap,IntKind.bits,IntKind.signed];omega
 have hw3:IntKind.u64.wrap (9223372036854775807-(g:Int))=9223372036854775807-(g:Int):=by simp[IntKind.wrap,IntKind.bits,IntKind.signed];omega
 have d3:decide ((l.length:Int)>9223372036854775807-(g:Int))=false:=qF (by omega);by_cases hch:dL m 0 now=0
 {
 have hR:kX m E V D now g l=(Ob.at m E V D now g).resL 0 l:=by {
 unfold kX;rw[qD ⟨hg1,hcf,by omega,hlE.2,hch⟩];rfl};obtain⟨R,hRR⟩:∃R,R=(Ob.at m E V D now g).resL 0 l:=⟨_,rfl⟩;rw[hR,<-hRR];have HRR:=qA hRR;clear hRR;have HPl:=qA (zI hch (zI hlE.1 hlE.2));clear hR hcf hch hlE c1 c2 c3 c4 c5 c6 c7;go_enter Tryz.func53,Tryz.ntmps53
 go_wp2_with fail
 refine HFr.out.mono ?_;rintro _ w2 ⟨p,rfl,K,hK,hF2,hnK⟩;rw[<-HW1.out]at hF2 hnK;have hb2:=hF2.blk HBx.out.1 (by simp);have x1:=hb2.cell 1;simp only[zJ,zK]at x1;have HF2:=qA (zI (HBx.out.2.trans' hF2) (show ∀q∈K,w.heap.size<=q from fun q hq=>zH HBx.out.2.size (hnK q hq)));obtain⟨hokX,pc,ps,px,pf,nq,Ks,lx,Lf,cl,hB,hKe⟩:=hK;have c4:=hB.hd.cell 4;simp only[zJ,zK]at c4;have HAd:=qA (aCS hB.clk now hn1 hn2 HPl.out.1);have HB:=qA (zI hokX (zI hB hKe));clear hF2 hnK hb2 hB hKe hokX x0 x2 x3 HFr HW1;go_wp2_with fail
 refine HAd.out.mono ?_;rintro _ w3 ⟨rfl,hclk,hF3⟩;have hI:RsI w w3 p 0 l R:=by {
 rw[HRR.out];obtain⟨q1,q2⟩:=mY HPl.out.1;obtain⟨hokX,hB,rfl⟩:=HB.out;have hB3:=hB.setClk hclk hF3;refine⟨{ (Wm.new m E V D g) with now:=now },bZ p pc Ks lx Lf,⟨?_,pc,ps,px,pf,nq,Ks,lx,Lf,cl,hB3,rfl⟩,HF2.out.1.trans hF3 (fun b hb=>?_),HF2.out.2,fun e he=>(by cases he),Int.le_refl _,by show 0+_<=E;have:=HPl.out.2.1;omega,by show g+_<=_;have:=HPl.out.2.2;omega,rfl⟩
 · exact⟨hokX.ok,hokX.hV,hokX.hE,hokX.lk,fun e he=>(by cases he),List.Pairwise.nil,fun i hi=>absurd hi (Nat.not_lt_zero _),hokX.last,hokX.max,hokX.m1,hokX.m2,q1,q2⟩
 {
 have e:b=pc:=by simpa using hb
 exact .inr (by rw[e];exact HF2.out.2 pc (by simp[bZ]))}};have HI:=qA hI;clear hclk hF3 hI HB HAd c4 x1 HF2;clear HRR;go_wp2_with fail
 go_loopw [12,48] (fun c1 c2 wr=>∃(i:Nat) (last:Int),i<=l.length/\c1=.int .i64 last/\c2=.int .i64 i/\Hid (RsI w wr p last (l.drop i) R)) (fun _ c _=>l.length-(intOf c).toNat)
 case atStart=>exact⟨0,0,qS _,rfl,rfl,HI⟩
 case round=>
  obtain⟨i,last,hi,rfl,rfl,HR⟩:=hrel;clear HI;rename World=>wr
  by_cases hil:i<l.length
  {
  have hii:(i:Int)<l.length:=by omega
  have hi0:(0:Int)<=i:=by omega
  obtain⟨X,K,⟨hokX,pc,ps,px,pf,nq,Ks,lx,Lf,cl,hB,rfl⟩,hF,hnK,hle,hl0,hle1,hle2,hres⟩:=HR.out;rw[List.drop_eq_getElem_cons hil]at hres hle1 hle2;have hrok:=HL.out.2 _ (List.getElem_mem hil);obtain⟨b,off,rfl,hbw,z0,z1,z2,z3⟩:=HL.out.1 i hil;generalize l[i]'hil=r at *;obtain⟨u,v,wt,t⟩:=r;obtain⟨k1,k2,k3,k4⟩:=hrok;simp only at k1 k2 k3 k4 z0 z1 z2 z3;have z0:=hF.cell z0 (by simp);have z1:=hF.cell z1 (by simp);have z2:=hF.cell z2 (by simp);have z3:=hF.cell z3 (by simp);have hby:=Blk.new wr [.int .u64 u,.int .u64 v,.int .i64 wt,.int .i64 t] 72;have hFa:Fr [] wr (wr.alloc (.cells #[.int .u64 u,.int .u64 v,.int .i64 wt,.int .i64 t] 72)):=(Fr.refl [] wr).alloc _;have hBa:=hB.fr0 hFa;obtain⟨wa,hwa⟩:∃wa,wa=wr.alloc (.cells #[.int .u64 u,.int .u64 v,.int .i64 wt,.int .i64 t] 72):=⟨_,rfl⟩;rw[show wr.alloc (.cells [.int .u64 u,.int .u64 v,.int .i64 wt,.int .i64 t].toArray 72)=wr.alloc (.cells #[.int .u64 u,.int .u64 v,.int .i64 wt,.int .i64 t] 72) from rfl,<-hwa]at hby;rw[<-hwa]at hFa hBa;have y0:=hby.cell 0;have y1:=hby.cell 1;have y2:=hby.cell 2;have y3:=hby.cell 3;have c4:=hBa.hd.cell 4;have c5:=hBa.hd.cell 5;simp only[zJ,zK]at y0 y1 y2 y3 c4 c5;have hLive:∀w', Fr [] wa w' -> Calls Tryz.prog 89 #[gL pc,.int .i64 t] w' fun e w'' =>e=.returned (.bool (nW X.m X.now t))/\Fr [] wa w'' :=fun w' h=>(aSL (hBa.clk.fr0 h) t k3 k4).mono fun _ _ k=>⟨k.1,h.trans' k.2⟩;have hChk:∀w', Fr [] wa w' -> Calls Tryz.prog 90 #[fF ps,rJ u v wt t] w' fun e w'' =>e=.returned (.int .i64 (X.s.chk u v))/\Fr [] wa w'' :=fun w' h=>(oY (hBa.st.fr0 h) u v k1 k2 wt t).mono fun _ _ k=>⟨k.1,h.trans' k.2⟩;have HX:=qA (zI hokX (zI hBa (zI (hF.trans' hFa) (zI hnK (zI hle (zI hl0 (zI hle1 (zI hle2 hres))))))));clear hokX hB hBa hF hnK hle hl0 hle1 hle2 hres hby hbw;have hunf:∀{b:Bool},X.ob.resOk last (u,v,wt,t)=b->(if b=true then(X.ob.putT u v wt t).resL t (l.drop (i+1)) else none)=R:=fun {b} hb=>by
    rw[<-hb];exact HX.out.2.2.2.2.2.2.2.2
  by_cases hlt:t<last
  {
  have d5:decide (t<last)=true:=qG hlt;have hRn:R=none:=by {
  have:=hunf (b:=false) (by unfold Ob.resOk;rw[qF (show ¬last<=t by omega)];rfl);exact this.symm};subst hRn;clear hlt hunf;have HLive:=qA hLive;have HChk:=qA hChk;have Hwa:=qA hwa;clear hLive hChk hwa;go_wp2_with fail
  rw[<-Hwa.out];refine dB (fun w' =>Fr [] wa w') (by kernel_rfl) (by kernel_rfl) ((Fr.refl [] wa).drew) ?_;iterate 1 (refine aH (by kernel_rfl) (fun KK hK=>?_);go_simp;refine hK.out _ ?_;clear hK KK)
  refine bC (by kernel_rfl) (.int .i64 t) (fun w' hw' =>?_) ?_
  {
  have y3:=hw'.cell y3 (by simp);go_simp;first|done|exact hw' | exact⟨rfl,hw'⟩};iterate 3 (refine aH (by kernel_rfl) (fun KK hK=>?_);go_simp;refine hK.out _ ?_;clear hK KK)
  iterate 8 (refine tA (by kernel_rfl) ?_)
  iterate 2 (refine aH (by kernel_rfl) (fun KK hK=>?_);go_simp;refine hK.out _ ?_;clear hK KK)
  iterate 7 (refine tA (by kernel_rfl) ?_)
  iterate 1 (refine aH (by kernel_rfl) (fun KK hK=>?_);go_simp;refine hK.out _ ?_;clear hK KK)
  refine gF ?_;intro w6 hF6;have HF6:=qA (HX.out.2.2.1.trans' hF6);clear hF6 y0 y1 y2 y3 c4 c5 z0 z1 z2 z3 HX HR;go_wp2
  go_ret2;exact⟨rfl,HF6.out⟩}
  {
  have d5:decide (t<last)=false:=qF hlt;cases hlv:nW X.m X.now t with
  | false=>{
  have hRn:R=none:=by {
  have:=hunf (b:=false) (by unfold Ob.resOk;rw[show nW X.ob.m X.ob.now t=false from hlv];simp);exact this.symm};subst hRn;rw[hlv]at hLive;clear hlt hunf hlv;have HLive:=qA hLive;have HChk:=qA hChk;have Hwa:=qA hwa;clear hLive hChk hwa;go_wp2_with fail
  rw[<-Hwa.out];refine dB (fun w' =>Fr [] wa w') (by kernel_rfl) (by kernel_rfl) ((Fr.refl [] wa).drew) ?_;iterate 1 (refine aH (by kernel_rfl) (fun KK hK=>?_);go_simp;refine hK.out _ ?_;clear hK KK)
  refine bC (by kernel_rfl) (.int .i64 t) (fun w' hw' =>?_) ?_
  {
  have y3:=hw'.cell y3 (by simp);go_simp;first|done|exact hw' | exact⟨rfl,hw'⟩};iterate 3 (refine aH (by kernel_rfl) (fun KK hK=>?_);go_simp;refine hK.out _ ?_;clear hK KK)
  iterate 3 (refine aH (by kernel_rfl) (fun KK hK=>?_);go_simp;refine hK.out _ ?_;clear hK KK)
  refine bC (by kernel_rfl) (gL pc) (fun w' hw' =>?_) ?_
  {
  have c4:=hw'.cell c4 (by simp);go_simp;first|done|exact hw' | exact⟨rfl,hw'⟩};iterate 1 (refine aH (by kernel_rfl) (fun KK hK=>?_);go_simp;refine hK.out _ ?_;clear hK KK)
  refine bC (by kernel_rfl) (.int .i64 t) (fun w' hw' =>?_) ?_
  {
  have y3:=hw'.cell y3 (by simp);go_simp;first|done|exact hw' | exact⟨rfl,hw'⟩};refine bC (by kernel_rfl) (.bool false) (fun w' hw' =>?_) ?_
  {
  go_simp;exact HLive.out _ hw'};iterate 1 (refine aH (by kernel_rfl) (fun KK hK=>?_);go_simp;refine hK.out _ ?_;clear hK KK)
  iterate 2 (refine aH (by kernel_rfl) (fun KK hK=>?_);go_simp;refine hK.out _ ?_;clear hK KK)
  iterate 7 (refine tA (by kernel_rfl) ?_)
  iterate 1 (refine aH (by kernel_rfl) (fun KK hK=>?_);go_simp;refine hK.out _ ?_;clear hK KK)
  refine gF ?_;intro w6 hF6;have HF6:=qA (HX.out.2.2.1.trans' hF6);clear hF6 y0 y1 y2 y3 c4 c5 z0 z1 z2 z3 HX HR;go_wp2
  go_ret2;exact⟨rfl,HF6.out⟩}
  | true=>{
  obtain⟨cc,hcc⟩:∃cc:Int,cc=(X.s.chk u v:Nat):=⟨_,rfl⟩;rw[hlv]at hLive;rw[<-hcc]at hChk;by_cases hc0:X.s.chk u v=0
  {
  have hcc0:cc=0:=by rw[hcc,hc0];rfl
  subst hcc0;have hR2:=hunf (b:=true) (by
    unfold Ob.resOk;rw[show nW X.ob.m X.ob.now t=true from hlv,qG (show last<=t by omega),qG (show X.ob.chkO u v=0 by rw[<-aHW HX.out.1];exact hc0)];rfl)
  rw[qD rfl]at hR2;have hlv' :=of_decide_eq_true hlv;have hN:=rT HX.out.2.1 HX.out.1.lk HX.out.1.ok HX.out.1.hV HX.out.1.hE u v k1 k2 wt t (by have:=HX.out.2.2.2.2.2.1;omega) hlv'.2.1 hc0;have HG:=qA (zI hlv' (zI hc0 (zI hR2 (zI (Int.not_lt.1 hlt) (zI k1 k2)))));clear hlt hunf hlv hc0 hR2 hlv' hcc hN;have HLive:=qA hLive;have HChk:=qA hChk;have Hwa:=qA hwa;clear hLive hChk hwa;go_wp2_with fail
  rw[<-Hwa.out];refine dB (fun w' =>Fr [] wa w') (by kernel_rfl) (by kernel_rfl) ((Fr.refl [] wa).drew) ?_;iterate 1 (refine aH (by kernel_rfl) (fun KK hK=>?_);go_simp;refine hK.out _ ?_;clear hK KK)
  refine bC (by kernel_rfl) (.int .i64 t) (fun w' hw' =>?_) ?_
  {
  have y3:=hw'.cell y3 (by simp);go_simp;first|done|exact hw' | exact⟨rfl,hw'⟩};iterate 3 (refine aH (by kernel_rfl) (fun KK hK=>?_);go_simp;refine hK.out _ ?_;clear hK KK)
  iterate 3 (refine aH (by kernel_rfl) (fun KK hK=>?_);go_simp;refine hK.out _ ?_;clear hK KK)
  refine bC (by kernel_rfl) (gL pc) (fun w' hw' =>?_) ?_
  {
  have c4:=hw'.cell c4 (by simp);go_simp;first|done|exact hw' | exact⟨rfl,hw'⟩};iterate 1 (refine aH (by kernel_rfl) (fun KK hK=>?_);go_simp;refine hK.out _ ?_;clear hK KK)
  refine bC (by kernel_rfl) (.int .i64 t) (fun w' hw' =>?_) ?_
  {
  have y3:=hw'.cell y3 (by simp);go_simp;first|done|exact hw' | exact⟨rfl,hw'⟩};refine bC (by kernel_rfl) (.bool true) (fun w' hw' =>?_) ?_
  {
  go_simp;exact HLive.out _ hw'};iterate 1 (refine aH (by kernel_rfl) (fun KK hK=>?_);go_simp;refine hK.out _ ?_;clear hK KK)
  iterate 2 (refine aH (by kernel_rfl) (fun KK hK=>?_);go_simp;refine hK.out _ ?_;clear hK KK)
  iterate 3 (refine aH (by kernel_rfl) (fun KK hK=>?_);go_simp;refine hK.out _ ?_;clear hK KK)
  refine bC (by kernel_rfl) (fF ps) (fun w' hw' =>?_) ?_
  {
  have c5:=hw'.cell c5 (by simp);go_simp;first|done|exact hw' | exact⟨rfl,hw'⟩};refine bC (by kernel_rfl) (rJ u v wt t) (fun w' hw' =>?_) ?_
  {
  have y0:=hw'.cell y0 (by simp);have y1:=hw'.cell y1 (by simp);have y2:=hw'.cell y2 (by simp);have y3:=hw'.cell y3 (by simp);go_simp;first|done|exact hw' | exact⟨rfl,hw'⟩};refine bC (by kernel_rfl) (.int .i64 0) (fun w' hw' =>?_) ?_
  {
  go_simp;exact HChk.out _ hw'};iterate 1 (refine aH (by kernel_rfl) (fun KK hK=>?_);go_simp;refine hK.out _ ?_;clear hK KK)
  iterate 1 (refine aH (by kernel_rfl) (fun KK hK=>?_);go_simp;refine hK.out _ ?_;clear hK KK)
  refine gF ?_;intro w6 hF6;have hBw:=HX.out.2.1.fr0 hF6;have y0:=hF6.cell y0 (by simp);have y1:=hF6.cell y1 (by simp);have y2:=hF6.cell y2 (by simp);have y3:=hF6.cell y3 (by simp);have HN:=qA (rT hBw HX.out.1.lk HX.out.1.ok HX.out.1.hV HX.out.1.hE u v k1 k2 wt t (by have:=HX.out.2.2.2.2.2.1;have:=HG.out.2.2.2.1;omega) HG.out.1.2.1 HG.out.2.1 (by have h:=HX.out.2.2.2.2.2.2.2.1;simp only[qZ]at h;show X.s.last+1<=_;omega) (by have h:=HX.out.2.2.2.2.2.2.2.1;simp only[qZ]at h;show X.s.last+1<=_;omega));have HF6:=qA hF6;clear hF6 c4 c5 z0 z1 z2 z3 hBw HR;go_wp2_with fail
  refine HN.out.mono ?_;rintro _ w7 ⟨rfl,ea,eb,Ks7,lx7,Lf7,ha,hb,hI7⟩;have HNew:Hid (RsI w w7 p t (l.drop (i+1)) R):=qA (by
    obtain⟨hokX,hBa,hFw,hnK,hle,hl0,hle1,hle2,_⟩:=HX.out;obtain⟨hlv', hc0,hR2,hlt,k1,k2⟩:=HG.out;obtain⟨⟨cl7,hB7⟩,hF7,hn7,_⟩:=hI7;simp only[qZ]at hle1 hle2;have hs1:=hFw.size;have hs2:=HF6.out.size;have hwp:({ (X.wp nq) with s:=(X.wp nq).s.ins u v wt t (t+(X.wp nq).m),Q:=fun j=>if j=(X.wp nq).s.slot then some (t+(X.wp nq).m) else(X.wp nq).Q j,nq:=(X.wp nq).nq+1,G:=fun j=>if j=(X.wp nq).s.slot then some (ea,eb,t+(X.wp nq).m) else(X.wp nq).G j,added:=(X.wp nq).added+1 }:Wp)=(X.putT u v wt t ea eb).wp (nq+1):=by
      simp[Wm.wp,Wm.putT,Sm.ins];exact⟨rfl,rfl⟩
    rw[hwp]at hB7;refine⟨X.putT u v wt t ea eb,bZ p pc Ks7 lx7 Lf7,⟨Wm.putT_ok hokX k1 k2 wt t (by omega) hlv'.1 hlv'.2.2 (fun e he=>by have:=hle e he;omega) hc0 (by omega) ha hb,pc,ps,px,pf,nq+1,Ks7,lx7,Lf7,cl7,hB7,rfl⟩,(hFw.trans' HF6.out).trans hF7 (fun b hb=>.inr (hnK b hb)),fun q hq=>?_,fun e he=>?_,by omega,?_,?_,?_⟩
    · rcases hn7 q hq with h | h
      · exact hnK q h
      · omega
    · have he' : e ∈ X.s.L ++ [X.s.edge u v wt t (t + X.m)] := he
      rw[qE,qH]at he';rcases he' with he' | rfl
      · have:=hle e he'; omega
      · exact Int.le_refl _
    · show (X.s.L ++ [X.s.edge u v wt t (t + X.m)]).length + _ <= X.E
      rw[zF];simp only[qZ,List.length_nil];omega
    · show X.s.last + 1 + _ <= _
      omega
    · rw[aSM];exact hR2)
  clear hI7 ha hb HN y0 y1 y2 y3 HX HG;go_wp2_with fail
  go_roundw
  case rel=>exact⟨i+1,t,by omega,rfl,by go_num,HNew⟩
  case measure=>simp[intOf];omega}
  {
  have hRn:R=none:=by {
  have:=hunf (b:=false) (by unfold Ob.resOk;rw[qF (show ¬X.ob.chkO u v=0 by rw[<-aHW HX.out.1];exact hc0)];simp);exact this.symm};subst hRn;have d6:(cc != 0)=true:=by rw[hcc];simp;omega
  clear hlt hunf hlv hc0 hcc;have HLive:=qA hLive;have HChk:=qA hChk;have Hwa:=qA hwa;clear hLive hChk hwa;go_wp2_with fail
  rw[<-Hwa.out];refine dB (fun w' =>Fr [] wa w') (by kernel_rfl) (by kernel_rfl) ((Fr.refl [] wa).drew) ?_;iterate 1 (refine aH (by kernel_rfl) (fun KK hK=>?_);go_simp;refine hK.out _ ?_;clear hK KK)
  refine bC (by kernel_rfl) (.int .i64 t) (fun w' hw' =>?_) ?_
  {
  have y3:=hw'.cell y3 (by simp);go_simp;first|done|exact hw' | exact⟨rfl,hw'⟩};iterate 3 (refine aH (by kernel_rfl) (fun KK hK=>?_);go_simp;refine hK.out _ ?_;clear hK KK)
  iterate 3 (refine aH (by kernel_rfl) (fun KK hK=>?_);go_simp;refine hK.out _ ?_;clear hK KK)
  refine bC (by kernel_rfl) (gL pc) (fun w' hw' =>?_) ?_
  {
  have c4:=hw'.cell c4 (by simp);go_simp;first|done|exact hw' | exact⟨rfl,hw'⟩};iterate 1 (refine aH (by kernel_rfl) (fun KK hK=>?_);go_simp;refine hK.out _ ?_;clear hK KK)
  refine bC (by kernel_rfl) (.int .i64 t) (fun w' hw' =>?_) ?_
  {
  have y3:=hw'.cell y3 (by simp);go_simp;first|done|exact hw' | exact⟨rfl,hw'⟩};refine bC (by kernel_rfl) (.bool true) (fun w' hw' =>?_) ?_
  {
  go_simp;exact HLive.out _ hw'};iterate 1 (refine aH (by kernel_rfl) (fun KK hK=>?_);go_simp;refine hK.out _ ?_;clear hK KK)
  iterate 2 (refine aH (by kernel_rfl) (fun KK hK=>?_);go_simp;refine hK.out _ ?_;clear hK KK)
  iterate 3 (refine aH (by kernel_rfl) (fun KK hK=>?_);go_simp;refine hK.out _ ?_;clear hK KK)
  refine bC (by kernel_rfl) (fF ps) (fun w' hw' =>?_) ?_
  {
  have c5:=hw'.cell c5 (by simp);go_simp;first|done|exact hw' | exact⟨rfl,hw'⟩};refine bC (by kernel_rfl) (rJ u v wt t) (fun w' hw' =>?_) ?_
  {
  have y0:=hw'.cell y0 (by simp);have y1:=hw'.cell y1 (by simp);have y2:=hw'.cell y2 (by simp);have y3:=hw'.cell y3 (by simp);go_simp;first|done|exact hw' | exact⟨rfl,hw'⟩};refine bC (by kernel_rfl) (.int .i64 cc) (fun w' hw' =>?_) ?_
  {
  go_simp;exact HChk.out _ hw'};iterate 1 (refine aH (by kernel_rfl) (fun KK hK=>?_);go_simp;refine hK.out _ ?_;clear hK KK)
  iterate 1 (refine aH (by kernel_rfl) (fun KK hK=>?_);go_simp;refine hK.out _ ?_;clear hK KK)
  refine gF ?_;intro w6 hF6;have HF6:=qA (HX.out.2.2.1.trans' hF6);clear hF6 y0 y1 y2 y3 c4 c5 z0 z1 z2 z3 HX HR;go_wp2
  go_ret2;exact⟨rfl,HF6.out⟩}}}}
  {
  obtain rfl:i=l.length:=by omega
  obtain⟨X,K,hX,hF,hnK,hle,hl0,hle1,hle2,hres⟩:=HR.out;rw[List.drop_eq_nil_of_le (qK _)]at hres;have hRn:R=some X.ob:=hres.symm;subst hRn;have HX:=qA (zI hX (zI hF hnK));clear hX hF hnK hle hl0 hle1 hle2 hres HR;go_wp2
  go_ret2;exact⟨p,X,K,rfl,rfl,HX.out⟩}}
 {
 have hR:kX m E V D now g l=none:=qC (fun h=>hch h.2.2.2.2);rw[hR];obtain⟨cc,hcc⟩:∃cc,cc=dL m 0 now:=⟨_,rfl⟩;have d6:(cc != 0)=true:=by rw[hcc];simp[hch]
 have HC:=qA (zI hcc hch);clear hR hcf hlE c1 c2 c3 c4 c5 c6 c7 hcc hch;go_enter Tryz.func53,Tryz.ntmps53
 go_wp2_with fail
 refine HFr.out.mono ?_;rintro _ w2 ⟨p,rfl,K,hK,hF2,hnK⟩;rw[<-HW1.out]at hF2 hnK;have hb2:=hF2.blk HBx.out.1 (by simp);have x1:=hb2.cell 1;simp only[zJ,zK]at x1;have HF2:=qA (HBx.out.2.trans' hF2);obtain⟨hokX,pc,ps,px,pf,nq,Ks,lx,Lf,cl,hB,hKe⟩:=hK;have c4:=hB.hd.cell 4;simp only[zJ,zK]at c4;have hAd:=aHM hB.clk now hn1 hn2 HC.out.2;rw[show dL (Wm.wp (Wm.new m E V D g) nq).m (Wm.wp (Wm.new m E V D g) nq).now now=cc from HC.out.1.symm]at hAd;have HAd:=qA hAd;clear hF2 hnK hb2 hB hKe hokX x0 x2 x3 HFr HW1 hAd;go_wp2_with fail
 refine HAd.out.mono ?_;rintro _ w3 ⟨rfl,rfl⟩;clear c4 x1 HAd;go_wp2
 go_ret2;exact⟨rfl,HF2.out⟩}}
 {
 have hR:kX m E V D now g l=none:=qC (fun h=>hlE ⟨by omega,h.2.2.2.1⟩);rw[hR];clear hR hcf c1 c2 c4 c5 c6 c7;by_cases hl1:l.length<=E
 {
 have d2:decide ((l.length:Int)>E)=false:=qF (by omega);have d2n:decide (E<l.length)=false:=qF (by omega);have d3n:decide (9223372036854775807-(g:Int)<l.length)=true:=qG (by omega);have d3:decide ((l.length:Int)>9223372036854775807-(g:Int))=true:=qG (by omega);have hw2:IntKind.u64.wrap (l.length:Int)=l.length:=by simp[IntKind.wrap,IntKind.bits,IntKind.signed];omega
 have hw3:IntKind.u64.wrap (9223372036854775807-(g:Int))=9223372036854775807-(g:Int):=by simp[IntKind.wrap,IntKind.bits,IntKind.signed];omega
 clear hlE hl1;go_enter Tryz.func53,Tryz.ntmps53
 go_wp2_with fail
 refine HFr.out.mono ?_;rintro _ w2 ⟨p,rfl,K,hK,hF2,hnK⟩;rw[<-HW1.out]at hF2;have hb2:=hF2.blk HBx.out.1 (by simp);have x1:=hb2.cell 1;simp only[zJ,zK]at x1;have HF2:=qA (HBx.out.2.trans' hF2);clear hF2 hnK hb2 hK x0 x2 x3 HFr HW1;go_wp2
 go_ret2;exact⟨rfl,HF2.out⟩}
 {
 have d2:decide ((l.length:Int)>E)=true:=qG (by omega);have d2n:decide (E<l.length)=true:=qG (by omega);clear hlE hl1;go_enter Tryz.func53,Tryz.ntmps53
 go_wp2_with fail
 refine HFr.out.mono ?_;rintro _ w2 ⟨p,rfl,K,hK,hF2,hnK⟩;rw[<-HW1.out]at hF2;have hb2:=hF2.blk HBx.out.1 (by simp);have x1:=hb2.cell 1;simp only[zJ,zK]at x1;have HF2:=qA (HBx.out.2.trans' hF2);clear hF2 hnK hb2 hK x0 x2 x3 HFr HW1;go_wp2
 go_ret2;exact⟨rfl,HF2.out⟩}}}}
 {
 have hR:kX m E V D now g l=none:=qC (fun h=>hg1 h.1);rw[hR];have d1:decide ((g:Int)>9223372036854775807)=true:=qG (by omega);have HF:=qA HBx.out.2;rw[hw1]at HF;clear hR hg1 hw1 HBx;go_enter Tryz.func53,Tryz.ntmps53
 go_wp2
 go_ret2;exact⟨rfl,HF.out⟩}
structure Og (o:Ob) (k:Nat):Prop where
  ok:o.Ok
  m:o.m=20
  E:o.E=40
  V:o.V=12
  D:o.D=0
  now:o.now<=3*k
  id:∀e∈o.L,e.u<12/\e.v<12
  last:o.last<=k
section
variable {o:Ob} {k:Nat}
end
section
variable {W wr w' :World} {p:Nat} {o:Ob} {ts:List Th}
def ResE(W w' :World)(ts:List Th)(R:Option Ob)(e:Ending):Prop:=match R with
  | none=>e=.returned (.tuple #[.pointer none,.int .i64 2])/\Wd W w' ts
  | some o=>∃p,e=.returned (.tuple #[cJ p,.int .i64 0])/\Wd W w' (thO p o::ts)
theorem aWB(h:Wd W wr ts)(m E V D now:Int)(g:Nat)(a:Option Addr)(cap:Nat)(l:List R4)(hg:g<18446744073709551616)(hn1:-9223372036854775808<=now)(hn2:now<=9223372036854775807)(hm2:m<=9223372036854775807)
    (hl:l.length<=9223372036854775807) (hrow:RcW wr a l) (hok:∀r∈l,r.ok):
    Calls Tryz.prog 53 #[.agg #[.int .i64 m,.int .i64 E,.int .i64 V,.int .i64 D],.int .i64 now,.int .u64 g,.slice a l.length cap] wr fun e w' =>ResE W w' ts (kX m E V D now g l) e:=by
 refine(aWA m E V D now g a cap l wr hg hn1 hn2 hm2 hl hrow hok).mono fun e w' k=>?_;cases hR:kX m E V D now g l with
 | none=>rw[hR]at k;exact⟨k.1,h.fr0 k.2⟩
 | some o=>{
 rw[hR]at k;obtain⟨p,X,K,k1,k2,k3,k4,k5⟩:=k;exact⟨p,k1,h.new k4 ⟨X,k2,k3⟩ k5⟩}
end
def rC(r:R4):List Value:=[.int .u64 r.1,.int .u64 r.2.1,.int .i64 r.2.2.1,.int .i64 r.2.2.2]
section
variable {w w' :World} {v:Value} {l:List R4}
end
def mI(e:Lv):R4:=(e.u,e.v,e.wt,e.t)
def Ob.cut(o:Ob)(k:Nat):Ob:={ o with L:=o.L.take k,last:=o.gone+k }
theorem Ob.cut_all{o:Ob}(h:o.Ok):o.cut o.L.length=o:=by
 unfold Ob.cut;rw[List.take_length,<-h.last]
theorem aOU{L M:List Lv}(h:∀e∈L,e∈M):(eX L).length<=(eX M).length:=
  nQ (aFL L) fun x hx=>by
 obtain⟨e,he,hat⟩:=iP.1 hx;exact iP.2 ⟨e,h e he,hat⟩
theorem aFV(L:List Lv)(e:Lv):Ob.idsUV L e.u e.v=eX (L++[e]):=by
 unfold Ob.idsUV eX;rw[List.foldl_append];rfl
theorem aOV{o:Ob}(h:o.Ok){k:Nat}(hk:k<o.L.length){last:Int}(hl:last<=(o.L[k]).t):(o.cut k).resOk last (mI o.L[k])=true/\(o.cut k).putT (o.L[k]).u (o.L[k]).v (o.L[k]).wt (o.L[k]).t=o.cut (k+1):=by
 have hm:=List.getElem_mem hk;have hx:=h.x _ hm;have hlen:(o.L.take k).length=k:=by rw[List.length_take];omega
 have hle:=h.leE;have htk:o.L.take (k+1)=o.L.take k++[o.L[k]]:=by rw[List.take_add_one,qL hk];rfl
 constructor
 {
 unfold Ob.resOk;have e1:nW (o.cut k).m (o.cut k).now (mI o.L[k]).2.2.2=true:=qG ⟨hx.2.2.1,by have:=h.n1;show(o.L[k]).t+o.m<=_;omega,by show o.now<(o.L[k]).t+o.m;omega⟩;have e2:(o.cut k).chkO (mI o.L[k]).1 (mI o.L[k]).2.1=0:=by {
 unfold Ob.chkO;rw[qC (show ¬(mI o.L[k]).1=(mI o.L[k]).2.1 from h.ne _ hm),qC (show ¬(o.cut k).E<=(o.cut k).L.length by show ¬o.E<=(o.L.take k).length;omega),qC];show ¬o.V<(Ob.idsUV (o.L.take k) (o.L[k]).u (o.L[k]).v).length
 rw[aFV,<-htk];have:=aOU (L:=o.L.take (k+1)) (M:=o.L) fun e he=>List.mem_of_mem_take he;have:=h.leV;omega};rw[e1,e2,qG (show last<=(mI o.L[k]).2.2.2 from hl)];rfl}
 {
 have hs:o.L[k]=⟨0,o.gone+k+1,(o.L[k]).u,(o.L[k]).v,(o.L[k]).wt,(o.L[k]).t,(o.L[k]).t+o.m⟩:=by {
 have h1:=h.num k hk;have h2:=h.sl _ hm;generalize o.L[k]=e at *;obtain⟨a,b,c,d,f,g,i⟩:=e;simp only at h1 h2 hx ⊢;rw[h1,h2,hx.1]};unfold Ob.putT Ob.cut;simp only[htk];rw[<-hs];rfl}
theorem aDG{o:Ob}(h:o.Ok):∀(n k:Nat) (last:Int),k+n=o.L.length->(∀e,o.L[k]? =some e->last<=e.t)->(o.cut k).resL last ((o.L.drop k).map mI)=some o
  | 0,k,last,hk,_=>by
    rw[List.drop_eq_nil_of_le (by omega)];have:k=o.L.length:=by omega
    subst this;show some (o.cut o.L.length)=_
    rw[Ob.cut_all h]
  | n+1,k,last,hk,hl=>by
    have hlt:k<o.L.length:=by omega
    obtain⟨h1,h2⟩:=aOV h hlt (hl _ (qL hlt));rw[List.drop_eq_getElem_cons hlt,List.map_cons];unfold Ob.resL;rw[qD h1];show((o.cut k).putT (o.L[k]).u (o.L[k]).v (o.L[k]).wt (o.L[k]).t).resL (o.L[k]).t ((o.L.drop (k+1)).map mI)=_
    rw[h2];refine aDG h n (k+1) _ (by omega) fun e he=>?_;obtain⟨h3,rfl⟩:=qT.1 he;exact(List.pairwise_iff_getElem.1 h.mono) k (k+1) hlt h3 (by omega)
theorem aKN{o:Ob}(h:o.Ok)(hc:nL o.m o.E o.V o.D=true):kX o.m o.E o.V o.D o.now o.gone (o.L.map mI)=some o:=by
 have h1:=h.last;have h2:=h.max;have h3:=h.leE;unfold kX;rw[qD]
 {
 have:=aDG h o.L.length 0 0 (by omega) (fun e he=>(h.x e (List.mem_of_getElem? he)).2.1);exact this}
 {
 refine⟨by omega,hc,by rw[List.length_map];omega,by rw[List.length_map];omega,?_⟩;unfold dL lX;rw[qC (by have:=h.n0;omega),qD (by have:=h.n1;omega)]}
theorem fX{l m r:List Nat}{i n:Nat}(hi:l.length=i)(hn:m.length=n):sub (l++(m++r)) i n=m:=by
 subst hi hn;unfold sub;rw[List.drop_left,List.take_left]
theorem aOW(b:List Nat)(i n k:Nat):sub (b.drop k) i n=sub b (k+i) n:=by unfold sub;rw[List.drop_drop]
def R4.fit(r:R4):Prop:=r.1<18446744073709551616/\r.2.1<18446744073709551616/\(-9223372036854775808<=r.2.2.1/\r.2.2.1<=9223372036854775807)/\ -9223372036854775808<=r.2.2.2/\r.2.2.2<=9223372036854775807
theorem vS{x:Nat}(h:x<18446744073709551616):aN (beN 8 x)=x:=by rw[aDX];exact Nat.mod_eq_of_lt h
theorem sJ:∀(l:List R4) (r:List Nat),(∀x∈l,R4.fit x)->dM l.length (cV l++r)=l
  | [],_,_=>rfl
  | x::l,r,h=>by
    obtain⟨h1,h2,h3,h4⟩:=h x List.mem_cons_self;have e:cV (x::l)++r=beN 8 x.1++(beN 8 x.2.1++(beN 8 (bJ x.2.2.1)++(beN 8 (bJ x.2.2.2)++(cV l++r)))):=by
      show(wQ x++cV l)++r=_
      unfold wQ;simp only[List.append_assoc]
    have e2:cV (x::l)++r=wQ x++(cV l++r):=List.append_assoc ..;have l8:∀y,(beN 8 y).length=8:=aT 8;have q0:sub (cV (x::l)++r) 0 8=beN 8 x.1:=by rw[e];exact fX (l:=[]) rfl (l8 _)
    have q1:sub (cV (x::l)++r) 8 8=beN 8 x.2.1:=by rw[e];exact fX (l8 _) (l8 _)
    have q2:sub (cV (x::l)++r) 16 8=beN 8 (bJ x.2.2.1):=by
      rw[e,<-List.append_assoc];exact fX (by rw[zF,l8,l8]) (l8 _)
    have q3:sub (cV (x::l)++r) 24 8=beN 8 (bJ x.2.2.2):=by
      rw[e,<-List.append_assoc,<-List.append_assoc];exact fX (by rw[zF,zF,l8,l8,l8]) (l8 _)
    have q4:(cV (x::l)++r).drop 32=cV l++r:=by rw[e2];exact List.drop_left' (aDD x)
    show(aN (sub (cV (x::l)++r) 0 8),aN (sub (cV (x::l)++r) 8 8),bQ (aN (sub (cV (x::l)++r) 16 8)),bQ (aN (sub (cV (x::l)++r) 24 8)))::dM l.length ((cV (x::l)++r).drop 32)=x::l
    rw[q0,q1,q2,q3,q4,sJ l r (fun y hy=>h y (List.mem_cons_of_mem _ hy)),vS h1,vS h2,vS (kP _),vS (kP _),gN h3.1 h3.2,gN h4.1 h4.2]
theorem aDH{m E V D now:Int}{a g:Nat}{l:List R4}(hm:-9223372036854775808<=m/\m<=9223372036854775807)(hE:-9223372036854775808<=E/\E<=9223372036854775807)(hV:-9223372036854775808<=V/\V<=9223372036854775807)(hD:-9223372036854775808<=D/\D<=9223372036854775807)
    (hn:-9223372036854775808<=now/\now<=9223372036854775807) (ha:a<18446744073709551616) (hg:g<18446744073709551616) (hl:∀x∈l,R4.fit x) (hag:a=g+l.length):
    fN (aAP (eQ m E V D now a g l))=match kX m E V D now g l with|none=>(2,none)|some o=>(0,some o):=by
 obtain⟨b,hb⟩:∃b,b=aAP (eQ m E V D now a g l):=⟨_,rfl⟩;have hlen:b.length=65+32*l.length:=by rw[hb,aDE,jT];omega
 have l8:∀y,(beN 8 y).length=8:=aT 8;have e:b=pV++(beN 8 (bJ m)++(beN 8 (bJ E)++(beN 8 (bJ V)++(beN 8 (bJ D)++(beN 8 (bJ now)++(beN 8 a++(beN 8 g++(cV l++beN 4 (crc (eQ m E V D now a g l)))))))))):=by {
 rw[hb];unfold aAP;(conv=>lhs;lhs;unfold eQ rW kU);simp only[List.append_assoc]};have h5:b.take 5=pV:=by rw[e];exact List.take_left' rfl
 have q0:sub b 5 8=beN 8 (bJ m):=by rw[e];exact fX rfl (l8 _)
 have q1:sub b 13 8=beN 8 (bJ E):=by rw[e,<-List.append_assoc];exact fX (by rw[zF,l8];rfl) (l8 _)
 have q2:sub b 21 8=beN 8 (bJ V):=by rw[e,<-List.append_assoc,<-List.append_assoc];exact fX (by simp only[zF,l8];rfl) (l8 _)
 have q3:sub b 29 8=beN 8 (bJ D):=by rw[e,<-List.append_assoc,<-List.append_assoc,<-List.append_assoc];exact fX (by simp only[zF,l8];rfl) (l8 _)
 have q4:sub b 37 8=beN 8 (bJ now):=by rw[e,<-List.append_assoc,<-List.append_assoc,<-List.append_assoc,<-List.append_assoc];exact fX (by simp only[zF,l8];rfl) (l8 _)
 have q5:sub b 45 8=beN 8 a:=by rw[e,<-List.append_assoc,<-List.append_assoc,<-List.append_assoc,<-List.append_assoc,<-List.append_assoc];exact fX (by simp only[zF,l8];rfl) (l8 _)
 have q6:sub b 53 8=beN 8 g:=by rw[e,<-List.append_assoc,<-List.append_assoc,<-List.append_assoc,<-List.append_assoc,<-List.append_assoc,<-List.append_assoc];exact fX (by simp only[zF,l8];rfl) (l8 _)
 have q7:b.drop 61=cV l++beN 4 (crc (eQ m E V D now a g l)):=by rw[hb];unfold aAP eQ;rw[List.append_assoc];exact List.drop_left' (vR _ _ _ _ _ _ _)
 have q8:b.take (b.length-4)=eQ m E V D now a g l:=by rw[hlen,hb];exact List.take_left' (by rw[jT];omega)
 have q9:b.drop (b.length-4)=beN 4 (crc (eQ m E V D now a g l)):=by rw[hlen,hb];exact List.drop_left' (by rw[jT];omega)
 have hc:aN (beN 4 (crc (eQ m E V D now a g l)))=crc (eQ m E V D now a g l):=by rw[aDX];exact Nat.mod_eq_of_lt (aDW (nB _ _ _ _ _ _ _ _))
 rw[<-hb];unfold fN;rw[qC (by rw[h5,hlen];simp),qC (by rw[q8,q9,hc];simp)];simp only;rw[q5,q6,q7,q4,q3,q2,q1,q0,vS ha,vS hg,vS (kP _),vS (kP _),vS (kP _),vS (kP _),vS (kP _),gN hm.1 hm.2,gN hE.1 hE.2,gN hV.1 hV.2,gN hD.1 hD.2,gN hn.1 hn.2,hlen];rw[qC (by omega),show a-g=l.length by omega,sJ l _ hl];cases kX m E V D now g l<;>rfl
def inI(x:Int):Prop:=-9223372036854775808<=x/\x<=9223372036854775807
structure Ob.Pc (o:Ob):Prop where
  cf:nL o.m o.E o.V o.D=true
  fit:∀e∈o.L,inI e.wt
theorem aOX{m D:Int}{E V g:Nat}(h:nL m E V D=true):(Ob.new m E V D g).Pc:=⟨h,fun e he=>by cases he⟩
theorem Ob.Pc.tick{o:Ob}(h:o.Pc)(to:Int):(o.tick to).Pc:=⟨h.cf,fun e he=>h.fit e (zA.1 he).1⟩
theorem Ob.Pc.add{o:Ob}(h:o.Pc)(u v:Nat){wt:Int}(hw:inI wt)(t:Int):(o.add u v wt t).Pc:=by
 unfold Ob.add;split
 {
 refine⟨h.cf,fun e he=>?_⟩;rcases qE.1 (show e∈(o.tick t).L++_ from he) with he|he
 · exact(h.tick t).fit e he
 {
 obtain rfl:=qH.1 he;exact hw}}
 · exact h
theorem Ob.Pc.fit4{o:Ob}(h:o.Pc)(k:o.Ok):∀x∈o.L.map lvR,R4.fit x:=fun x hx=>by
 obtain⟨e,he,rfl⟩:=qW.1 hx;have h1:=k.u64 e he;have h2:=k.x e he;have h3:=k.n1;have h4:=k.m1;exact⟨h1.1,h1.2,h.fit e he,by show _<=e.t;omega,by show e.t<=_;omega⟩
theorem Ob.Pc.ins{o:Ob}(h:o.Pc)(k:o.Ok):inI o.m/\inI o.E/\inI o.V/\inI o.D/\inI o.now/\o.last<18446744073709551616/\o.gone<18446744073709551616:=by
 have h1:=iQ.1 h.cf;have h2:=k.m2;have h3:=k.n0;have h4:=k.n1;have h5:=k.max;have h6:=k.last;unfold inI;omega
theorem Ob.img_len(o:Ob):o.img.length=65+32*o.L.length:=by unfold Ob.img;rw[aDE,jT,List.length_map];omega
theorem Ob.img_byt(o:Ob):Byt o.img:=aDF (nB _ _ _ _ _ _ _ _)
theorem Ob.Pc.load{o:Ob}(h:o.Pc)(k:o.Ok):fN o.img=(0,some o):=by
 obtain⟨h1,h2,h3,h4,h5,h6,h7⟩:=h.ins k;have hl:=aDH (l:=o.L.map lvR) h1 h2 h3 h4 h5 h6 h7 (h.fit4 k) (by rw[List.length_map];exact k.last);unfold Ob.img;rw[hl,show o.L.map lvR=o.L.map mI from rfl,aKN k h.cf]
theorem aSO{o p:Ob}(h:o.Pc)(k:o.Ok)(h' :p.Pc)(k' :p.Ok):o.img=p.img↔o=p:=by
 constructor
 {
 intro e;have h1:=h.load k;rw[e,h'.load k']at h1;simpa using (congrArg Prod.snd h1).symm}
 · rintro rfl;rfl
theorem aDI{P:Program}{w:World}{ops:Array Oper}{rest:List Oper}{o:Oper}{a:Act}{Q:Exit->Act->World->Prop}(hgd:o.guard=none)(s x:Operand)(t:TypeId)
    (ho:o.op=.call { callee:=.builtin .append,args:=#[s,x],argTypes:=#[t,t] })
    (e:TypeId) (z:Value) (bytes:Nat) (ht:P.underlying t=some (.slice e)) (hinfo:(P.info? e).map (fun i=>(i.zero,i.size,i.bytes))=some (some z,1,bytes)) (hzs:z.cells.size=1)
    (b:Addr) (n cap:Nat) (olds:List Value) (hs:a.eval s=.slice (some b) n cap) (hlo:olds.length=n) (holds:∀j u,olds[j]? =some u->w.cell? (b.add j)=some u)
    (ad:Addr) (m c:Nat) (news:List Value) (hx:a.eval x=.slice (some ad) m c) (hl:news.length=m) (hnews:∀j u,news[j]? =some u->w.cell? (ad.add j)=some u)
    (hg:cap<n+m) (hn:n+m<=4294967296) (hby:bytes<=1024)
    (h:∀v' w', w'.ownsRow 0 e 1 v' (n+m) (olds++news)->(∀q,v'.ownBlock=some q->w.heap.size<=q)->Fr [] w w' -> wpList P ops Q rest (a.put o.dst v') w'):wpList P ops Q (o::rest) a w:=by
 obtain⟨i0,hi,hz0,hz1,hz2⟩:=info_parts hinfo;refine wpList_plain hgd fun K hK=>?_;have hbb:(n+m)*bytes<=140737488355328:=by {
 have:(n+m)*bytes<=4294967296*1024:=Nat.mul_le_mul hn hby;omega};obtain⟨v', w', hr,h2,h3⟩:=run_append_arg_grows (P:=P) w t o.type e i0 z 1 bytes ht hi hz0 hz1 hz2 hzs (by decide) b n cap olds (by rw[hlo,Nat.mul_one]) holds ad m c news (by rw[hl,Nat.mul_one]) hnews hg (by unfold maxLen;omega) hbb;unfold Oper.wp execOp;simp only[ho,resolve,invoke,builtin,Sem.run_bind,Sem.run_pure,Result.andThen_ok,List.map_toArray,List.map_cons,List.map_nil,hs,hx,hr];refine hK _ _ (h v' w' (wG h2) (fun q hq=>?_) ⟨h3.os,h3.tape,h3.output,h3.size,fun k hk _=>h3.block k hk (by simp)⟩);rcases h2.2 with⟨rfl,_⟩|⟨g,cap', cur,rfl,hgb,_⟩
 · cases hq
 {
 simp only[Value.ownBlock,qI]at hq;omega}
section
variable {W w:World} {ts:List Th} {v:Value} {l ns:List Nat} {nb sz cn:Nat}
theorem aFW(h:Wd W w (thY v l::ts))(hb:Blk w nb 36 (ns.map fun x:Nat=>.int .u64 (x:Int)))(hne:v.ownBlock≠some nb)(hsz:sz<=8)(hl:l.length+8*ns.length<=1073741824):
    Calls Tryz.prog 48 #[v,.int .i64 sz,.slice (some ⟨nb,0,none⟩) ns.length cn] w fun e w' =>∃v', e=.returned v' /\ Wd W w' (thY v' (l++ns.flatMap (beN sz))::ts):=by
 obtain⟨K,⟨hv,rfl⟩,hs⟩:=h.open;refine(aVY hv hb hne hsz hl).mono ?_;rintro _ w' ⟨v', rfl,h1,h2,h3⟩;refine⟨v', rfl,hs ⟨_,⟨h1,rfl⟩,h3,fun q hq=>?_⟩⟩;exact(h2 q (by simpa using hq)).imp (fun e=>by simp[e]) id
theorem aWC(h:Wd W w (thY v l::ts))(hb:Byt l)(hl:l.length<=4611686018427387904):Calls Tryz.prog 15 #[v] w fun e w' =>e=.returned (.int .u32 (crc l:Nat))/\w' =w:=by
 have hr:=h.rowB;obtain⟨a,cap,rfl⟩:=hr.slice;exact aHX hr.rd hb hl
end
theorem aWD(m E V D:Int)(w:World):Calls Tryz.prog 87 #[.agg #[.int .i64 m,.int .i64 E,.int .i64 V,.int .i64 D]] w fun e w' =>e=.returned (.agg #[.int .i64 m,.int .i64 E,.int .i64 V,.int .i64 D])/\Fr [] w w' :=by
 have hb:=Blk.new w [.int .i64 m,.int .i64 E,.int .i64 V,.int .i64 D] 115;have hF:Fr [] (w.alloc (.cells #[.int .i64 m,.int .i64 E,.int .i64 V,.int .i64 D] 115)) ((w.alloc (.cells #[.int .i64 m,.int .i64 E,.int .i64 V,.int .i64 D] 115)).alloc (.cells #[.int .i64 0,.int .i64 0,.int .i64 0,.int .i64 0] 31)):=(Fr.refl [] _).alloc _;have hb2:=hF.blk hb (by simp);have r0:=hb2.cell 0;have r1:=hb2.cell 1;have r2:=hb2.cell 2;have r3:=hb2.cell 3;have hb3:=Blk.new (w.alloc (.cells #[.int .i64 m,.int .i64 E,.int .i64 V,.int .i64 D] 115)) [.int .i64 m,.int .i64 E,.int .i64 V,.int .i64 D] 31;rw[World.size_alloc]at hb3;have q0:=hb3.cell 0;have q1:=hb3.cell 1;have q2:=hb3.cell 2;have q3:=hb3.cell 3;simp only[zJ,zK]at r0 r1 r2 r3 q0 q1 q2 q3;have HF:=qA (((Fr.refl [] w).alloc (.cells #[.int .i64 m,.int .i64 E,.int .i64 V,.int .i64 D] 115)).alloc (.cells #[.int .i64 m,.int .i64 E,.int .i64 V,.int .i64 D] 31));clear hb hF hb2 hb3;go_enter Tryz.func87,Tryz.ntmps87
 go_wp2
 exact bodyPost_ret (v:=.agg #[.int .i64 m,.int .i64 E,.int .i64 V,.int .i64 D]) (by simp[results,Tryz.results87,go_sem,q0,q1,q2,q3]) rfl ⟨rfl,HF.out⟩
theorem jU{x:Nat}(h:x<18446744073709551616):IntKind.i64.wrap (x:Int)=bQ x:=by
 rw[Go.IntKind.wrap_i64];unfold bQ;split<;>omega
theorem pW{l:List Nat}{i n:Nat}(h:i+n<=l.length):(sub l i n).length=n:=by unfold sub;rw[List.length_take,List.length_drop];omega
theorem pX{l:List Nat}(h:Byt l)(i n:Nat):Byt (sub l i n):=(h.drop i).take n
theorem RdB.sub{w:World}{b off:Nat}{l:List Nat}(h:RdB w (some ⟨b,off,none⟩) l)(i n:Nat):RdB w (some ⟨b,off+i,none⟩) (sub l i n):=(h.drop i).take n
def wR(l:List Nat)(k:Nat):List Value:=(List.range 4).map fun i=>.int .i64 (if i<k then bQ (aN (sub l (8*i) 8)) else 0)
theorem aWE{w:World}{b off n cap:Nat}{l:List Nat}(hr:RdB w (some ⟨b,off,none⟩) l)(hb:Byt l)(hn:l.length=n)(h32:32<=n)(hc:n<=cap)(hL:fZ w)
    (hw:cR (bQ (aN (sub l 0 8))) (bQ (aN (sub l 8 8))) (bQ (aN (sub l 16 8))) (bQ (aN (sub l 24 8)))=-1):
    Calls Tryz.prog 52 #[.slice (some ⟨b,off,none⟩) n cap] w fun e w' =>e=.returned (.tuple #[.agg #[.int .i64 (bQ (aN (sub l 0 8))),.int .i64 (bQ (aN (sub l 8 8))),.int .i64 (bQ (aN (sub l 16 8))),.int .i64 (bQ (aN (sub l 24 8)))],.int .i64 32,.int .i64 0])/\Fr [] w w' :=by
 have d0:decide ((n:Int)<32)=false:=qF (by omega);have d1:¬n<32:=by omega
 have HR:=qA (zI hr (zI hb hn));have HL:=qA hL;have HW:=qA hw;have HC:=qA (zI h32 hc);clear hr hb hn hL hw h32 hc;go_enter Tryz.func52,Tryz.ntmps52
 go_wp2_with fail
 have HP0:=qA (show Fr [] w ((w.alloc (.cells #[.int .i64 0,.int .i64 0,.int .i64 0,.int .i64 0] 31)).alloc (.cells #[.int .i64 0,.int .i64 0,.int .i64 0,.int .i64 0] 115))/\Blk ((w.alloc (.cells #[.int .i64 0,.int .i64 0,.int .i64 0,.int .i64 0] 31)).alloc (.cells #[.int .i64 0,.int .i64 0,.int .i64 0,.int .i64 0] 115)) (w.heap.size+1) 115 (wR l 0)/\Blk ((w.alloc (.cells #[.int .i64 0,.int .i64 0,.int .i64 0,.int .i64 0] 31)).alloc (.cells #[.int .i64 0,.int .i64 0,.int .i64 0,.int .i64 0] 115)) w.heap.size 31 [.int .i64 0,.int .i64 0,.int .i64 0,.int .i64 0] from by
   refine⟨((Fr.refl [] w).alloc _).alloc _,?_,((Fr.refl [] _).alloc _).blk (Blk.new w [.int .i64 0,.int .i64 0,.int .i64 0,.int .i64 0] 31) (by simp)⟩;have k:=Blk.new (w.alloc (.cells #[.int .i64 0,.int .i64 0,.int .i64 0,.int .i64 0] 31)) [.int .i64 0,.int .i64 0,.int .i64 0,.int .i64 0] 115;rw[World.size_alloc]at k;exact k)
 clear d0 d1;go_loopw [14] (fun i wr=>∃k:Nat,k<=4/\i=.int .i64 k/\Hid (Fr [] w wr/\Blk wr (w.heap.size+1) 115 (wR l k)/\Blk wr w.heap.size 31 [.int .i64 0,.int .i64 0,.int .i64 0,.int .i64 0])) (fun i _=>4-(intOf i).toNat)
 case atStart=>exact⟨0,by omega,rfl,HP0⟩
 case round=>
  clear HP0;obtain⟨k,hk,rfl,HP⟩:=hrel;rename World=>wr
  by_cases hlt:k<4
  {
  have hlt' :(k:Int)<4:=by omega
  have hk0:(0:Int)<=k:=by omega
  have hw1:IntKind.i64.wrap ((k:Int)+1)=((k+1:Nat):Int):=by rw[show(k:Int)+1=((k+1:Nat):Int) by omega];exact zG _ (by omega)
  have hw8:IntKind.i64.wrap (8*(k:Int))=((8*k:Nat):Int):=by rw[show 8*(k:Int)=((8*k:Nat):Int) by omega];exact zG _ (by omega)
  have hw9:IntKind.i64.wrap (((8*k:Nat):Int)+8)=((8*k+8:Nat):Int):=by rw[show((8*k:Nat):Int)+8=((8*k+8:Nat):Int) by omega];exact zG _ (by omega)
  have hp0:(0:Int)<=((8*k:Nat):Int):=by omega
  have hp1:((8*k:Nat):Int)<=((8*k+8:Nat):Int):=by omega
  have hp2:((8*k+8:Nat):Int)<=cap:=by have:=HC.out;omega
  have hne:¬cap=8*k:=by have:=HC.out;omega
  have t1:((8*k:Nat):Int).toNat=8*k:=zD _;have t2:((8*k+8:Nat):Int).toNat=8*k+8:=zD _;have e8:8*k+8-8*k=8:=by omega
  generalize hk8:8*k=k8 at *;have HK:=qA hk8;clear hk8;go_wp2_with fail
  clear hp0 hp1 hp2 hne t1 t2 hw8 hw9;have HS:=qA (show RdB w (some ⟨b,off+k8,none⟩) (sub l k8 8)/\Byt (sub l k8 8)/\(sub l k8 8).length=8 from⟨HR.out.1.sub k8 8,pX HR.out.2.1 k8 8,pW (by rw[HR.out.2.2];have:=HC.out;have:=HK.out;omega)⟩);go_loopw [7,25] (fun r c wr2=>∃(j:Nat) (x:Nat),j<=8/\r=.int .u64 x/\c=.int .i64 j/\wr2=wr/\Hid (x=aN ((sub l k8 8).take j))) (fun _ c _=>8-(intOf c).toNat)
  case atStart=>exact⟨0,0,by omega,rfl,rfl,rfl,qA rfl⟩
  case round=>
   obtain⟨j,x,hj,rfl,rfl,rfl,HX⟩:=hrel;by_cases hj8:j<8
   {
   have hj8' :(j:Int)<8:=by omega
   have hj0:(0:Int)<=j:=by omega
   have hw2:IntKind.i64.wrap ((j:Int)+1)=((j+1:Nat):Int):=by rw[show(j:Int)+1=((j+1:Nat):Int) by omega];exact zG _ (by omega)
   have hjl:j<(sub l k8 8).length:=by rw[HS.out.2.2];exact hj8
   obtain⟨b', off', eb,_,c0⟩:=(HS.out.1.fr HP.out.1) j hjl;simp only[qI,Addr.mk.injEq,and_true]at eb;obtain⟨rfl,rfl⟩:=eb;have hby:=HS.out.2.1 _ (List.getElem_mem hjl);have hx:x<72057594037927936:=by rw[HX.out];exact mH HS.out.2.1 hjl (by rw[HS.out.2.2];decide)
   have htk:(sub l k8 8).take (j+1)=(sub l k8 8).take j++[(sub l k8 8)[j]'hjl]:=by rw[List.take_add_one,qL hjl];rfl
   generalize (sub l k8 8)[j]'hjl=y at *;have hwy:IntKind.u64.wrap (y:Int)=y:=by simp[IntKind.wrap,IntKind.bits,IntKind.signed];omega
   have hwx:IntKind.u64.wrap ((x:Int)*256)=(x:Int)*256:=by simp[IntKind.wrap,IntKind.bits,IntKind.signed];omega
   have hor:=aFU hx hby;have HN:=qA (show x*256+y=aN ((sub l k8 8).take (j+1)) by rw[htk,tL,<-HX.out]);clear htk HX;go_wp2_with fail
   go_roundw
   case rel=>exact⟨j+1,x*256+y,by omega,rfl,by go_num,trivial,HN⟩
   case measure=>simp[intOf];omega}
   {
   obtain rfl:j=8:=by omega
   have hxv:x=aN (sub l k8 8):=by {
   have e:=HX.out;rw[List.take_of_length_le (by rw[HS.out.2.2];exact qK _)]at e;exact e};have hx:x<18446744073709551616:=by rw[hxv];have h1:=iZ HS.out.2.1;rw[HS.out.2.2]at h1;exact h1
   have hwz:=jU hx;obtain⟨yv,hyv⟩:∃yv,yv=bQ x:=⟨_,rfl⟩;rw[<-hyv]at hwz;have hk8' :=HK.out;have hset:(wR l k).set k (.int .i64 yv)=wR l (k+1):=by {
   rw[hyv,hxv];have hk4:k=0∨k=1∨k=2∨k=3:=by omega
   rcases hk4 with rfl|rfl|rfl|rfl<;>subst hk8' <;> rfl};have c8:=HP.out.2.1.cell k;have z9:=HP.out.2.1.frozen k;have c9:wr.cell? ⟨w.heap.size+1,k,none⟩=some (.int .i64 0):=by {
   rw[c8];have hk4:k=0∨k=1∨k=2∨k=3:=by omega
   rcases hk4 with rfl|rfl|rfl|rfl<;>rfl};have hlt4:w.heap.size≠w.heap.size+1:=by omega
   have HN:=qA (show Fr [] w (wr.setCell ⟨w.heap.size+1,k,none⟩ (.int .i64 yv))/\Blk (wr.setCell ⟨w.heap.size+1,k,none⟩ (.int .i64 yv)) (w.heap.size+1) 115 (wR l (k+1))/\Blk (wr.setCell ⟨w.heap.size+1,k,none⟩ (.int .i64 yv)) w.heap.size 31 [.int .i64 0,.int .i64 0,.int .i64 0,.int .i64 0] from by
     refine⟨HP.out.1.setCell _ _ (.inr (by simp)),?_,((Fr.refl [w.heap.size+1] wr).setCell _ _ (.inl (by simp))).blk HP.out.2.2 (by simp)⟩;rw[<-hset];exact HP.out.2.1.set k (.int .i64 yv))
   clear hset hxv hyv HX hk8' HP c8;go_wp2_with fail
   go_roundw
   case rel=>exact⟨k+1,by omega,by go_num,HN⟩
   case measure=>simp[intOf];omega}}
  {
  obtain rfl:k=4:=by omega
  have hb4:Blk wr (w.heap.size+1) 115 [.int .i64 (bQ (aN (sub l 0 8))),.int .i64 (bQ (aN (sub l 8 8))),.int .i64 (bQ (aN (sub l 16 8))),.int .i64 (bQ (aN (sub l 24 8)))]:=HP.out.2.1;have hv8:∀i,i+8<=32->aN (sub l i 8)<18446744073709551616:=fun i hi=>by
    have h1:=iZ (pX HR.out.2.1 i 8);rw[pW (by rw[HR.out.2.2];have:=HC.out;omega)]at h1;exact h1
  have hg:=yK (HL.out.fr HP.out.1 (by simp)) (bQ (aN (sub l 0 8))) (bQ (aN (sub l 8 8))) (bQ (aN (sub l 16 8))) (bQ (aN (sub l 24 8))) (iF _ (hv8 0 (by omega))).2;rw[HW.out]at hg;generalize hX0:bQ (aN (sub l 0 8))=X0 at *;generalize hX1:bQ (aN (sub l 8 8))=X1 at *;generalize hX2:bQ (aN (sub l 16 8))=X2 at *;generalize hX3:bQ (aN (sub l 24 8))=X3 at *;have r0:=hb4.cell 0;have r1:=hb4.cell 1;have r2:=hb4.cell 2;have r3:=hb4.cell 3;simp only[zJ,zK,Nat.add_zero]at r0 r1 r2 r3;have HXX:=qA (zI hX0 (zI hX1 (zI hX2 hX3)));clear hX0 hX1 hX2 hX3;have HG:=qA hg;have HB4:=qA hb4;clear hg hb4 hv8;go_wp2_with fail
  refine HG.out.mono ?_;rintro _ w3 ⟨rfl,hF⟩;have HJ:=qA (aWD X0 X1 X2 X3 w3);have hb4:=hF.blk HB4.out (by simp);have r0:=hb4.cell 0;have r1:=hb4.cell 1;have r2:=hb4.cell 2;have r3:=hb4.cell 3;simp only[zJ,zK]at r0 r1 r2 r3;have HP3:=qA (zI (HP.out.1.trans' hF) (hF.blk HP.out.2.2 (by simp)));clear hb4 hF HG HB4 HP;go_wp2_with fail
  refine HJ.out.mono ?_;rintro _ w4 ⟨rfl,hF⟩;have hb:=hF.blk HP3.out.2 (by simp);have c0:=hb.cell 0;have c1:=hb.cell 1;have c2:=hb.cell 2;have c3:=hb.cell 3;have z0:=hb.frozen 0;have z1:=hb.frozen 1;have z2:=hb.frozen 2;have z3:=hb.frozen 3;simp only[zJ,zK]at c0 c1 c2 c3;have HF4:=qA (HP3.out.1.trans' hF);have hq:=(((hb.set 0 (.int .i64 X0)).set 1 (.int .i64 X1)).set 2 (.int .i64 X2)).set 3 (.int .i64 X3);have q0:=hq.cell 0;have q1:=hq.cell 1;have q2:=hq.cell 2;have q3:=hq.cell 3;simp only[qY,qU,zJ,zK]at q0 q1 q2 q3;clear hb hq hF HJ r0 r1 r2 r3 HP3;go_wp2
  exact bodyPost_ret (v:=.tuple #[.agg #[.int .i64 X0,.int .i64 X1,.int .i64 X2,.int .i64 X3],.int .i64 32,.int .i64 0]) (by simp[results,Tryz.results52,go_sem,q0,q1,q2,q3]) rfl ⟨by rw[HXX.out.1,HXX.out.2.1,HXX.out.2.2.1,HXX.out.2.2.2],(((HF4.out.setCell _ _ (.inr (qK _))).setCell _ _ (.inr (qK _))).setCell _ _ (.inr (qK _))).setCell _ _ (.inr (qK _))⟩}
theorem aWF{w:World}{b off n cap:Nat}{l:List Nat}(hr:RdB w (some ⟨b,off,none⟩) l)(hb:Byt l)(hn:l.length=n)(h32:32<=n)(hc:n<=cap)(hL:fZ w)
    (hw:0<=cR (bQ (aN (sub l 0 8))) (bQ (aN (sub l 8 8))) (bQ (aN (sub l 16 8))) (bQ (aN (sub l 24 8)))):
    Calls Tryz.prog 52 #[.slice (some ⟨b,off,none⟩) n cap] w fun e w' =>e=.returned (.tuple #[.agg #[.int .i64 0,.int .i64 0,.int .i64 0,.int .i64 0],.int .i64 0,.int .i64 2])/\Fr [] w w' :=by
 have d0:decide ((n:Int)<32)=false:=qF (by omega);have d1:¬n<32:=by omega
 have HR:=qA (zI hr (zI hb hn));have HL:=qA hL;have HW:=qA hw;have HC:=qA (zI h32 hc);clear hr hb hn hL hw h32 hc;go_enter Tryz.func52,Tryz.ntmps52
 go_wp2_with fail
 have HP0:=qA (show Fr [] w ((w.alloc (.cells #[.int .i64 0,.int .i64 0,.int .i64 0,.int .i64 0] 31)).alloc (.cells #[.int .i64 0,.int .i64 0,.int .i64 0,.int .i64 0] 115))/\Blk ((w.alloc (.cells #[.int .i64 0,.int .i64 0,.int .i64 0,.int .i64 0] 31)).alloc (.cells #[.int .i64 0,.int .i64 0,.int .i64 0,.int .i64 0] 115)) (w.heap.size+1) 115 (wR l 0)/\Blk ((w.alloc (.cells #[.int .i64 0,.int .i64 0,.int .i64 0,.int .i64 0] 31)).alloc (.cells #[.int .i64 0,.int .i64 0,.int .i64 0,.int .i64 0] 115)) w.heap.size 31 [.int .i64 0,.int .i64 0,.int .i64 0,.int .i64 0] from by
   refine⟨((Fr.refl [] w).alloc _).alloc _,?_,((Fr.refl [] _).alloc _).blk (Blk.new w [.int .i64 0,.int .i64 0,.int .i64 0,.int .i64 0] 31) (by simp)⟩;have k:=Blk.new (w.alloc (.cells #[.int .i64 0,.int .i64 0,.int .i64 0,.int .i64 0] 31)) [.int .i64 0,.int .i64 0,.int .i64 0,.int .i64 0] 115;rw[World.size_alloc]at k;exact k)
 clear d0 d1;go_loopw [14] (fun i wr=>∃k:Nat,k<=4/\i=.int .i64 k/\Hid (Fr [] w wr/\Blk wr (w.heap.size+1) 115 (wR l k)/\Blk wr w.heap.size 31 [.int .i64 0,.int .i64 0,.int .i64 0,.int .i64 0])) (fun i _=>4-(intOf i).toNat)
 case atStart=>exact⟨0,by omega,rfl,HP0⟩
 case round=>
  clear HP0;obtain⟨k,hk,rfl,HP⟩:=hrel;rename World=>wr
  by_cases hlt:k<4
  {
  have hlt' :(k:Int)<4:=by omega
  have hk0:(0:Int)<=k:=by omega
  have hw1:IntKind.i64.wrap ((k:Int)+1)=((k+1:Nat):Int):=by rw[show(k:Int)+1=((k+1:Nat):Int) by omega];exact zG _ (by omega)
  have hw8:IntKind.i64.wrap (8*(k:Int))=((8*k:Nat):Int):=by rw[show 8*(k:Int)=((8*k:Nat):Int) by omega];exact zG _ (by omega)
  have hw9:IntKind.i64.wrap (((8*k:Nat):Int)+8)=((8*k+8:Nat):Int):=by rw[show((8*k:Nat):Int)+8=((8*k+8:Nat):Int) by omega];exact zG _ (by omega)
  have hp0:(0:Int)<=((8*k:Nat):Int):=by omega
  have hp1:((8*k:Nat):Int)<=((8*k+8:Nat):Int):=by omega
  have hp2:((8*k+8:Nat):Int)<=cap:=by have:=HC.out;omega
  have hne:¬cap=8*k:=by have:=HC.out;omega
  have t1:((8*k:Nat):Int).toNat=8*k:=zD _;have t2:((8*k+8:Nat):Int).toNat=8*k+8:=zD _;have e8:8*k+8-8*k=8:=by omega
  generalize hk8:8*k=k8 at *;have HK:=qA hk8;clear hk8;go_wp2_with fail
  clear hp0 hp1 hp2 hne t1 t2 hw8 hw9;have HS:=qA (show RdB w (some ⟨b,off+k8,none⟩) (sub l k8 8)/\Byt (sub l k8 8)/\(sub l k8 8).length=8 from⟨HR.out.1.sub k8 8,pX HR.out.2.1 k8 8,pW (by rw[HR.out.2.2];have:=HC.out;have:=HK.out;omega)⟩);go_loopw [7,25] (fun r c wr2=>∃(j:Nat) (x:Nat),j<=8/\r=.int .u64 x/\c=.int .i64 j/\wr2=wr/\Hid (x=aN ((sub l k8 8).take j))) (fun _ c _=>8-(intOf c).toNat)
  case atStart=>exact⟨0,0,by omega,rfl,rfl,rfl,qA rfl⟩
  case round=>
   obtain⟨j,x,hj,rfl,rfl,rfl,HX⟩:=hrel;by_cases hj8:j<8
   {
   have hj8' :(j:Int)<8:=by omega
   have hj0:(0:Int)<=j:=by omega
   have hw2:IntKind.i64.wrap ((j:Int)+1)=((j+1:Nat):Int):=by rw[show(j:Int)+1=((j+1:Nat):Int) by omega];exact zG _ (by omega)
   have hjl:j<(sub l k8 8).length:=by rw[HS.out.2.2];exact hj8
   obtain⟨b', off', eb,_,c0⟩:=(HS.out.1.fr HP.out.1) j hjl;simp only[qI,Addr.mk.injEq,and_true]at eb;obtain⟨rfl,rfl⟩:=eb;have hby:=HS.out.2.1 _ (List.getElem_mem hjl);have hx:x<72057594037927936:=by rw[HX.out];exact mH HS.out.2.1 hjl (by rw[HS.out.2.2];decide)
   have htk:(sub l k8 8).take (j+1)=(sub l k8 8).take j++[(sub l k8 8)[j]'hjl]:=by rw[List.take_add_one,qL hjl];rfl
   generalize (sub l k8 8)[j]'hjl=y at *;have hwy:IntKind.u64.wrap (y:Int)=y:=by simp[IntKind.wrap,IntKind.bits,IntKind.signed];omega
   have hwx:IntKind.u64.wrap ((x:Int)*256)=(x:Int)*256:=by simp[IntKind.wrap,IntKind.bits,IntKind.signed];omega
   have hor:=aFU hx hby;have HN:=qA (show x*256+y=aN ((sub l k8 8).take (j+1)) by rw[htk,tL,<-HX.out]);clear htk HX;go_wp2_with fail
   go_roundw
   case rel=>exact⟨j+1,x*256+y,by omega,rfl,by go_num,trivial,HN⟩
   case measure=>simp[intOf];omega}
   {
   obtain rfl:j=8:=by omega
   have hxv:x=aN (sub l k8 8):=by {
   have e:=HX.out;rw[List.take_of_length_le (by rw[HS.out.2.2];exact qK _)]at e;exact e};have hx:x<18446744073709551616:=by rw[hxv];have h1:=iZ HS.out.2.1;rw[HS.out.2.2]at h1;exact h1
   have hwz:=jU hx;obtain⟨yv,hyv⟩:∃yv,yv=bQ x:=⟨_,rfl⟩;rw[<-hyv]at hwz;have hk8' :=HK.out;have hset:(wR l k).set k (.int .i64 yv)=wR l (k+1):=by {
   rw[hyv,hxv];have hk4:k=0∨k=1∨k=2∨k=3:=by omega
   rcases hk4 with rfl|rfl|rfl|rfl<;>subst hk8' <;> rfl};have c8:=HP.out.2.1.cell k;have z9:=HP.out.2.1.frozen k;have c9:wr.cell? ⟨w.heap.size+1,k,none⟩=some (.int .i64 0):=by {
   rw[c8];have hk4:k=0∨k=1∨k=2∨k=3:=by omega
   rcases hk4 with rfl|rfl|rfl|rfl<;>rfl};have hlt4:w.heap.size≠w.heap.size+1:=by omega
   have HN:=qA (show Fr [] w (wr.setCell ⟨w.heap.size+1,k,none⟩ (.int .i64 yv))/\Blk (wr.setCell ⟨w.heap.size+1,k,none⟩ (.int .i64 yv)) (w.heap.size+1) 115 (wR l (k+1))/\Blk (wr.setCell ⟨w.heap.size+1,k,none⟩ (.int .i64 yv)) w.heap.size 31 [.int .i64 0,.int .i64 0,.int .i64 0,.int .i64 0] from by
     refine⟨HP.out.1.setCell _ _ (.inr (by simp)),?_,((Fr.refl [w.heap.size+1] wr).setCell _ _ (.inl (by simp))).blk HP.out.2.2 (by simp)⟩;rw[<-hset];exact HP.out.2.1.set k (.int .i64 yv))
   clear hset hxv hyv HX hk8' HP c8;go_wp2_with fail
   go_roundw
   case rel=>exact⟨k+1,by omega,by go_num,HN⟩
   case measure=>simp[intOf];omega}}
  {
  obtain rfl:k=4:=by omega
  have hb4:Blk wr (w.heap.size+1) 115 [.int .i64 (bQ (aN (sub l 0 8))),.int .i64 (bQ (aN (sub l 8 8))),.int .i64 (bQ (aN (sub l 16 8))),.int .i64 (bQ (aN (sub l 24 8)))]:=HP.out.2.1;have hv8:∀i,i+8<=32->aN (sub l i 8)<18446744073709551616:=fun i hi=>by
    have h1:=iZ (pX HR.out.2.1 i 8);rw[pW (by rw[HR.out.2.2];have:=HC.out;omega)]at h1;exact h1
  have hg:=yK (HL.out.fr HP.out.1 (by simp)) (bQ (aN (sub l 0 8))) (bQ (aN (sub l 8 8))) (bQ (aN (sub l 16 8))) (bQ (aN (sub l 24 8))) (iF _ (hv8 0 (by omega))).2;have hw:=HW.out;clear HW;generalize hX0:bQ (aN (sub l 0 8))=X0 at *;generalize hX1:bQ (aN (sub l 8 8))=X1 at *;generalize hX2:bQ (aN (sub l 16 8))=X2 at *;generalize hX3:bQ (aN (sub l 24 8))=X3 at *;have r0:=hb4.cell 0;have r1:=hb4.cell 1;have r2:=hb4.cell 2;have r3:=hb4.cell 3;simp only[zJ,zK,Nat.add_zero]at r0 r1 r2 r3;generalize cR X0 X1 X2 X3=xw at *;have dw:decide (xw≥0)=true:=qG hw;clear hX0 hX1 hX2 hX3;have HG:=qA hg;have HB4:=qA hb4;clear hg hb4 hv8;go_wp2_with fail
  refine HG.out.mono ?_;rintro _ w3 ⟨rfl,hF⟩;have hb:=hF.blk HP.out.2.2 (by simp);have c0:=hb.cell 0;have c1:=hb.cell 1;have c2:=hb.cell 2;have c3:=hb.cell 3;have z0:=hb.frozen 0;have z1:=hb.frozen 1;have z2:=hb.frozen 2;have z3:=hb.frozen 3;simp only[zJ,zK]at c0 c1 c2 c3;have HF4:=qA (HP.out.1.trans' hF);have hq:=(((hb.set 0 (.int .i64 0)).set 1 (.int .i64 0)).set 2 (.int .i64 0)).set 3 (.int .i64 0);have q0:=hq.cell 0;have q1:=hq.cell 1;have q2:=hq.cell 2;have q3:=hq.cell 3;simp only[qY,qU,zJ,zK]at q0 q1 q2 q3;clear hb hq hF r0 r1 r2 r3 HP HG HB4;go_wp2
  exact bodyPost_ret (v:=.tuple #[.agg #[.int .i64 0,.int .i64 0,.int .i64 0,.int .i64 0],.int .i64 0,.int .i64 2]) (by simp[results,Tryz.results52,go_sem,q0,q1,q2,q3]) rfl ⟨rfl,(((HF4.out.setCell _ _ (.inr (qK _))).setCell _ _ (.inr (qK _))).setCell _ _ (.inr (qK _))).setCell _ _ (.inr (qK _))⟩}
theorem aDJ{b:List Nat}{i n k:Nat}(h:i+n<=k):sub (b.take k) i n=sub b i n:=by
 unfold sub;rw[List.drop_take,List.take_take,Nat.min_eq_left (by omega)]
def Rst(w:World)(rb b off n cap:Nat)(l:List Nat):Prop:=Blk w rb 22 [.slice (some ⟨b,off,none⟩) n cap]/\RdB w (some ⟨b,off,none⟩) l/\Byt l/\l.length=n/\n<cap/\rb≠b
section
variable {w w' :World} {rb b off n cap:Nat} {l:List Nat}
theorem Rst.fr{S:List Nat}(h:Rst w rb b off n cap l)(hf:Fr S w w')(h1:rb∉S)(h2:b∉S):Rst w' rb b off n cap l:=by
 obtain⟨k1,k2,k3,k4,k5,k6⟩:=h;exact⟨hf.blk k1 h1,k2.frS hf (fun b' off' e=>by simp only[qI,Addr.mk.injEq]at e;rw[<-e.1];exact h2),k3,k4,k5,k6⟩
theorem oO(h:Rst w rb b off n cap l)(h8:8<=n):Calls Tryz.prog 51 #[.pointer (some ⟨rb,0,none⟩)] w fun e w' =>e=.returned (.int .u64 (aN (l.take 8):Nat))/\Rst w' rb b (off+8) (n-8) (cap-8) (l.drop 8)/\Fr [rb] w w' :=by
 obtain⟨k1,k2,k3,k4,k5,k6⟩:=h;refine(aVZ k1 k2 k3 k4 h8 k5).mono ?_;rintro _ _ ⟨rfl,rfl⟩;have hF:Fr [rb] w (w.setCell ⟨rb,0,none⟩ (.slice (some ⟨b,off+8,none⟩) (n-8) (cap-8))):=(Fr.refl _ _).setCell _ _ (.inl (by simp));refine⟨rfl,⟨k1.set 0 _,(k2.drop 8).frS hF (fun b' off' e=>?_),k3.drop 8,by rw[List.length_drop,k4],by omega,k6⟩,hF⟩;simp only[qI,Addr.mk.injEq]at e;simp only[qH,<-e.1];exact fun e=>k6 e.symm
end
theorem gO{l:List Nat}(h:Byt l):aN (l.take 8)<18446744073709551616:=by
 have h1:=iZ (h.take 8);have h2:256 ^ (l.take 8).length<=256 ^ 8:=Nat.pow_le_pow_right (by decide) (by rw[List.length_take];omega);exact Nat.lt_of_lt_of_le h1 h2
def aFX(r:R4):List Value:=[.int .u64 (r.1:Nat),.int .u64 (r.2.1:Nat),.int .i64 r.2.2.1,.int .i64 r.2.2.2]
def eS(l:List R4):List Value:=l.flatMap aFX
def mJ:Nat->List Value
  | 0=>[]
  | n+1=>[.int .u64 0,.int .u64 0,.int .i64 0,.int .i64 0]++mJ n
theorem yE(l:List R4):(eS l).length=l.length*4:=by
 induction l with
 | nil=>rfl
 | cons r l ih=>show(aFX r++eS l).length=_;rw[zF,ih];show 4+_=_;simp only[qZ];omega
theorem tJ(A B:List Value)(j:Nat)(x:Value):(A++B).set (A.length+j) x=A++B.set j x:=by
 rw[List.set_append_right _ _ (by omega),Nat.add_sub_cancel_left]
theorem aOY(l:List R4)(n:Nat)(r:R4):((((eS l++mJ (n+1)).set (l.length*4) (.int .u64 (r.1:Nat))).set (l.length*4+1) (.int .u64 (r.2.1:Nat))).set (l.length*4+2) (.int .i64 r.2.2.1)).set (l.length*4+3) (.int .i64 r.2.2.2)=eS (l++[r])++mJ n:=by
 have h0:=yE l;have e:eS (l++[r])=eS l++aFX r:=by unfold eS;rw[List.flatMap_append];simp
 rw[e,List.append_assoc,<-h0];rw[show(eS l++mJ (n+1)).set (eS l).length (.int .u64 (r.1:Nat))=eS l++(mJ (n+1)).set 0 (.int .u64 (r.1:Nat)) from tJ _ _ 0 _,tJ,tJ,tJ];rfl
theorem aSP(l:List R4)(n j:Nat)(hj:j<4):(eS l++mJ (n+1))[l.length*4+j]? =([.int .u64 0,.int .u64 0,.int .i64 0,.int .i64 0]:List Value)[j]? :=by
 rw[<-yE l,List.getElem?_append_right (by omega),show(eS l).length+j-(eS l).length=j by omega];unfold mJ;rw[List.getElem?_append_left (by simpa using hj)]
theorem aDK:∀{l:List R4} {i:Nat} (hi:i<l.length) (j:Nat),j<4->(eS l)[i*4+j]? =(aFX l[i])[j]?
  | r::l,0,_,j,hj=>by
    show(aFX r++eS l)[0*4+j]? =_
    rw[Nat.zero_mul,Nat.zero_add,List.getElem?_append_left (by exact hj)];rfl
  | r::l,i+1,hi,j,hj=>by
    show(aFX r++eS l)[(i+1)*4+j]? =_
    rw[List.getElem?_append_right (by show 4<=_;omega)];have:=aDK (l:=l) (i:=i) (by simpa using hi) j hj;rw[show(i+1)*4+j-(aFX r).length=i*4+j by show _-4=_;omega,this];rfl
theorem aWG{w:World}{qb:Nat}{l:List R4}(h:Blk w qb 72 (eS l)):RcW w (some ⟨qb,0,none⟩) l:=fun i hi=>by
 have hc:=fun j (hj:j<4)=>(h.cell (i*4+j)).trans (aDK hi j hj);have h0:=hc 0 (by decide);have h1:=hc 1 (by decide);have h2:=hc 2 (by decide);have h3:=hc 3 (by decide);refine⟨qb,0,rfl,h.lt,?_,?_,?_,?_⟩<;>simp only[Nat.zero_add]
 · exact h0
 · exact h1
 · exact h2
 · exact h3
def rz:Value:=.agg #[.int .u64 0,.int .u64 0,.int .i64 0,.int .i64 0]
def mK(n:Nat):Array Value:=madeCells rz.cells (n*4)
theorem Tryz.inforr:(Tryz.prog.info? 72).map (fun i=>(i.zero,i.size,i.bytes))=some (some rz,4,32):=by kernel_rfl
theorem wS(n:Nat)(w:World)(hn:n<=16384):(Instr.makeSlice 98 (.int .u64 n) (.int .u64 n)).run Tryz.prog w=.ok (.slice (some ⟨w.heap.size,0,none⟩) n n) (w.alloc (.cells (mK n) 72)):=by
 obtain⟨i0,hi,hz0,hz1,hz2⟩:=info_parts Tryz.inforr;have h:=run_make (P:=Tryz.prog) w 98 72 i0 rz Tryz.underlying98 hi hz0 .u64 .u64 n n (by omega) (by omega) (by rw[hz2];omega) (by omega);rw[hz1]at h;simp only[zD]at h;exact h
theorem yF(n:Nat):(mK n).toList=mJ n:=by
 have hz:rz.cells=#[.int .u64 0,.int .u64 0,.int .i64 0,.int .i64 0]:=by rfl
 have key:∀k,(List.range (k*4)).map (fun i=>rz.cells[i%rz.cells.size]!)=mJ k:=by {
 intro k;induction k with
 | zero=>rfl
 | succ k ih=>{
 have hr:List.range ((k+1)*4)=List.range 4++(List.range (k*4)).map (4+·):=by rw[show(k+1)*4=4+k*4 by omega,List.range_add]
 rw[hr,List.map_append,List.map_map];unfold mJ;congr 1
 rw[<-ih];refine List.map_congr_left fun i _=>?_;show rz.cells[(4+i)%rz.cells.size]! =rz.cells[i%rz.cells.size]!
 rw[show rz.cells.size=4 by rw[hz];rfl,Nat.add_mod_left]}};unfold mK madeCells;rw[Array.toList_map,Array.toList_range];exact key n
theorem aOZ(w:World)(n:Nat):Blk (w.alloc (.cells (mK n) 72)) w.heap.size 72 (eS []++mJ n):=by
 have k:=Blk.new w (mK n).toList 72;rw[yF]at k;rw[show mK n=(mJ n).toArray by rw[<-yF]];exact k
def kV(b:List Nat):R4:=(aN (b.take 8),aN ((b.drop 8).take 8),bQ (aN (((b.drop 8).drop 8).take 8)),bQ (aN ((((b.drop 8).drop 8).drop 8).take 8)))
theorem eM(n:Nat)(b:List Nat):dM (n+1) b=kV b::dM n (b.drop 32):=by
 unfold kV;simp only[List.drop_drop];rfl
theorem sK:∀(n:Nat) (b:List Nat),dM (n+1) b=dM n b++[kV (b.drop (32*n))]
  | 0,b=>by rw[eM];rfl
  | n+1,b=>by
    rw[eM,sK n (b.drop 32),List.drop_drop,eM n b,zC,show 32+32*n=32*(n+1) by omega]
theorem iR:∀(n:Nat) (b:List Nat),(dM n b).length=n
  | 0,_=>rfl
  | n+1,b=>by rw[eM,qZ,iR n]
theorem sM:∀(n:Nat) (b:List Nat) (k:Nat),32*n<=k->dM n (b.take k)=dM n b
  | 0,_,_,_=>rfl
  | n+1,b,k,h=>by
    rw[eM,eM,List.drop_take,sM n (b.drop 32) (k-32) (by omega)];unfold kV;simp only[List.drop_take,List.take_take];rw[show min 8 k=8 by omega,show min 8 (k-8)=8 by omega,show min 8 (k-8-8)=8 by omega,show min 8 (k-8-8-8)=8 by omega]
theorem aPA{b:List Nat}(h:Byt b):(kV b).1<18446744073709551616/\(kV b).2.1<18446744073709551616/\(-9223372036854775808<=(kV b).2.2.1/\(kV b).2.2.1<=9223372036854775807)/\ -9223372036854775808<=(kV b).2.2.2/\(kV b).2.2.2<=9223372036854775807:=by
 have h8:∀c:List Nat,Byt c->aN (c.take 8)<18446744073709551616:=fun c hc=>by
   have h1:=iZ (hc.take 8);have h2:256 ^ (c.take 8).length<=256 ^ 8:=Nat.pow_le_pow_right (by decide) (by rw[List.length_take];omega);exact Nat.lt_of_lt_of_le h1 h2
 exact⟨h8 _ h,h8 _ (h.drop 8),iF _ (h8 _ ((h.drop 8).drop 8)),iF _ (h8 _ (((h.drop 8).drop 8).drop 8))⟩
theorem vT:∀(n:Nat) {b:List Nat},Byt b->∀r∈dM n b,R4.fit r
  | 0,_,_,_,h=>by cases h
  | n+1,b,hb,r,h=>by
    rw[eM]at h;rcases qB.1 h with rfl|h
    · exact aPA hb
    · exact vT n (hb.drop 32) r h
def resR(R:Option Ob):Int×Option Ob:=match R with|none=>(2,none)|some o=>(0,some o)
theorem aDL{l B R:List Nat}{m:Nat}(h65:l.length=m+4)(hm:61<=m)(h5:l.take 5=pV)(hB:B=l.take m)(hR:R=B.drop 37):
    fN l=if aN (l.drop m)≠crc B then((17:Int),(none:Option Ob)) else
      if aN ((R.drop 8).take 8)<aN (((R.drop 8).drop 8).take 8)∨(m-61)%32≠0∨(m-61)/32≠aN ((R.drop 8).take 8)-aN (((R.drop 8).drop 8).take 8) then(15,none) else
        resR (kX (bQ (aN (sub (B.drop 5) 0 8))) (bQ (aN (sub (B.drop 5) 8 8))) (bQ (aN (sub (B.drop 5) 16 8))) (bQ (aN (sub (B.drop 5) 24 8))) (bQ (aN (R.take 8))) (aN (((R.drop 8).drop 8).take 8)) (dM (aN ((R.drop 8).take 8)-aN (((R.drop 8).drop 8).take 8)) (((R.drop 8).drop 8).drop 8))):=by
 have q:∀i,i+8<=m->(B.drop i).take 8=sub l i 8:=fun i hi=>by
   rw[hB];exact aDJ hi
 have c:∀i,i+13<=m->sub (B.drop 5) i 8=sub l (5+i) 8:=fun i hi=>by rw[aOW,hB];exact aDJ (by omega)
 have e0:R.take 8=sub l 37 8:=by rw[hR];exact q 37 (by omega)
 have e1:(R.drop 8).take 8=sub l 45 8:=by rw[hR,List.drop_drop];exact q 45 (by omega)
 have e2:((R.drop 8).drop 8).take 8=sub l 53 8:=by rw[hR,List.drop_drop,List.drop_drop];exact q 53 (by omega)
 have e3:((R.drop 8).drop 8).drop 8=(l.drop 61).take (m-61):=by rw[hR,List.drop_drop,List.drop_drop,List.drop_drop,hB,List.drop_take]
 rw[e0,e1,e2,e3,c 0 (by omega),c 8 (by omega),c 16 (by omega),c 24 (by omega)];unfold fN;rw[qC (by rw[h5,h65];simp;omega),show l.length-4=m by omega,<-hB];by_cases hs:aN (l.drop m)≠crc B
 · rw[qD hs,qD hs]
 {
 rw[qC hs,qC hs];simp only;rw[show l.length-65=m-61 by omega];by_cases hk:aN (sub l 45 8)<aN (sub l 53 8)∨(m-61)%32≠0∨(m-61)/32≠aN (sub l 45 8)-aN (sub l 53 8)
 · rw[qD hk,qD hk]
 {
 rw[qC hk,qC hk,sM _ _ _ (by omega)];unfold resR;rfl}}
theorem aDM{l:List Nat}(h:l.length<65):fN l=(15,none):=by unfold fN;rw[qD (.inl h)]
theorem aDN{l:List Nat}(h:l.take 5≠pV):fN l=(15,none):=by unfold fN;rw[qD (.inr h)]
theorem aHY{m E V D now:Int}{g:Nat}{l:List R4}(h:9223372036854775807<g+l.length∨nL m E V D=false∨E<l.length∨now<0):kX m E V D now g l=none:=by
 unfold kX;rw[qC];rintro⟨h1,h2,h3,h4,h5⟩;rcases h with h|h|h|h
 · omega
 · rw[h]at h2;cases h2
 · omega
 · unfold dL at h5;rw[qD h]at h5;cases h5
end Go.Proofs.YtjdgpcjbgjnahaaGreatDoor
