/- Save and Equal of windows that may be nil: the program's and the document's. -/
import Derived.Test.YtjdgpcjbgjnahaaGreatDoorF18
import Derived.Test.YtjdgpcjbgjnahaaGreatDoorF15
import Derived.Test.YtjdgpcjbgjnahaaGreatDoorF13
import Derived.Test.YtjdgpcjbgjnahaaGreatDoorF1
import Derived.Test.YtjdgpcjbgjnahaaGreatDoorF4
import Derived.Test.YtjdgpcjbgjnahaaGreatDoorF16
import Derived.Lib.SmallJoins
set_option maxRecDepth 10000
set_option maxHeartbeats 1600000
set_option linter.unusedSimpArgs false
set_option linter.unusedVariables false
/- The document's window: what is connected to an id by the edges that expire at a time or later. -/
namespace Go.Proofs.YtjdgpcjbgjnahaaGreatDoor
open Go.RowKit
structure Prt (L:List Lv) (f:Int) (u:Nat) (l:List Nat):Prop where
  lt:l.Pairwise (· < ·)
  me:u∈l
  rl:∀x∈l,Rl L f u x
section
variable {L:List Lv} {f:Int} {u:Nat} {l:List Nat}
end
section
variable {w w' :World} {p:Nat} {o:Ob} {a:Option Addr} {c:Nat}
end
end Go.Proofs.YtjdgpcjbgjnahaaGreatDoor
namespace Go.Proofs.YtjdgpcjbgjnahaaGreatDoor
open Go.RowKit Classical
section
variable {w w' :World} {p:Nat} {o:Ob} {a:Option Addr} {c:Nat}
end
section
variable {W wr w w' :World} {p:Nat} {o:Ob} {ts:List Th}
end
section
variable {L:List Lv} {f:Int} {a b u v:Nat}
end
section
variable {W wr w w' :World} {p:Nat} {o:Ob} {ts:List Th}
end
section
variable {L:List Lv} {x:Nat}
end
section
variable {W wr w w' :World} {p:Nat} {o:Ob} {ts:List Th}
end
end Go.Proofs.YtjdgpcjbgjnahaaGreatDoor
namespace Go.Proofs.YtjdgpcjbgjnahaaGreatDoor
open Go.RowKit
section
variable {W wr w w' :World} {ts:List Th}
theorem aLY(m E V D:Int)(w:World)(hc:eU m E V D=false):
    Calls Tryz.prog 66 #[.agg #[.int .i64 m,.int .i64 E,.int .i64 V,.int .i64 D]] w fun e w' =>e=.returned (.tuple #[.pointer none,.int .i64 2])/\Fr [] w w' :=by
 have hb:=Blk.new w [.int .i64 m,.int .i64 E,.int .i64 V,.int .i64 D] 31;have r0:=hb.cell 0;have r1:=hb.cell 1;have r2:=hb.cell 2;have r3:=hb.cell 3;simp only[zK,zL]at r0 r1 r2 r3;have HR:=qA (aIU m E V D (w.alloc (.cells #[.int .i64 m,.int .i64 E,.int .i64 V,.int .i64 D] 31)));rw[hc]at HR;have HF:=qA ((Fr.refl [] w).alloc (.cells #[.int .i64 m,.int .i64 E,.int .i64 V,.int .i64 D] 31));clear hb hc;go_enter Tryz.func66,Tryz.ntmps66
 go_wp2_with fail
 refine HR.out.mono ?_;rintro _ w2 ⟨rfl,hF2⟩;have HF2:=qA (HF.out.trans' hF2);clear hF2 HF HR r0 r1 r2 r3;go_wp2_with fail
 go_ret2;exact⟨rfl,HF2.out⟩
theorem aYT(h:Wd W wr ts)(m D:Int)(E V:Nat)(hc:eU m E V D=true):
    Calls Tryz.prog 66 #[.agg #[.int .i64 m,.int .i64 E,.int .i64 V,.int .i64 D]] wr fun e w' =>∃q,e=.returned (.tuple #[cE q,.int .i64 0])/\Wd W w' (thF q (Ob.new m E V D 0)::ts):=by
 have hb:=Blk.new wr [.int .i64 m,.int .i64 E,.int .i64 V,.int .i64 D] 31;have r0:=hb.cell 0;have r1:=hb.cell 1;have r2:=hb.cell 2;have r3:=hb.cell 3;simp only[zK,zL]at r0 r1 r2 r3;have HR:=qA (aIU m E V D (wr.alloc (.cells #[.int .i64 m,.int .i64 E,.int .i64 V,.int .i64 D] 31)));rw[hc]at HR;have HF:=qA ((Fr.refl [] wr).alloc (.cells #[.int .i64 m,.int .i64 E,.int .i64 V,.int .i64 D] 31));have HW:=qA h;clear hb hc h;go_enter Tryz.func66,Tryz.ntmps66
 go_wp2_with fail
 refine HR.out.mono ?_;rintro _ w2 ⟨rfl,hF2⟩;have r0:=hF2.cell r0 (by simp);have r1:=hF2.cell r1 (by simp);have r2:=hF2.cell r2 (by simp);have r3:=hF2.cell r3 (by simp);have HN:=qA (show Wd W (w2.alloc (.cells #[.bool true,.int .i64 m,.int .i64 E,.int .i64 V,.int .i64 D,.int .i64 0,.slice none 0 0,.int .u64 0,.int .u64 0] 102)) (thF w2.heap.size (Ob.new m E V D 0)::ts) from by
   have hF:Fr [] w2 (w2.alloc (.cells #[.bool true,.int .i64 m,.int .i64 E,.int .i64 V,.int .i64 D,.int .i64 0,.slice none 0 0,.int .u64 0,.int .u64 0] 102)):=(Fr.refl [] w2).alloc _;refine(HW.out.fr0 (HF.out.trans' hF2)).new (K:=[w2.heap.size]) hF ⟨none,0,?_,⟨rfl,.inl ⟨rfl,rfl⟩⟩,(fun q hq=>by cases hq),rfl⟩ (fun q hq=>Nat.le_of_eq (qH.1 hq).symm);exact Blk.new w2 (rfC (Ob.new m E V D 0) (.slice none 0 0)) 102)
 clear hF2 HF HR HW;go_wp2_with fail
 go_ret2;exact⟨_,rfl,HN.out⟩
end
section
variable {w:World}
theorem wT:Calls Tryz.prog 58 #[.pointer none] w fun e w' =>e=.returned (.bool false)/\w' =w:=by
 go_enter Tryz.func58,Tryz.ntmps58
 go_wp2
 go_ret;exact⟨rfl,rfl⟩
theorem aUW:Calls Tryz.prog 71 #[.pointer none] w fun e w' =>e=.returned (.pointer none)/\w' =w:=by
 have HV:=qA (wT (w:=w));go_enter Tryz.func71,Tryz.ntmps71
 go_wp2_with fail
 refine HV.out.mono ?_;rintro _ w ⟨rfl,rfl⟩;go_wp2
 go_ret;exact⟨rfl,rfl⟩
theorem aUX(t:Int):Calls Tryz.prog 68 #[.pointer none,.int .i64 t] w fun e w' =>e=.returned (.int .i64 1)/\w' =w:=by
 have HV:=qA (wT (w:=w));go_enter Tryz.func68,Tryz.ntmps68
 go_wp2_with fail
 refine HV.out.mono ?_;rintro _ w ⟨rfl,rfl⟩;go_wp2
 go_ret;exact⟨rfl,rfl⟩
theorem aYU(u v:Nat)(wt t:Int):Calls Tryz.prog 70 #[.pointer none,lU u v wt t] w fun e w' =>e=.returned (.int .i64 1)/\Fr [] w w' :=by
 have HV:=qA (wT (w:=w.alloc (.cells #[.int .u64 u,.int .u64 v,.int .i64 wt,.int .i64 t] 72)));have HF:=qA ((Fr.refl [] w).alloc (.cells #[.int .u64 u,.int .u64 v,.int .i64 wt,.int .i64 t] 72));go_enter Tryz.func70,Tryz.ntmps70
 go_wp2_with fail
 refine HV.out.mono ?_;rintro _ w2 ⟨rfl,rfl⟩;go_wp2
 go_ret;exact⟨rfl,HF.out⟩
end
def thN(f:Nat->Ob->Th)(v:Value)(so:Option Ob):Th:=
  ⟨fun w K=>match so with|some o=>∃p,v=cE p/\(f p o).P w K|none=>v=.pointer none/\K=[],
    fun {w K} h=>by
      cases so with
      | none=>rw[h.2];simp
      | some o=>obtain⟨p,_,h⟩:=h;exact(f p o).lt h,
    fun {w w' S K} h hf hs=>by
      cases so with
      | none=>exact h
      | some o=>obtain⟨p,e,h⟩:=h;exact⟨p,e,(f p o).fr h hf hs⟩⟩
def aEX(so:Option Ob)(u v:Nat)(t:Int):Nat:=match so with|some o=>o.addC u v t|none=>1
def aHH(so:Option Ob)(u v:Nat)(wt t:Int):Option Ob:=match so with|some o=>some (o.add u v wt t)|none=>none
def wU(so:Option Ob)(t:Int):Int:=match so with|some o=>cY o.m o.now t|none=>1
def wV(so:Option Ob)(t:Int):Option Ob:=match so with|some o=>some (o.tickS t)|none=>none
def QOk(so:Option Ob):Prop:=∀o,so=some o->o.Ok
section
variable {W wr w w' :World} {f:Nat->Ob->Th} {v:Value} {so:Option Ob} {o:Ob} {ts:List Th} {p:Nat}
theorem Wd.head{t:Th}(h:Wd W wr (t::ts)):∃K,t.P wr K/\∀t' :Th,t'.P wr K->Wd W wr (t' :: ts):=by
 obtain⟨K,h1,hs⟩:=h.open;exact⟨K,h1,fun t' h' =>hs ⟨K,h', Fr.refl _ _,fun q hq=>.inl hq⟩⟩
theorem Wd.isW(h:Wd W wr (thN f v (some o)::ts)):∃p,v=cE p/\Wd W wr (f p o::ts):=by
 obtain⟨K,⟨p,e,h1⟩,hs⟩:=h.head;exact⟨p,e,hs _ h1⟩
theorem Wd.back(h:Wd W wr (f p o::ts)):Wd W wr (thN f (cE p) (some o)::ts):=by
 obtain⟨K,h1,hs⟩:=h.head;exact hs _ ⟨p,rfl,h1⟩
theorem Wd.isN(h:Wd W wr (thN f v none::ts)):v=.pointer none:=by
 obtain⟨K,h1,_⟩:=h.head;exact h1.1
theorem Wd.mkNil(h:Wd W wr ts):Wd W wr (thN f (.pointer none) none::ts):=h.new (K:=[]) (Fr.refl _ _) ⟨rfl,rfl⟩ (by simp)
theorem aYV(h:Wd W wr (thN thO v so::ts))(u x:Nat)(hu:u<18446744073709551616)(hx:x<18446744073709551616)(wt t:Int)(ht1:-9223372036854775808<=t)(ht2:t<=9223372036854775807):Calls Tryz.prog 69 #[v,lU u x wt t] wr fun e w' =>e=.returned (.int .i64 (aEX so u x t:Nat))/\Wd W w' (thN thO v (aHH so u x wt t)::ts):=by
 cases so with
 | none=>{
 obtain rfl:=h.isN;refine(aUS (jM.none wr) u x wt t).mono ?_;rintro _ w' ⟨rfl,hF⟩;exact⟨rfl,h.fr0 hF⟩}
 | some o=>{
 obtain⟨p,rfl,h1⟩:=h.isW;refine(aXU h1 u x hu hx wt t ht1 ht2).mono ?_;rintro _ w' ⟨rfl,hF⟩;exact⟨rfl,hF.back⟩}
theorem aUY(h:Wd W wr (thN thO v so::ts))(t:Int)(ht1:-9223372036854775808<=t)(ht2:t<=9223372036854775807):Calls Tryz.prog 67 #[v,.int .i64 t] wr fun e w' =>e=.returned (.int .i64 (wU so t))/\Wd W w' (thN thO v (wV so t)::ts):=by
 cases so with
 | none=>{
 obtain rfl:=h.isN;refine(aQS (jM.none wr) t).mono ?_;rintro _ w' ⟨rfl,hF⟩;exact⟨rfl,hF▸h⟩}
 | some o=>{
 obtain⟨p,rfl,h1⟩:=h.isW;refine(aTY h1 t ht1 ht2).mono ?_;rintro _ w' ⟨rfl,hF⟩;exact⟨rfl,hF.back⟩}
theorem aYW(h:Wd W wr (thN thF v so::ts))(hok:QOk so)(u x:Nat)(wt t:Int)(ht2:t<=9223372036854775807):Calls Tryz.prog 70 #[v,lU u x wt t] wr fun e w' =>e=.returned (.int .i64 (aEX so u x t:Nat))/\Wd W w' (thN thF v (aHH so u x wt t)::ts):=by
 cases so with
 | none=>{
 obtain rfl:=h.isN;refine(aYU u x wt t).mono ?_;rintro _ w' ⟨rfl,hF⟩;exact⟨rfl,h.fr0 hF⟩}
 | some o=>{
 obtain⟨p,rfl,h1⟩:=h.isW;refine(aYS h1 (hok o rfl) u x wt t ht2).mono ?_;rintro _ w' ⟨rfl,hF⟩;exact⟨rfl,hF.back⟩}
theorem aUZ(h:Wd W wr (thN thF v so::ts))(hok:QOk so)(t:Int)(ht2:t<=9223372036854775807):Calls Tryz.prog 68 #[v,.int .i64 t] wr fun e w' =>e=.returned (.int .i64 (wU so t))/\Wd W w' (thN thF v (wV so t)::ts):=by
 cases so with
 | none=>{
 obtain rfl:=h.isN;refine(aUX t).mono ?_;rintro _ w' ⟨rfl,hF⟩;exact⟨rfl,hF▸h⟩}
 | some o=>{
 obtain⟨p,rfl,h1⟩:=h.isW;refine(aJE h1 (hok o rfl) t ht2).mono ?_;rintro _ w' ⟨rfl,hF⟩;exact⟨rfl,hF.back⟩}
end
theorem aQX:iU Tryz.prog 72 [.i .u64,.i .u64,.i .i64,.i .i64]:=by
 refine iU.struct Tryz.underlying72 (by kernel_rfl) (fun j k hj=>?_);have hu:iU Tryz.prog 36 [.i .u64]:=iU.int Tryz.underlying36 (by kernel_rfl);have hi:iU Tryz.prog 2 [.i .i64]:=iU.int Tryz.underlying2 (by kernel_rfl);match j,hj with
 | 0,hj=>exact⟨0,_,_,rfl,hu,by decide,hj⟩
 | 1,hj=>exact⟨1,_,_,rfl,hu,by decide,hj⟩
 | 2,hj=>exact⟨2,_,_,rfl,hi,by decide,hj⟩
 | 3,hj=>exact⟨3,_,_,rfl,hi,by decide,hj⟩
 | j+4,hj=>simp at hj
theorem rV:iU Tryz.prog 31 [.i .i64,.i .i64,.i .i64,.i .i64]:=by
 refine iU.struct Tryz.underlying31 (by kernel_rfl) (fun j k hj=>?_);have hi:iU Tryz.prog 2 [.i .i64]:=iU.int Tryz.underlying2 (by kernel_rfl);have hn:iU Tryz.prog 3 [.i .i64]:=iU.int Tryz.underlying3 (by kernel_rfl);match j,hj with
 | 0,hj=>exact⟨0,_,_,rfl,hi,by decide,hj⟩
 | 1,hj=>exact⟨1,_,_,rfl,hn,by decide,hj⟩
 | 2,hj=>exact⟨2,_,_,rfl,hn,by decide,hj⟩
 | 3,hj=>exact⟨3,_,_,rfl,hn,by decide,hj⟩
 | j+4,hj=>simp at hj
theorem bAD{H:Type}{enc:TypeId×Value->H}{W:World}{base:Nat}{v:Value}{d:DataW H}{p:List MemPlace}(hok:Value.okWide Tryz.prog W .any base 31 v)
    (h:DataW.Trod enc Tryz.prog W 0 (fun _=>true) true 31 v d p):∃z:Int×Int×Int×Int,v=.agg #[.int .i64 z.1,.int .i64 z.2.1,.int .i64 z.2.2.1,.int .i64 z.2.2.2]/\(-9223372036854775808<=z.1/\z.1<=9223372036854775807):=by
 obtain⟨cs,rfl,hsz⟩:=Go.WideShapes.okWide_struct Tryz.underlying31 hok;have h4:cs.size=4:=hsz.trans (by kernel_rfl);obtain⟨fuel,hf⟩:=h;obtain⟨v0,e0,n0,rfl,k0⟩:=rV.2 hf 0 _ rfl;obtain⟨v1,e1,n1,rfl,_⟩:=rV.2 hf 1 _ rfl;obtain⟨v2,e2,n2,rfl,_⟩:=rV.2 hf 2 _ rfl;obtain⟨v3,e3,n3,rfl,_⟩:=rV.2 hf 3 _ rfl;refine⟨(n0,n1,n2,n3),?_,by
   have k0:(decide ((-9223372036854775808:Int)<=n0)&&decide (n0<=9223372036854775807))=true:=k0;simp only[qY,decide_eq_true_eq]at k0;exact k0⟩
 simp only[Value.cells]at e0 e1 e2 e3;congr 1
 refine Array.ext_getElem? fun i=>?_;match i with
 | 0=>simpa using e0
 | 1=>simpa using e1
 | 2=>simpa using e2
 | 3=>simpa using e3
 | i+4=>rw[Array.getElem?_eq_none (by omega),Array.getElem?_eq_none (by simp)]
end Go.Proofs.YtjdgpcjbgjnahaaGreatDoor
namespace Go.Proofs.YtjdgpcjbgjnahaaGreatDoor
open Go.RowKit Classical
theorem aEY:iU Tryz.prog 109 [.b,.i .u64,.i .u64,.i .i64,.i .i64]:=by
 refine iU.struct Tryz.underlying109 (by kernel_rfl) (fun j k hj=>?_);have hb:iU Tryz.prog 4 [.b]:=iU.bool Tryz.underlying4 (by kernel_rfl);match j,hj with
 | 0,hj=>exact⟨0,_,_,rfl,hb,by decide,hj⟩
 | j+1,hj=>exact⟨1,_,_,rfl,aQX,Nat.le_add_left 1 j,hj⟩
abbrev aHI:=Bool×Nat×Nat×Int×Int
def jV(w:World)(a:Option Addr)(len:Nat)(z:Nat->aHI):Prop:=
  len<=9223372036854775807/\∀i,i<len->∃b off,a=some ⟨b,off,none⟩/\b<w.heap.size/\w.cell? ⟨b,off+i*5,none⟩=some (.bool (z i).1)/\w.cell? ⟨b,off+i*5+1,none⟩=some (.int .u64 (z i).2.1) /\
    w.cell? ⟨b,off+i*5+2,none⟩=some (.int .u64 (z i).2.2.1)/\w.cell? ⟨b,off+i*5+3,none⟩=some (.int .i64 (z i).2.2.2.1)/\w.cell? ⟨b,off+i*5+4,none⟩=some (.int .i64 (z i).2.2.2.2) /\
    (z i).2.1<18446744073709551616/\(z i).2.2.1<18446744073709551616/\inI (z i).2.2.2.1/\inI (z i).2.2.2.2
theorem jV.fr{w w' :World}{a:Option Addr}{len:Nat}{z:Nat->aHI}(h:jV w a len z)(hb:Fr [] w w'):jV w' a len z:=by
 refine⟨h.1,fun i hi=>?_⟩;obtain⟨b,off,rfl,hlt,h0,h1,h2,h3,h4,h5⟩:=h.2 i hi;exact⟨b,off,rfl,Nat.lt_of_lt_of_le hlt hb.size,hb.cell h0 (by simp),hb.cell h1 (by simp),hb.cell h2 (by simp),hb.cell h3 (by simp),hb.cell h4 (by simp),h5⟩
theorem aQY{x:Int}(h:(Lit.int .i64 x).wf=true):inI x:=by
 have h:(decide ((-9223372036854775808:Int)<=x)&&decide (x<=9223372036854775807))=true:=h;simp only[qY,decide_eq_true_eq]at h;exact h
theorem aVA{H:Type}{enc:TypeId×Value->H}{W:World}{a:Option Addr}{len cap:Nat}{d:DataW H}{p:List MemPlace}
    (h:DataW.Trod enc Tryz.prog W 0 (fun _=>true) true 62 (.slice a len cap) d p):∃z,jV W a len z:=by
  obtain⟨z,hz⟩:=aJL Tryz.underlying62 aEY (by decide) h
  have key:∀i,∃u:aHI,i<len->z i 0=.bool u.1/\z i 1=.int .u64 u.2.1/\z i 2=.int .u64 u.2.2.1/\z i 3=.int .i64 u.2.2.2.1/\z i 4=.int .i64 u.2.2.2.2 /\
      u.2.1<18446744073709551616/\u.2.2.1<18446744073709551616/\inI u.2.2.2.1/\inI u.2.2.2.2:=by
    intro i;by_cases hi:i<len
    · obtain ⟨b, off, rfl, _, h1⟩ := hz.2 i hi
      obtain⟨n0,e0⟩:=(h1 0 _ rfl).2;obtain⟨n1,e1,w1⟩:=(h1 1 _ rfl).2;obtain⟨n2,e2,w2⟩:=(h1 2 _ rfl).2;obtain⟨n3,e3,w3⟩:=(h1 3 _ rfl).2;obtain⟨n4,e4,w4⟩:=(h1 4 _ rfl).2;obtain⟨u,rfl,hu⟩:=sH w1;obtain⟨v,rfl,hv⟩:=sH w2;exact⟨(n0,u,v,n3,n4),fun _=>⟨e0,e1,e2,e3,e4,hu,hv,aQY w3,aQY w4⟩⟩
    · exact⟨(false,0,0,0,0),fun h=>absurd h hi⟩
  obtain⟨F,hF⟩:=Classical.axiomOfChoice key;refine⟨F,hz.1,fun i hi=>?_⟩;obtain⟨b,off,rfl,hb,h1⟩:=hz.2 i hi;obtain⟨e0,e1,e2,e3,e4,e5⟩:=hF i hi;refine⟨b,off,rfl,hb,?_,?_,?_,?_,?_,e5⟩
  · rw[<-e0];exact(h1 0 _ rfl).1
  · rw[<-e1];exact(h1 1 _ rfl).1
  · rw[<-e2];exact(h1 2 _ rfl).1
  · rw[<-e3];exact(h1 3 _ rfl).1
  · rw[<-e4];exact(h1 4 _ rfl).1
def QPc(so:Option Ob):Prop:=∀o,so=some o->o.Pc
def rW(m E V D:Int):Option Ob:=if eU m E V D=true then some (Ob.new m E.toNat V.toNat D 0) else none
def wW(m E V D:Int):Int:=if eU m E V D=true then 0 else 2
theorem QPc.new(m E V D:Int):QPc (rW m E V D):=fun o e=>by
 unfold rW at e;split at e
 {
 next hc=>
 obtain rfl:=Option.some.inj e;obtain⟨k1,k2,k3,k4,k5,k6,k7⟩:=cJ.1 hc;refine aPN (cJ.2 ?_);omega}
 · cases e
theorem QPc.tick{so:Option Ob}(h:QPc so)(t:Int):QPc (wV so t):=fun o e=>by
 cases so with
 | none=>cases e
 | some p=>{
 obtain rfl:=Option.some.inj (show some (p.tickS t)=some o from e);exact(h p rfl).tickS t}
theorem QPc.add{so:Option Ob}(h:QPc so)(u v:Nat){wt:Int}(hw:inI wt)(t:Int):QPc (aHH so u v wt t):=fun o e=>by
 cases so with
 | none=>cases e
 | some p=>{
 obtain rfl:=Option.some.inj (show some (p.add u v wt t)=some o from e);exact(h p rfl).add u v hw t}
section
variable {W wr:World} {ts:List Th} {v:Value} {so:Option Ob}
theorem Wd.qok43(h:Wd W wr (thN thO v so::ts)):QOk so:=by
 intro o e;subst e;obtain⟨p,_,h1⟩:=h.isW;exact h1.ob
theorem Wd.cfg43{b:Nat}{t:TypeId}{v0 v1 v2 v3:Value}(h:Wd W wr (thB b t [v0,v1,v2,v3]::ts)):wr.cell? ⟨b,0,none⟩=some v0/\wr.cell? ⟨b,1,none⟩=some v1/\wr.cell? ⟨b,2,none⟩=some v2/\wr.cell? ⟨b,3,none⟩=some v3:=by
 have hb:=h.blk;exact⟨hb.cell 0,hb.cell 1,hb.cell 2,hb.cell 3⟩
theorem aYX(h:Wd W wr ts)(m E V D:Int)(hm:m<=9223372036854775807):
    Calls Tryz.prog 18 #[.agg #[.int .i64 m,.int .i64 E,.int .i64 V,.int .i64 D]] wr fun e w' =>∃pv,e=.returned (.tuple #[.pointer pv,.int .i64 (wW m E V D)])/\pv.isNone=(rW m E V D).isNone/\Wd W w' (thN thO (.pointer pv) (rW m E V D)::ts):=by
 unfold wW rW;cases hc:eU m E V D with
 | false=>{
 refine(aLI h m D E V hc).mono ?_;rintro _ w' ⟨rfl,hW⟩;exact⟨none,rfl,rfl,hW.mkNil⟩}
 | true=>{
 obtain⟨k1,k2,k3,k4,k5,k6,k7⟩:=cJ.1 hc;obtain⟨E,rfl⟩:=Int.eq_ofNat_of_zero_le (show 0<=E by omega);obtain⟨V,rfl⟩:=Int.eq_ofNat_of_zero_le (show 0<=V by omega);refine(aPG h m D E V k1 hm (by omega) (by omega) (by omega) (by omega) k6 k7).mono ?_;rintro _ w' ⟨p,rfl,hW⟩;exact⟨_,rfl,rfl,hW.back⟩}
theorem aYY(h:Wd W wr ts)(m E V D:Int):
    Calls Tryz.prog 66 #[.agg #[.int .i64 m,.int .i64 E,.int .i64 V,.int .i64 D]] wr fun e w' =>∃pv,e=.returned (.tuple #[.pointer pv,.int .i64 (wW m E V D)])/\pv.isNone=(rW m E V D).isNone/\Wd W w' (thN thF (.pointer pv) (rW m E V D)::ts):=by
 unfold wW rW;cases hc:eU m E V D with
 | false=>{
 refine(aLY m E V D wr hc).mono ?_;rintro _ w' ⟨rfl,hF⟩;exact⟨none,rfl,rfl,(h.fr0 hF).mkNil⟩}
 | true=>{
 obtain⟨k1,k2,k3,k4,k5,k6,k7⟩:=cJ.1 hc;obtain⟨E,rfl⟩:=Int.eq_ofNat_of_zero_le (show 0<=E by omega);obtain⟨V,rfl⟩:=Int.eq_ofNat_of_zero_le (show 0<=V by omega);refine(aYT h m D E V hc).mono ?_;rintro _ w' ⟨p,rfl,hW⟩;exact⟨_,rfl,rfl,hW.back⟩}
theorem wX(h:Wd W wr ts)(m E V D:Int)(hm:m<=9223372036854775807){a:Option Addr}{len cap:Nat}{z:Nat->aHI}(hz:jV W a len z)(hl:len<=60):
    Calls Tryz.prog 36 #[.agg #[.int .i64 m,.int .i64 E,.int .i64 V,.int .i64 D],.slice a len cap] wr fun e w' =>∃pv pd so,e=.returned (.tuple #[.pointer pv,.pointer pd,.bool true])/\pv.isNone=so.isNone/\QOk so/\QPc so/\Wd W w' (thN thO (.pointer pv) so::thN thF (.pointer pd) so::ts):=by
 have hb:=Blk.new wr [.int .i64 m,.int .i64 E,.int .i64 V,.int .i64 D] 31;have r0:=hb.cell 0;have r1:=hb.cell 1;have r2:=hb.cell 2;have r3:=hb.cell 3;simp only[zK,zL]at r0 r1 r2 r3;have hW0:Wd W (wr.alloc (.cells #[.int .i64 m,.int .i64 E,.int .i64 V,.int .i64 D] 31)) (thB wr.heap.size 31 [.int .i64 m,.int .i64 E,.int .i64 V,.int .i64 D]::ts):=
   h.new (K:=[wr.heap.size]) ((Fr.refl [] wr).alloc _) ⟨hb,rfl⟩ (fun q hq=>Nat.le_of_eq (qH.1 hq).symm)
 have HN:=qA (aYX hW0 m E V D hm);have HZ:=qA hz;have HLen:=qA hl;clear h hb hW0 hz hl;go_enter Tryz.func36,Tryz.ntmps36
 go_wp2_with fail
 refine HN.out.mono ?_;rintro _ w1 ⟨pv,rfl,hpv,hW⟩;clear r0 r1 r2 r3;obtain⟨r0,r1,r2,r3⟩:=hW.swap.cfg43;have HD:=qA (aYY hW m E V D);clear hW HN;go_wp2_with fail
 refine HD.out.mono ?_;rintro _ w2 ⟨pd,rfl,hpd,hW⟩;have hW:=hW.swap;have H2:=qA (show(pv.isNone=(rW m E V D).isNone)/\QOk (rW m E V D)/\QPc (rW m E V D)/\Wd W w2 (thN thO (.pointer pv) (rW m E V D)::thN thF (.pointer pd) (rW m E V D)::thB wr.heap.size 31 [.int .i64 m,.int .i64 E,.int .i64 V,.int .i64 D]::ts) from⟨hpv,hW.qok43,QPc.new m E V D,hW⟩);have hpp:(pv.isNone == pd.isNone)=true:=by rw[hpv,hpd];simp
 have hcc:(wW m E V D != wW m E V D)=false:=by simp
 generalize rW m E V D=so0 at *;generalize wW m E V D=c at *;clear hW HD hpv hpd r0 r1 r2 r3;go_wp2_with fail
 go_loopw [8,10,11] (fun _ _ i wx=>∃(k:Nat) (so:Option Ob),k<=len/\i=.int .i64 k/\Hid ((pv.isNone=so.isNone)/\QOk so/\QPc so/\Wd W wx (thN thO (.pointer pv) so::thN thF (.pointer pd) so::thB wr.heap.size 31 [.int .i64 m,.int .i64 E,.int .i64 V,.int .i64 D]::ts))) (fun _ _ i _=>len-(intOf i).toNat)
 case atStart=>exact⟨0,so0,qT _,rfl,H2⟩
 case round=>
  clear H2 hpp hcc;obtain⟨k,so,hk,rfl,HP⟩:=hrel;rename World=>wx
  by_cases hlt:k<len
  {
  have hlt' :(k:Int)<len:=by omega
  have hk0:(0:Int)<=k:=by omega
  have hw1:IntKind.i64.wrap ((k:Int)+1)=((k+1:Nat):Int):=by rw[show(k:Int)+1=((k+1:Nat):Int) by omega];exact zH _ (by have:=HLen.out;omega)
  obtain⟨b,off,ea,_,q0,q1,q2,q3,q4,x1,x2,x3,x4⟩:=(HZ.out.fr HP.out.2.2.2.frm).2 k hlt;have HQ:=qA (show ∀w', Fr [] W w' -> w'.cell? ⟨b,off+k*5+1,none⟩=some (.int .u64 (z k).2.1)/\w'.cell? ⟨b,off+k*5+2,none⟩=some (.int .u64 (z k).2.2.1)/\w'.cell? ⟨b,off+k*5+3,none⟩=some (.int .i64 (z k).2.2.2.1)/\w'.cell? ⟨b,off+k*5+4,none⟩=some (.int .i64 (z k).2.2.2.2) from fun w' hF=>by
    obtain⟨b', off', e,_,_,y1,y2,y3,y4,_⟩:=(HZ.out.fr hF).2 k hlt;rw[ea]at e;cases e;exact⟨y1,y2,y3,y4⟩)
  subst ea;generalize z k=zk at *;obtain⟨tk,eu,ev,wt,t⟩:=zk;simp only at q0 q1 q2 q3 q4 x1 x2 x3 x4 HQ;have HO:=qA (zJ HP.out.1 (zJ HP.out.2.1 (zJ HP.out.2.2.1 (zJ x3 x4))));have hWd:=HP.out.2.2.2.fr0 ((Fr.refl [] wx).drew);cases tk with
  | true=>{
  have HA:=qA (aUY hWd t x4.1 x4.2);clear HP x1 x2 x3 x4 hWd;go_wp2_with fail
  go_region_held3 (fun w' => w'.cell? ⟨b, off + k * 5 + 4, none⟩ = some (.int .i64 t))
    (first
      | with_reducible exact(HQ.out _ hW4.out.frm).2.2.2
      | with_reducible exact(HQ.out _ hW3.out.frm).2.2.2
      | go_keep)
    (first
      | (go_at_call 67;refine HA.out.mono ?_;rintro _ w3 ⟨rfl,hV3⟩;have hW3:=qA hV3;clear hV3)
      | (go_at_call 68;refine(aUZ hW3.out.swap HO.out.2.1 t HO.out.2.2.2.2.2).mono ?_;rintro _ w4 ⟨rfl,hV4⟩;have hW4:=qA hV4.swap;clear hV4))
  have hcc:(wU so t != wU so t)=false:=by simp
  have HNx:=qA (show(pv.isNone=(wV so t).isNone)/\QOk (wV so t)/\QPc (wV so t)/\_ from⟨by rw[HO.out.1];cases so<;>rfl,hW4.out.qok43,HO.out.2.2.1.tick t,hW4.out⟩);clear HA HO HQ q0 q1 q2 q3 q4 hW3 hW4;generalize wV so t=so' at *;generalize wU so t=c' at *;go_wp2_with fail
  go_roundw
  case rel=>exact⟨k+1,so', by omega,by go_num,HNx⟩
  case measure=>simp[intOf];omega}
  | false=>{
  have HA:=qA (aYV hWd eu ev x1 x2 wt t x4.1 x4.2);clear HP x1 x2 x3 x4 hWd;go_wp2_with fail
  go_region_held3 (fun w' => w'.cell? ⟨b, off + k * 5 + 1, none⟩ = some (.int .u64 eu) /\ w'.cell? ⟨b, off + k * 5 + 2, none⟩ = some (.int .u64 ev) /\ w'.cell? ⟨b, off + k * 5 + 3, none⟩ = some (.int .i64 wt) /\ w'.cell? ⟨b, off + k * 5 + 4, none⟩ = some (.int .i64 t))
    (first
      | with_reducible exact(HQ.out _ hW4.out.frm)
      | with_reducible exact(HQ.out _ hW3.out.frm)
      | go_keep)
    (first
      | (go_at_call 69;refine HA.out.mono ?_;rintro _ w3 ⟨rfl,hV3⟩;have hW3:=qA hV3;clear hV3)
      | (go_at_call 70;refine(aYW hW3.out.swap HO.out.2.1 eu ev wt t HO.out.2.2.2.2.2).mono ?_;rintro _ w4 ⟨rfl,hV4⟩;have hW4:=qA hV4.swap;clear hV4))
  have hcc:((aEX so eu ev t:Int) != (aEX so eu ev t:Int))=false:=by simp
  have HNx:=qA (show(pv.isNone=(aHH so eu ev wt t).isNone)/\QOk (aHH so eu ev wt t)/\QPc (aHH so eu ev wt t)/\_ from⟨by rw[HO.out.1];cases so<;>rfl,hW4.out.qok43,HO.out.2.2.1.add eu ev HO.out.2.2.2.1 t,hW4.out⟩);clear HA HO HQ q0 q1 q2 q3 q4 hW3 hW4;generalize aHH so eu ev wt t=so' at *;generalize aEX so eu ev t=c' at *;go_wp2_with fail
  go_roundw
  case rel=>exact⟨k+1,so', by omega,by go_num,HNx⟩
  case measure=>simp[intOf];omega}}
  {
  obtain rfl:k=len:=by omega
  go_wp2_with fail
  go_ret3;obtain⟨h1,h2,h3,h4⟩:=HP.out;exact⟨_,_,so,rfl,h1,h2,h3,h4.drop3⟩}
end
end Go.Proofs.YtjdgpcjbgjnahaaGreatDoor
namespace Go.Proofs.YtjdgpcjbgjnahaaGreatDoor
open Go.RowKit
def pR:List Value:=[.string { data:=#[119,105,110,100,111,119] },.int .i64 1,.int .i64 9223372036854775807,.string { data:=#[101,100,103,101,115] },.int .i64 1,.int .i64 16384,.string { data:=#[118,101,114,116,115] },.int .i64 2,.int .i64 4096,.string { data:=#[100,114,97,119,115] },.int .i64 0,.int .i64 16384]
section
variable {w:World} {m E V D:Int}
theorem zW(w:World)(m E V D:Int):Calls Tryz.prog 157 #[.agg #[.int .i64 m,.int .i64 E,.int .i64 V,.int .i64 D]] w fun e w' =>∃g,e=.returned (.slice (some ⟨g,0,none⟩) 4 4)/\w.heap.size<=g/\Blk w' g 2 [.int .i64 m,.int .i64 E,.int .i64 V,.int .i64 D]/\Fr [] w w' :=by
 have hb:=Blk.new w [.int .i64 m,.int .i64 E,.int .i64 V,.int .i64 D] 31;have r0:=hb.cell 0;have r1:=hb.cell 1;have r2:=hb.cell 2;have r3:=hb.cell 3;simp only[zK,zL]at r0 r1 r2 r3;clear hb;go_enter Tryz.func157,Tryz.ntmps157
 go_wp2_with fail
 go_ret;have hn:=Blk.new (w.alloc (.cells #[.int .i64 m,.int .i64 E,.int .i64 V,.int .i64 D] 31)) [.int .i64 m,.int .i64 E,.int .i64 V,.int .i64 D] 2;rw[World.size_alloc]at hn;exact⟨_,rfl,by simp,hn,((Fr.refl [] w).alloc _).alloc _⟩
theorem aVB(w:World):Calls Tryz.prog 179 #[] w fun e w' =>∃g,e=.returned (.slice (some ⟨g,0,none⟩) 4 4)/\w.heap.size<=g/\Blk w' g 267 pR/\Fr [] w w' :=by
 go_enter Tryz.func179,Tryz.ntmps179
 go_wp2_with fail
 go_ret;exact⟨_,rfl,qK _,Blk.new _ pR _,(Fr.refl [] w).alloc _⟩
def wY(m E V D:Int)(i:Nat):Prop:=(0<i->1<=m)/\(1<i->1<=E/\E<=16384)/\(2<i->2<=V/\V<=4096)/\(3<i->0<=D/\D<=16384)
theorem wY.all(h:wY m E V D 4):eU m E V D=true:=by
 obtain⟨h1,h2,h3,h4⟩:=h;have:=h1 (by decide);have:=h2 (by decide);have:=h3 (by decide);have:=h4 (by decide);refine cJ.2 ?_;omega
def Fd39(m E V D:Int)(v:Value):Prop:=(eU m E V D=true/\v=.string { data:=#[] })∨(eU m E V D=false/\(v=.string { data:=#[119,105,110,100,111,119] }∨v=.string { data:=#[101,100,103,101,115] }∨v=.string { data:=#[118,101,114,116,115] }∨v=.string { data:=#[100,114,97,119,115] }))
theorem aQZ(w:World)(m E V D:Int)(hm:m<=9223372036854775807):Calls Tryz.prog 139 #[.agg #[.int .i64 m,.int .i64 E,.int .i64 V,.int .i64 D]] w fun e w' =>∃v,e=.returned v/\Fd39 m E V D v/\Fr [] w w' :=by
 have hb:=Blk.new w [.int .i64 m,.int .i64 E,.int .i64 V,.int .i64 D] 31;have r0:=hb.cell 0;have r1:=hb.cell 1;have r2:=hb.cell 2;have r3:=hb.cell 3;simp only[zK,zL]at r0 r1 r2 r3;have HFA:=qA (show Fr [] w (w.alloc (.cells #[.int .i64 m,.int .i64 E,.int .i64 V,.int .i64 D] 31)) from(Fr.refl [] w).alloc _);have HM:=qA hm;clear hb hm;go_enter Tryz.func139,Tryz.ntmps139
 go_wp2_with fail
 refine(zW _ m E V D).mono ?_;rintro _ w1 ⟨g,rfl,_,hg,hF⟩;have HF1:=qA (HFA.out.trans' hF);have HG:=qA hg;clear hF hg HFA r0 r1 r2 r3;go_wp2_with fail
 refine(aVB _).mono ?_;rintro _ w2 ⟨q,rfl,_,hq,hF⟩;have HF2:=qA (HF1.out.trans' hF);have HB:=qA (show Blk w2 g 2 [.int .i64 m,.int .i64 E,.int .i64 V,.int .i64 D]/\Blk w2 q 267 pR from⟨hF.blk HG.out (by simp),hq⟩);clear hF hq HG HF1;go_wp2_with fail
 go_loopw [5] (fun c wr=>∃i:Nat,i<=4/\c=.int .i64 i/\(∃k,wr=w2.drewN k)/\Hid (wY m E V D i)) (fun c _=>4-(intOf c).toNat)
 case atStart=>exact⟨0,by omega,rfl,⟨0,rfl⟩,qA ⟨fun h=>absurd h (by omega),fun h=>absurd h (by omega),fun h=>absurd h (by omega),fun h=>absurd h (by omega)⟩⟩
 case round=>
  obtain⟨i,hi,rfl,⟨k,rfl⟩,HO⟩:=hrel;have hw1:IntKind.i64.wrap ((i:Int)+1)=((i+1:Nat):Int):=by rw[show(i:Int)+1=((i+1:Nat):Int) by omega];exact zH _ (by omega)
  have hcs:i=0∨i=1∨i=2∨i=3∨i=4:=by omega
  rcases hcs with rfl|rfl|rfl|rfl|rfl
  {
  have x0:=HB.out.1.cell 0;have y0:=HB.out.2.cell 0;have y1:=HB.out.2.cell 1;have y2:=HB.out.2.cell 2;simp only[pR,zK,zL]at x0 y0 y1 y2;by_cases h1:m<1
  {
  have d1:decide (m<1)=true:=qG h1;have HN:=qA h1;clear h1 hi;go_wp2_with fail
  go_quiet (fail)
  go_wp2_with fail
  go_ret;exact⟨_,rfl,.inr ⟨Bool.eq_false_iff.2 fun h=>(by have:=cJ.1 h;have:=HN.out;omega),.inl rfl⟩,HF2.out.drewN _⟩}
  {
  have d1:decide (m<1)=false:=qF h1;have h2:¬m>9223372036854775807:=by have:=HM.out;omega
  have d2:decide (m>9223372036854775807)=false:=qF h2;have HN:=qA (show wY m E V D 1 from by
    have k:=HO.out;unfold wY at k ⊢;omega)
  clear h1 h2 hi;go_wp2_with fail
  go_quiet (fail)
  go_wp2_with fail
  go_roundw
  case rel=>exact⟨1,by omega,by go_num,⟨_,rfl⟩,HN⟩
  case measure=>simp[intOf]}}
  {
  have x0:=HB.out.1.cell 1;have y0:=HB.out.2.cell 3;have y1:=HB.out.2.cell 4;have y2:=HB.out.2.cell 5;simp only[pR,zK,zL]at x0 y0 y1 y2;by_cases h1:E<1
  {
  have d1:decide (E<1)=true:=qG h1;have HN:=qA h1;clear h1 hi;go_wp2_with fail
  go_quiet (fail)
  go_wp2_with fail
  go_ret;exact⟨_,rfl,.inr ⟨Bool.eq_false_iff.2 fun h=>(by have:=cJ.1 h;have:=HN.out;omega),.inr (.inl rfl)⟩,HF2.out.drewN _⟩}
  {
  have d1:decide (E<1)=false:=qF h1;by_cases h2:E>16384
  {
  have d2:decide (E>16384)=true:=qG h2;have HN:=qA h2;clear h1 h2 hi;go_wp2_with fail
  go_quiet (fail)
  go_wp2_with fail
  go_ret;exact⟨_,rfl,.inr ⟨Bool.eq_false_iff.2 fun h=>(by have:=cJ.1 h;have:=HN.out;omega),.inr (.inl rfl)⟩,HF2.out.drewN _⟩}
  {
  have d2:decide (E>16384)=false:=qF h2;have HN:=qA (show wY m E V D 2 from by
    have k:=HO.out;unfold wY at k ⊢;omega)
  clear h1 h2 hi;go_wp2_with fail
  go_quiet (fail)
  go_wp2_with fail
  go_roundw
  case rel=>exact⟨2,by omega,by go_num,⟨_,rfl⟩,HN⟩
  case measure=>simp[intOf]}}}
  {
  have x0:=HB.out.1.cell 2;have y0:=HB.out.2.cell 6;have y1:=HB.out.2.cell 7;have y2:=HB.out.2.cell 8;simp only[pR,zK,zL]at x0 y0 y1 y2;by_cases h1:V<2
  {
  have d1:decide (V<2)=true:=qG h1;have HN:=qA h1;clear h1 hi;go_wp2_with fail
  go_quiet (fail)
  go_wp2_with fail
  go_ret;exact⟨_,rfl,.inr ⟨Bool.eq_false_iff.2 fun h=>(by have:=cJ.1 h;have:=HN.out;omega),.inr (.inr (.inl rfl))⟩,HF2.out.drewN _⟩}
  {
  have d1:decide (V<2)=false:=qF h1;by_cases h2:V>4096
  {
  have d2:decide (V>4096)=true:=qG h2;have HN:=qA h2;clear h1 h2 hi;go_wp2_with fail
  go_quiet (fail)
  go_wp2_with fail
  go_ret;exact⟨_,rfl,.inr ⟨Bool.eq_false_iff.2 fun h=>(by have:=cJ.1 h;have:=HN.out;omega),.inr (.inr (.inl rfl))⟩,HF2.out.drewN _⟩}
  {
  have d2:decide (V>4096)=false:=qF h2;have HN:=qA (show wY m E V D 3 from by
    have k:=HO.out;unfold wY at k ⊢;omega)
  clear h1 h2 hi;go_wp2_with fail
  go_quiet (fail)
  go_wp2_with fail
  go_roundw
  case rel=>exact⟨3,by omega,by go_num,⟨_,rfl⟩,HN⟩
  case measure=>simp[intOf]}}}
  {
  have x0:=HB.out.1.cell 3;have y0:=HB.out.2.cell 9;have y1:=HB.out.2.cell 10;have y2:=HB.out.2.cell 11;simp only[pR,zK,zL]at x0 y0 y1 y2;by_cases h1:D<0
  {
  have d1:decide (D<0)=true:=qG h1;have HN:=qA h1;clear h1 hi;go_wp2_with fail
  go_quiet (fail)
  go_wp2_with fail
  go_ret;exact⟨_,rfl,.inr ⟨Bool.eq_false_iff.2 fun h=>(by have:=cJ.1 h;have:=HN.out;omega),.inr (.inr (.inr rfl))⟩,HF2.out.drewN _⟩}
  {
  have d1:decide (D<0)=false:=qF h1;by_cases h2:D>16384
  {
  have d2:decide (D>16384)=true:=qG h2;have HN:=qA h2;clear h1 h2 hi;go_wp2_with fail
  go_quiet (fail)
  go_wp2_with fail
  go_ret;exact⟨_,rfl,.inr ⟨Bool.eq_false_iff.2 fun h=>(by have:=cJ.1 h;have:=HN.out;omega),.inr (.inr (.inr rfl))⟩,HF2.out.drewN _⟩}
  {
  have d2:decide (D>16384)=false:=qF h2;have HN:=qA (show wY m E V D 4 from by
    have k:=HO.out;unfold wY at k ⊢;omega)
  clear h1 h2 hi;go_wp2_with fail
  go_quiet (fail)
  go_wp2_with fail
  go_roundw
  case rel=>exact⟨4,by omega,by go_num,⟨_,rfl⟩,HN⟩
  case measure=>simp[intOf]}}}
  {
  go_wp2_with fail
  go_ret;exact⟨_,rfl,.inl ⟨HO.out.all,rfl⟩,HF2.out.drewN _⟩}
def aJG(m E V D:Int):Int:=if eU m E V D=true then 0 else 2
theorem aEZ(h:eU m E V D=true):aJG m E V D=0:=qD h
theorem aRA(h:eU m E V D=false):aJG m E V D=2:=by unfold aJG;rw[h];rfl
theorem aHJ(w:World)(m E V D:Int)(hm:m<=9223372036854775807):Calls Tryz.prog 93 #[.agg #[.int .i64 m,.int .i64 E,.int .i64 V,.int .i64 D]] w fun e w' =>e=.returned (.int .i64 (aJG m E V D))/\Fr [] w w' :=by
 have hb:=Blk.new w [.int .i64 m,.int .i64 E,.int .i64 V,.int .i64 D] 31;have r0:=hb.cell 0;have r1:=hb.cell 1;have r2:=hb.cell 2;have r3:=hb.cell 3;simp only[zK,zL]at r0 r1 r2 r3;have HFA:=qA (show Fr [] w (w.alloc (.cells #[.int .i64 m,.int .i64 E,.int .i64 V,.int .i64 D] 31)) from(Fr.refl [] w).alloc _);have HF:=qA (aQZ (w.alloc (.cells #[.int .i64 m,.int .i64 E,.int .i64 V,.int .i64 D] 31)) m E V D hm);clear hb hm;go_enter Tryz.func93,Tryz.ntmps93
 go_wp2_with fail
 refine HF.out.mono ?_;rintro _ w1 ⟨v,rfl,hv,hF⟩;have HF2:=qA (HFA.out.trans' hF);clear HF hF HFA r0 r1 r2 r3;rcases hv with⟨hc,rfl⟩|⟨hc,rfl|rfl|rfl|rfl⟩
 all_goals
  have HC:=qA hc;clear hc;go_wp2_with fail
  go_ret;exact⟨by first|rw[aEZ HC.out];rfl|rw[aRA HC.out];rfl,HF2.out⟩
end
theorem PA.nil(w:World):PA w (.slice none 0 0) w (.slice none 0 0) []:=⟨dF.nil w,fun _ h=>(by cases h),Fr.refl _ _⟩
theorem aYZ(w:World)(x sz:Nat)(hx:x<18446744073709551616)(hsz:sz<=8):Calls Tryz.prog 114 #[.int .u64 x,.int .i64 sz] w fun e w' =>∃v', e=.returned v' /\ PA w (.slice none 0 0) w' v' (beN sz x):=by
 have HS:=qA hsz;have HP1:Hid (PA w (.slice none 0 0) w (.slice none (sz-sz) 0) ((beN sz x).take (sz-sz))):=qA (by rw[Nat.sub_self];exact PA.nil w);have hws:IntKind.i64.wrap ((sz:Int)-1)=(sz:Int)-1:=by simp[IntKind.wrap,IntKind.bits,IntKind.signed];omega
 clear hsz hx;go_enter Tryz.func114,Tryz.ntmps114
 go_wp2_with fail
 go_loopw [5,6] (fun c1 c2 wr=>∃i:Nat,i<=sz/\(∃sa sc,c1=.slice sa (sz-i) sc/\Hid (PA w (.slice none 0 0) wr (.slice sa (sz-i) sc) ((beN sz x).take (sz-i))))/\c2=.int .i64 ((i:Int)-1)) (fun _ c _=>((intOf c)+1).toNat)
 case atStart=>exact⟨sz,qK _,⟨none,0,by rw[Nat.sub_self],HP1⟩,rfl⟩
 case round=>
  clear HP1 hws;obtain⟨i,hi,⟨sa,sc,rfl,HP⟩,rfl⟩:=hrel;rename World=>wr
  by_cases hi0:0<i
  {
  have hi8:i=1∨i=2∨i=3∨i=4∨i=5∨i=6∨i=7∨i=8:=by have:=HS.out;omega
  rcases hi8 with rfl|rfl|rfl|rfl|rfl|rfl|rfl|rfl
  {
  have HQ:=qA (PA.own (n:=sz-1) HP.out (by rw[List.length_take,aC];omega));go_wp2_with (first|(at_builtin;refine aA rfl (.tmp 13) (.tmp 19) 22 rfl 5 (.int .u8 0) 1 Tryz.underlying22 Tryz.info5 rfl (.slice sa (sz-1) sc) (sz-1) (aS ((beN sz x).take (sz-1))) rfl (HQ.out _) wr.heap.size (.int .u8 ((x:Int)%256)) rfl (aD _ _ _ _ rfl) rfl (by have:=HS.out;omega) (by decide) ?_;intro g' cap' w4 hown4 hgrow4 hg4)|fail)
  have HN4:Hid (PA w (.slice none 0 0) w4 (.slice (some ⟨g', 0,none⟩) (sz-0) cap') ((beN sz x).take (sz-0))):=qA (by
    rw[show(x:Int)%256=((x/1%256:Nat):Int) by omega]at hown4;have h1:=PA.push HP.out (by rw[List.length_take,aC];omega) hown4 hgrow4 hg4;have hlt:sz-1<(beN sz x).length:=by rw[aC];omega
    have hat:=cW sz x hlt;rw[show sz-1-(sz-1)=0 by omega]at hat;have h2:(beN sz x).take (sz-0)=(beN sz x).take (sz-1)++[x/1%256]:=by
      rw[show sz-0=sz-1+1 by omega,List.take_add_one,qL hlt,hat];rfl
    rw[h2,show sz-0=sz-1+1 by omega];exact h1)
  (try rw[show sz-1+1=sz-0 by omega])
  clear HQ hown4 hgrow4 hg4 HP;go_roundw
  case rel=>exact⟨0,by omega,⟨_,_,rfl,HN4⟩,by go_num⟩
  case measure=>simp[intOf]}
  {
  have HQ:=qA (PA.own (n:=sz-2) HP.out (by rw[List.length_take,aC];omega));go_wp2_with (first|(at_builtin;refine aA rfl (.tmp 13) (.tmp 19) 22 rfl 5 (.int .u8 0) 1 Tryz.underlying22 Tryz.info5 rfl (.slice sa (sz-2) sc) (sz-2) (aS ((beN sz x).take (sz-2))) rfl (HQ.out _) wr.heap.size (.int .u8 ((x:Int)/256%256)) rfl (aD _ _ _ _ rfl) rfl (by have:=HS.out;omega) (by decide) ?_;intro g' cap' w4 hown4 hgrow4 hg4)|fail)
  have HN4:Hid (PA w (.slice none 0 0) w4 (.slice (some ⟨g', 0,none⟩) (sz-1) cap') ((beN sz x).take (sz-1))):=qA (by
    rw[show(x:Int)/256%256=((x/256%256:Nat):Int) by omega]at hown4;have h1:=PA.push HP.out (by rw[List.length_take,aC];omega) hown4 hgrow4 hg4;have hlt:sz-2<(beN sz x).length:=by rw[aC];omega
    have hat:=cW sz x hlt;rw[show sz-1-(sz-2)=1 by omega]at hat;have h2:(beN sz x).take (sz-1)=(beN sz x).take (sz-2)++[x/256%256]:=by
      rw[show sz-1=sz-2+1 by omega,List.take_add_one,qL hlt,hat];rfl
    rw[h2,show sz-1=sz-2+1 by omega];exact h1)
  (try rw[show sz-2+1=sz-1 by omega])
  clear HQ hown4 hgrow4 hg4 HP;go_roundw
  case rel=>exact⟨1,by omega,⟨_,_,rfl,HN4⟩,by go_num⟩
  case measure=>simp[intOf]}
  {
  have HQ:=qA (PA.own (n:=sz-3) HP.out (by rw[List.length_take,aC];omega));go_wp2_with (first|(at_builtin;refine aA rfl (.tmp 13) (.tmp 19) 22 rfl 5 (.int .u8 0) 1 Tryz.underlying22 Tryz.info5 rfl (.slice sa (sz-3) sc) (sz-3) (aS ((beN sz x).take (sz-3))) rfl (HQ.out _) wr.heap.size (.int .u8 ((x:Int)/65536%256)) rfl (aD _ _ _ _ rfl) rfl (by have:=HS.out;omega) (by decide) ?_;intro g' cap' w4 hown4 hgrow4 hg4)|fail)
  have HN4:Hid (PA w (.slice none 0 0) w4 (.slice (some ⟨g', 0,none⟩) (sz-2) cap') ((beN sz x).take (sz-2))):=qA (by
    rw[show(x:Int)/65536%256=((x/65536%256:Nat):Int) by omega]at hown4;have h1:=PA.push HP.out (by rw[List.length_take,aC];omega) hown4 hgrow4 hg4;have hlt:sz-3<(beN sz x).length:=by rw[aC];omega
    have hat:=cW sz x hlt;rw[show sz-1-(sz-3)=2 by omega]at hat;have h2:(beN sz x).take (sz-2)=(beN sz x).take (sz-3)++[x/65536%256]:=by
      rw[show sz-2=sz-3+1 by omega,List.take_add_one,qL hlt,hat];rfl
    rw[h2,show sz-2=sz-3+1 by omega];exact h1)
  (try rw[show sz-3+1=sz-2 by omega])
  clear HQ hown4 hgrow4 hg4 HP;go_roundw
  case rel=>exact⟨2,by omega,⟨_,_,rfl,HN4⟩,by go_num⟩
  case measure=>simp[intOf]}
  {
  have HQ:=qA (PA.own (n:=sz-4) HP.out (by rw[List.length_take,aC];omega));go_wp2_with (first|(at_builtin;refine aA rfl (.tmp 13) (.tmp 19) 22 rfl 5 (.int .u8 0) 1 Tryz.underlying22 Tryz.info5 rfl (.slice sa (sz-4) sc) (sz-4) (aS ((beN sz x).take (sz-4))) rfl (HQ.out _) wr.heap.size (.int .u8 ((x:Int)/16777216%256)) rfl (aD _ _ _ _ rfl) rfl (by have:=HS.out;omega) (by decide) ?_;intro g' cap' w4 hown4 hgrow4 hg4)|fail)
  have HN4:Hid (PA w (.slice none 0 0) w4 (.slice (some ⟨g', 0,none⟩) (sz-3) cap') ((beN sz x).take (sz-3))):=qA (by
    rw[show(x:Int)/16777216%256=((x/16777216%256:Nat):Int) by omega]at hown4;have h1:=PA.push HP.out (by rw[List.length_take,aC];omega) hown4 hgrow4 hg4;have hlt:sz-4<(beN sz x).length:=by rw[aC];omega
    have hat:=cW sz x hlt;rw[show sz-1-(sz-4)=3 by omega]at hat;have h2:(beN sz x).take (sz-3)=(beN sz x).take (sz-4)++[x/16777216%256]:=by
      rw[show sz-3=sz-4+1 by omega,List.take_add_one,qL hlt,hat];rfl
    rw[h2,show sz-3=sz-4+1 by omega];exact h1)
  (try rw[show sz-4+1=sz-3 by omega])
  clear HQ hown4 hgrow4 hg4 HP;go_roundw
  case rel=>exact⟨3,by omega,⟨_,_,rfl,HN4⟩,by go_num⟩
  case measure=>simp[intOf]}
  {
  have HQ:=qA (PA.own (n:=sz-5) HP.out (by rw[List.length_take,aC];omega));go_wp2_with (first|(at_builtin;refine aA rfl (.tmp 13) (.tmp 19) 22 rfl 5 (.int .u8 0) 1 Tryz.underlying22 Tryz.info5 rfl (.slice sa (sz-5) sc) (sz-5) (aS ((beN sz x).take (sz-5))) rfl (HQ.out _) wr.heap.size (.int .u8 ((x:Int)/4294967296%256)) rfl (aD _ _ _ _ rfl) rfl (by have:=HS.out;omega) (by decide) ?_;intro g' cap' w4 hown4 hgrow4 hg4)|fail)
  have HN4:Hid (PA w (.slice none 0 0) w4 (.slice (some ⟨g', 0,none⟩) (sz-4) cap') ((beN sz x).take (sz-4))):=qA (by
    rw[show(x:Int)/4294967296%256=((x/4294967296%256:Nat):Int) by omega]at hown4;have h1:=PA.push HP.out (by rw[List.length_take,aC];omega) hown4 hgrow4 hg4;have hlt:sz-5<(beN sz x).length:=by rw[aC];omega
    have hat:=cW sz x hlt;rw[show sz-1-(sz-5)=4 by omega]at hat;have h2:(beN sz x).take (sz-4)=(beN sz x).take (sz-5)++[x/4294967296%256]:=by
      rw[show sz-4=sz-5+1 by omega,List.take_add_one,qL hlt,hat];rfl
    rw[h2,show sz-4=sz-5+1 by omega];exact h1)
  (try rw[show sz-5+1=sz-4 by omega])
  clear HQ hown4 hgrow4 hg4 HP;go_roundw
  case rel=>exact⟨4,by omega,⟨_,_,rfl,HN4⟩,by go_num⟩
  case measure=>simp[intOf]}
  {
  have HQ:=qA (PA.own (n:=sz-6) HP.out (by rw[List.length_take,aC];omega));go_wp2_with (first|(at_builtin;refine aA rfl (.tmp 13) (.tmp 19) 22 rfl 5 (.int .u8 0) 1 Tryz.underlying22 Tryz.info5 rfl (.slice sa (sz-6) sc) (sz-6) (aS ((beN sz x).take (sz-6))) rfl (HQ.out _) wr.heap.size (.int .u8 ((x:Int)/1099511627776%256)) rfl (aD _ _ _ _ rfl) rfl (by have:=HS.out;omega) (by decide) ?_;intro g' cap' w4 hown4 hgrow4 hg4)|fail)
  have HN4:Hid (PA w (.slice none 0 0) w4 (.slice (some ⟨g', 0,none⟩) (sz-5) cap') ((beN sz x).take (sz-5))):=qA (by
    rw[show(x:Int)/1099511627776%256=((x/1099511627776%256:Nat):Int) by omega]at hown4;have h1:=PA.push HP.out (by rw[List.length_take,aC];omega) hown4 hgrow4 hg4;have hlt:sz-6<(beN sz x).length:=by rw[aC];omega
    have hat:=cW sz x hlt;rw[show sz-1-(sz-6)=5 by omega]at hat;have h2:(beN sz x).take (sz-5)=(beN sz x).take (sz-6)++[x/1099511627776%256]:=by
      rw[show sz-5=sz-6+1 by omega,List.take_add_one,qL hlt,hat];rfl
    rw[h2,show sz-5=sz-6+1 by omega];exact h1)
  (try rw[show sz-6+1=sz-5 by omega])
  clear HQ hown4 hgrow4 hg4 HP;go_roundw
  case rel=>exact⟨5,by omega,⟨_,_,rfl,HN4⟩,by go_num⟩
  case measure=>simp[intOf]}
  {
  have HQ:=qA (PA.own (n:=sz-7) HP.out (by rw[List.length_take,aC];omega));go_wp2_with (first|(at_builtin;refine aA rfl (.tmp 13) (.tmp 19) 22 rfl 5 (.int .u8 0) 1 Tryz.underlying22 Tryz.info5 rfl (.slice sa (sz-7) sc) (sz-7) (aS ((beN sz x).take (sz-7))) rfl (HQ.out _) wr.heap.size (.int .u8 ((x:Int)/281474976710656%256)) rfl (aD _ _ _ _ rfl) rfl (by have:=HS.out;omega) (by decide) ?_;intro g' cap' w4 hown4 hgrow4 hg4)|fail)
  have HN4:Hid (PA w (.slice none 0 0) w4 (.slice (some ⟨g', 0,none⟩) (sz-6) cap') ((beN sz x).take (sz-6))):=qA (by
    rw[show(x:Int)/281474976710656%256=((x/281474976710656%256:Nat):Int) by omega]at hown4;have h1:=PA.push HP.out (by rw[List.length_take,aC];omega) hown4 hgrow4 hg4;have hlt:sz-7<(beN sz x).length:=by rw[aC];omega
    have hat:=cW sz x hlt;rw[show sz-1-(sz-7)=6 by omega]at hat;have h2:(beN sz x).take (sz-6)=(beN sz x).take (sz-7)++[x/281474976710656%256]:=by
      rw[show sz-6=sz-7+1 by omega,List.take_add_one,qL hlt,hat];rfl
    rw[h2,show sz-6=sz-7+1 by omega];exact h1)
  (try rw[show sz-7+1=sz-6 by omega])
  clear HQ hown4 hgrow4 hg4 HP;go_roundw
  case rel=>exact⟨6,by omega,⟨_,_,rfl,HN4⟩,by go_num⟩
  case measure=>simp[intOf]}
  {
  have HQ:=qA (PA.own (n:=sz-8) HP.out (by rw[List.length_take,aC];omega));go_wp2_with (first|(at_builtin;refine aA rfl (.tmp 13) (.tmp 19) 22 rfl 5 (.int .u8 0) 1 Tryz.underlying22 Tryz.info5 rfl (.slice sa (sz-8) sc) (sz-8) (aS ((beN sz x).take (sz-8))) rfl (HQ.out _) wr.heap.size (.int .u8 ((x:Int)/72057594037927936%256)) rfl (aD _ _ _ _ rfl) rfl (by have:=HS.out;omega) (by decide) ?_;intro g' cap' w4 hown4 hgrow4 hg4)|fail)
  have HN4:Hid (PA w (.slice none 0 0) w4 (.slice (some ⟨g', 0,none⟩) (sz-7) cap') ((beN sz x).take (sz-7))):=qA (by
    rw[show(x:Int)/72057594037927936%256=((x/72057594037927936%256:Nat):Int) by omega]at hown4;have h1:=PA.push HP.out (by rw[List.length_take,aC];omega) hown4 hgrow4 hg4;have hlt:sz-8<(beN sz x).length:=by rw[aC];omega
    have hat:=cW sz x hlt;rw[show sz-1-(sz-8)=7 by omega]at hat;have h2:(beN sz x).take (sz-7)=(beN sz x).take (sz-8)++[x/72057594037927936%256]:=by
      rw[show sz-7=sz-8+1 by omega,List.take_add_one,qL hlt,hat];rfl
    rw[h2,show sz-7=sz-8+1 by omega];exact h1)
  (try rw[show sz-8+1=sz-7 by omega])
  clear HQ hown4 hgrow4 hg4 HP;go_roundw
  case rel=>exact⟨7,by omega,⟨_,_,rfl,HN4⟩,by go_num⟩
  case measure=>simp[intOf]}}
  {
  obtain rfl:i=0:=by omega
  have HR:=qA (show PA w (.slice none 0 0) wr (.slice sa (sz-0) sc) (beN sz x) by
    have h:=HP.out;rw[List.take_of_length_le (by rw[aC];omega)]at h;exact h)
  clear HP;go_wp2_with fail
  go_ret;exact⟨_,rfl,HR.out⟩}
theorem iI(x:Int):x%256=((aH x/1%256:Nat):Int)/\x/256%256=((aH x/256%256:Nat):Int)/\x/65536%256=((aH x/65536%256:Nat):Int)/\x/16777216%256=((aH x/16777216%256:Nat):Int) /\
    x/4294967296%256=((aH x/4294967296%256:Nat):Int)/\x/1099511627776%256=((aH x/1099511627776%256:Nat):Int)/\x/281474976710656%256=((aH x/281474976710656%256:Nat):Int)/\x/72057594037927936%256=((aH x/72057594037927936%256:Nat):Int):=by
 unfold aH;omega
theorem PA.rebase{w w2 wr:World}{v:Value}{l:List Nat}(h:PA w2 (.slice none 0 0) wr v l)(hf:Fr [] w w2):PA w (.slice none 0 0) wr v l:=by
 obtain⟨h1,h2,h3⟩:=h;have hs:=hf.size;refine⟨h1,fun q hq=>.inr ?_,hf.trans' h3⟩;rcases h2 q hq with e|e
 · cases e
 · omega
theorem PA.wd{W w w' :World}{ts:List Th}{v:Value}{l:List Nat}(h:Wd W w ts)(hp:PA w (.slice none 0 0) w' v l):Wd W w' (thY v l::ts):=
  h.new hp.2.2 ⟨hp.1,rfl⟩ (fun q hq=>(hp.2.1 q (by simpa using hq)).resolve_left (by intro e;cases e))
def aRB(m E V D:Int):List Int:=[m,E,V,D]
def wZ(m E V D:Int)(i:Nat):List Nat:=((aRB m E V D).take i).flatMap (fun x=>beN 8 (aH x))
theorem aRC(m E V D:Int){i:Nat}(hi:i<=4):(wZ m E V D i).length=8*i:=by
 have:i=0∨i=1∨i=2∨i=3∨i=4:=by omega
 rcases this with rfl|rfl|rfl|rfl|rfl<;>simp[wZ,aRB,aC]
theorem aRD(m E V D:Int):wZ m E V D 4=gK m E V D:=by simp[wZ,aRB,gK]
theorem aLZ(m E V D:Int){i:Nat}{x:Int}(hx:(aRB m E V D)[i]? =some x):wZ m E V D (i+1)=wZ m E V D i++beN 8 (aH x):=by
 unfold wZ;rw[List.take_add_one,hx,List.flatMap_append];simp
theorem aVC(w:World)(m E V D:Int)(hm:m<=9223372036854775807)(hc:eU m E V D=true):Calls Tryz.prog 113 #[.agg #[.int .i64 m,.int .i64 E,.int .i64 V,.int .i64 D]] w fun e w' =>∃v,e=.returned (.tuple #[v,.int .i64 0])/\PA w (.slice none 0 0) w' v (gK m E V D):=by
 have hb:=Blk.new w [.int .i64 m,.int .i64 E,.int .i64 V,.int .i64 D] 31;have hF0:Fr [] w (w.alloc (.cells #[.int .i64 m,.int .i64 E,.int .i64 V,.int .i64 D] 31)):=(Fr.refl [] w).alloc _;have HC:=aHJ (w.alloc (.cells #[.int .i64 m,.int .i64 E,.int .i64 V,.int .i64 D] 31)) m E V D hm;rw[aEZ hc]at HC;have HC:=qA HC;have HF0:=qA hF0;have HB:=qA hb;have r0:=hb.cell 0;have r1:=hb.cell 1;have r2:=hb.cell 2;have r3:=hb.cell 3;simp only[zK,zL]at r0 r1 r2 r3;clear hb hF0 hc hm;go_enter Tryz.func113,Tryz.ntmps113
 go_wp2_with fail
 refine HC.out.mono ?_;rintro _ w1 ⟨rfl,hF⟩;have hb:=hF.blk HB.out (by simp);have r0:=hb.cell 0;have r1:=hb.cell 1;have r2:=hb.cell 2;have r3:=hb.cell 3;simp only[zK,zL]at r0 r1 r2 r3;have HF1:=qA (HF0.out.trans' hF);clear hb hF HB HC HF0;go_wp2_with fail
 refine(zW w1 m E V D).mono ?_;rintro _ w2 ⟨g,rfl,_,hg,hF⟩;have HG:=qA hg;have HF2:=qA (HF1.out.trans' hF);clear hg hF HF1 r0 r1 r2 r3;have HP0:Hid (PA w2 (.slice none 0 0) w2 (.slice none (8*0) 0) (wZ m E V D 0)):=qA (PA.nil w2);go_wp2_with fail
 go_loopw [4,6,7] (fun c1 c2 _ wr=>∃i:Nat,i<=4/\(∃sa sc,c1=.slice sa (8*i) sc/\Hid (PA w2 (.slice none 0 0) wr (.slice sa (8*i) sc) (wZ m E V D i)))/\c2=.int .i64 i) (fun _ c _ _=>4-(intOf c).toNat)
 case atStart=>exact⟨0,by omega,⟨none,0,rfl,HP0⟩,rfl⟩
 case round=>
  clear HP0;obtain⟨k,hk,⟨sa,sc,rfl,HP⟩,rfl⟩:=hrel;rename World=>wr
  by_cases hlt:k<4
  {
  have hlt' :(k:Int)<4:=by omega
  have hk0:(0:Int)<=k:=by omega
  have hw1:IntKind.i64.wrap ((k:Int)+1)=((k+1:Nat):Int):=by rw[show(k:Int)+1=((k+1:Nat):Int) by omega];exact zH _ (by omega)
  obtain⟨x,hx,hcx⟩:∃x,(aRB m E V D)[k]? =some x/\∀w', Fr [] w2 w' -> w'.cell? ⟨g,k,none⟩=some (.int .i64 x):=by {
  have hcs:k=0∨k=1∨k=2∨k=3:=by omega
  rcases hcs with rfl|rfl|rfl|rfl
  · exact⟨m,rfl,fun w' hf=>(hf.blk HG.out (by simp)).cell 0⟩
  · exact⟨E,rfl,fun w' hf=>(hf.blk HG.out (by simp)).cell 1⟩
  · exact⟨V,rfl,fun w' hf=>(hf.blk HG.out (by simp)).cell 2⟩
  · exact⟨D,rfl,fun w' hf=>(hf.blk HG.out (by simp)).cell 3⟩};have HNx:=qA (aLZ m E V D hx);obtain⟨n0,hn0⟩:∃n0,n0=8*k:=⟨_,rfl⟩;obtain⟨B,hB⟩:∃B,B=wZ m E V D k:=⟨_,rfl⟩;have HBl:=qA (show B.length=n0 by rw[hB,hn0];exact aRC m E V D hk);have HEq:=qA (zJ hn0 hB);have hn0b:n0<=32:=by omega
  have HP1:Hid (PA w2 (.slice none 0 0) wr (.slice sa (n0+(8-8)) sc) (B++(beN 8 (aH x)).take (8-8))):=qA (by rw[hn0,hB];simpa using HP.out);have HCx:=qA hcx;rw[<-hn0];clear hx hcx HP hn0 hB;go_wp2_with fail
  go_loopw [4,7] (fun c1 c2 wr=>∃i:Nat,i<=8/\(∃sa sc,c1=.slice sa (n0+(8-i)) sc/\Hid (PA w2 (.slice none 0 0) wr (.slice sa (n0+(8-i)) sc) (B++(beN 8 (aH x)).take (8-i))))/\c2=.int .i64 ((i:Int)-1)) (fun _ c _=>((intOf c)+1).toNat)
  case atStart=>exact⟨8,by omega,⟨sa,sc,by rw[Nat.sub_self,Nat.add_zero],HP1⟩,rfl⟩
  case round=>
   clear HP1;obtain⟨i,hi,⟨sa,sc,rfl,HP⟩,rfl⟩:=hrel;rename World=>wr
   by_cases hi0:0<i
   {
   have hi8:i=1∨i=2∨i=3∨i=4∨i=5∨i=6∨i=7∨i=8:=by omega
   have cx:=HCx.out wr HP.out.2.2;rcases hi8 with rfl|rfl|rfl|rfl|rfl|rfl|rfl|rfl
   {
   have HQ:=qA (PA.own (n:=n0+(8-1)) HP.out (by rw[zG,List.length_take,aC,HBl.out];omega));go_wp2_with (first|(at_builtin;refine aA rfl (.tmp 23) (.tmp 32) 22 rfl 5 (.int .u8 0) 1 Tryz.underlying22 Tryz.info5 rfl (.slice sa (n0+(8-1)) sc) (n0+(8-1)) (aS (B++(beN 8 (aH x)).take (8-1))) rfl (HQ.out _) wr.heap.size (.int .u8 (x%256)) rfl (aD _ _ _ _ rfl) rfl (by omega) (by decide) ?_;intro g' cap' w4 hown4 hgrow4 hg4)|fail)
   have HN4:Hid (PA w2 (.slice none 0 0) w4 (.slice (some ⟨g', 0,none⟩) (n0+(8-0)) cap') (B++(beN 8 (aH x)).take (8-0))):=qA (by
     rw[(iI x).1]at hown4;have h1:=PA.push HP.out (by rw[zG,List.length_take,aC,HBl.out];omega) hown4 hgrow4 hg4;have hlt:8-1<(beN 8 (aH x)).length:=by rw[aC];omega
     have hat:=cW 8 (aH x) hlt;have h2:(beN 8 (aH x)).take (8-0)=(beN 8 (aH x)).take (8-1)++[aH x/1%256]:=by
       rw[show 8-0=8-1+1 by omega,List.take_add_one,qL hlt,hat];rfl
     rw[h2,<-List.append_assoc,show n0+(8-0)=n0+(8-1)+1 by omega];exact h1)
   rw[show n0+(8-1)+1=n0+(8-0) by omega];clear HQ hown4 hgrow4 hg4 HP cx;go_roundw
   case rel=>exact⟨0,by omega,⟨_,_,rfl,HN4⟩,by go_num⟩
   case measure=>simp[intOf]}
   {
   have HQ:=qA (PA.own (n:=n0+(8-2)) HP.out (by rw[zG,List.length_take,aC,HBl.out];omega));go_wp2_with (first|(at_builtin;refine aA rfl (.tmp 23) (.tmp 32) 22 rfl 5 (.int .u8 0) 1 Tryz.underlying22 Tryz.info5 rfl (.slice sa (n0+(8-2)) sc) (n0+(8-2)) (aS (B++(beN 8 (aH x)).take (8-2))) rfl (HQ.out _) wr.heap.size (.int .u8 (x/256%256)) rfl (aD _ _ _ _ rfl) rfl (by omega) (by decide) ?_;intro g' cap' w4 hown4 hgrow4 hg4)|fail)
   have HN4:Hid (PA w2 (.slice none 0 0) w4 (.slice (some ⟨g', 0,none⟩) (n0+(8-1)) cap') (B++(beN 8 (aH x)).take (8-1))):=qA (by
     rw[(iI x).2.1]at hown4;have h1:=PA.push HP.out (by rw[zG,List.length_take,aC,HBl.out];omega) hown4 hgrow4 hg4;have hlt:8-2<(beN 8 (aH x)).length:=by rw[aC];omega
     have hat:=cW 8 (aH x) hlt;have h2:(beN 8 (aH x)).take (8-1)=(beN 8 (aH x)).take (8-2)++[aH x/256%256]:=by
       rw[show 8-1=8-2+1 by omega,List.take_add_one,qL hlt,hat];rfl
     rw[h2,<-List.append_assoc,show n0+(8-1)=n0+(8-2)+1 by omega];exact h1)
   rw[show n0+(8-2)+1=n0+(8-1) by omega];clear HQ hown4 hgrow4 hg4 HP cx;go_roundw
   case rel=>exact⟨1,by omega,⟨_,_,rfl,HN4⟩,by go_num⟩
   case measure=>simp[intOf]}
   {
   have HQ:=qA (PA.own (n:=n0+(8-3)) HP.out (by rw[zG,List.length_take,aC,HBl.out];omega));go_wp2_with (first|(at_builtin;refine aA rfl (.tmp 23) (.tmp 32) 22 rfl 5 (.int .u8 0) 1 Tryz.underlying22 Tryz.info5 rfl (.slice sa (n0+(8-3)) sc) (n0+(8-3)) (aS (B++(beN 8 (aH x)).take (8-3))) rfl (HQ.out _) wr.heap.size (.int .u8 (x/65536%256)) rfl (aD _ _ _ _ rfl) rfl (by omega) (by decide) ?_;intro g' cap' w4 hown4 hgrow4 hg4)|fail)
   have HN4:Hid (PA w2 (.slice none 0 0) w4 (.slice (some ⟨g', 0,none⟩) (n0+(8-2)) cap') (B++(beN 8 (aH x)).take (8-2))):=qA (by
     rw[(iI x).2.2.1]at hown4;have h1:=PA.push HP.out (by rw[zG,List.length_take,aC,HBl.out];omega) hown4 hgrow4 hg4;have hlt:8-3<(beN 8 (aH x)).length:=by rw[aC];omega
     have hat:=cW 8 (aH x) hlt;have h2:(beN 8 (aH x)).take (8-2)=(beN 8 (aH x)).take (8-3)++[aH x/65536%256]:=by
       rw[show 8-2=8-3+1 by omega,List.take_add_one,qL hlt,hat];rfl
     rw[h2,<-List.append_assoc,show n0+(8-2)=n0+(8-3)+1 by omega];exact h1)
   rw[show n0+(8-3)+1=n0+(8-2) by omega];clear HQ hown4 hgrow4 hg4 HP cx;go_roundw
   case rel=>exact⟨2,by omega,⟨_,_,rfl,HN4⟩,by go_num⟩
   case measure=>simp[intOf]}
   {
   have HQ:=qA (PA.own (n:=n0+(8-4)) HP.out (by rw[zG,List.length_take,aC,HBl.out];omega));go_wp2_with (first|(at_builtin;refine aA rfl (.tmp 23) (.tmp 32) 22 rfl 5 (.int .u8 0) 1 Tryz.underlying22 Tryz.info5 rfl (.slice sa (n0+(8-4)) sc) (n0+(8-4)) (aS (B++(beN 8 (aH x)).take (8-4))) rfl (HQ.out _) wr.heap.size (.int .u8 (x/16777216%256)) rfl (aD _ _ _ _ rfl) rfl (by omega) (by decide) ?_;intro g' cap' w4 hown4 hgrow4 hg4)|fail)
   have HN4:Hid (PA w2 (.slice none 0 0) w4 (.slice (some ⟨g', 0,none⟩) (n0+(8-3)) cap') (B++(beN 8 (aH x)).take (8-3))):=qA (by
     rw[(iI x).2.2.2.1]at hown4;have h1:=PA.push HP.out (by rw[zG,List.length_take,aC,HBl.out];omega) hown4 hgrow4 hg4;have hlt:8-4<(beN 8 (aH x)).length:=by rw[aC];omega
     have hat:=cW 8 (aH x) hlt;have h2:(beN 8 (aH x)).take (8-3)=(beN 8 (aH x)).take (8-4)++[aH x/16777216%256]:=by
       rw[show 8-3=8-4+1 by omega,List.take_add_one,qL hlt,hat];rfl
     rw[h2,<-List.append_assoc,show n0+(8-3)=n0+(8-4)+1 by omega];exact h1)
   rw[show n0+(8-4)+1=n0+(8-3) by omega];clear HQ hown4 hgrow4 hg4 HP cx;go_roundw
   case rel=>exact⟨3,by omega,⟨_,_,rfl,HN4⟩,by go_num⟩
   case measure=>simp[intOf]}
   {
   have HQ:=qA (PA.own (n:=n0+(8-5)) HP.out (by rw[zG,List.length_take,aC,HBl.out];omega));go_wp2_with (first|(at_builtin;refine aA rfl (.tmp 23) (.tmp 32) 22 rfl 5 (.int .u8 0) 1 Tryz.underlying22 Tryz.info5 rfl (.slice sa (n0+(8-5)) sc) (n0+(8-5)) (aS (B++(beN 8 (aH x)).take (8-5))) rfl (HQ.out _) wr.heap.size (.int .u8 (x/4294967296%256)) rfl (aD _ _ _ _ rfl) rfl (by omega) (by decide) ?_;intro g' cap' w4 hown4 hgrow4 hg4)|fail)
   have HN4:Hid (PA w2 (.slice none 0 0) w4 (.slice (some ⟨g', 0,none⟩) (n0+(8-4)) cap') (B++(beN 8 (aH x)).take (8-4))):=qA (by
     rw[(iI x).2.2.2.2.1]at hown4;have h1:=PA.push HP.out (by rw[zG,List.length_take,aC,HBl.out];omega) hown4 hgrow4 hg4;have hlt:8-5<(beN 8 (aH x)).length:=by rw[aC];omega
     have hat:=cW 8 (aH x) hlt;have h2:(beN 8 (aH x)).take (8-4)=(beN 8 (aH x)).take (8-5)++[aH x/4294967296%256]:=by
       rw[show 8-4=8-5+1 by omega,List.take_add_one,qL hlt,hat];rfl
     rw[h2,<-List.append_assoc,show n0+(8-4)=n0+(8-5)+1 by omega];exact h1)
   rw[show n0+(8-5)+1=n0+(8-4) by omega];clear HQ hown4 hgrow4 hg4 HP cx;go_roundw
   case rel=>exact⟨4,by omega,⟨_,_,rfl,HN4⟩,by go_num⟩
   case measure=>simp[intOf]}
   {
   have HQ:=qA (PA.own (n:=n0+(8-6)) HP.out (by rw[zG,List.length_take,aC,HBl.out];omega));go_wp2_with (first|(at_builtin;refine aA rfl (.tmp 23) (.tmp 32) 22 rfl 5 (.int .u8 0) 1 Tryz.underlying22 Tryz.info5 rfl (.slice sa (n0+(8-6)) sc) (n0+(8-6)) (aS (B++(beN 8 (aH x)).take (8-6))) rfl (HQ.out _) wr.heap.size (.int .u8 (x/1099511627776%256)) rfl (aD _ _ _ _ rfl) rfl (by omega) (by decide) ?_;intro g' cap' w4 hown4 hgrow4 hg4)|fail)
   have HN4:Hid (PA w2 (.slice none 0 0) w4 (.slice (some ⟨g', 0,none⟩) (n0+(8-5)) cap') (B++(beN 8 (aH x)).take (8-5))):=qA (by
     rw[(iI x).2.2.2.2.2.1]at hown4;have h1:=PA.push HP.out (by rw[zG,List.length_take,aC,HBl.out];omega) hown4 hgrow4 hg4;have hlt:8-6<(beN 8 (aH x)).length:=by rw[aC];omega
     have hat:=cW 8 (aH x) hlt;have h2:(beN 8 (aH x)).take (8-5)=(beN 8 (aH x)).take (8-6)++[aH x/1099511627776%256]:=by
       rw[show 8-5=8-6+1 by omega,List.take_add_one,qL hlt,hat];rfl
     rw[h2,<-List.append_assoc,show n0+(8-5)=n0+(8-6)+1 by omega];exact h1)
   rw[show n0+(8-6)+1=n0+(8-5) by omega];clear HQ hown4 hgrow4 hg4 HP cx;go_roundw
   case rel=>exact⟨5,by omega,⟨_,_,rfl,HN4⟩,by go_num⟩
   case measure=>simp[intOf]}
   {
   have HQ:=qA (PA.own (n:=n0+(8-7)) HP.out (by rw[zG,List.length_take,aC,HBl.out];omega));go_wp2_with (first|(at_builtin;refine aA rfl (.tmp 23) (.tmp 32) 22 rfl 5 (.int .u8 0) 1 Tryz.underlying22 Tryz.info5 rfl (.slice sa (n0+(8-7)) sc) (n0+(8-7)) (aS (B++(beN 8 (aH x)).take (8-7))) rfl (HQ.out _) wr.heap.size (.int .u8 (x/281474976710656%256)) rfl (aD _ _ _ _ rfl) rfl (by omega) (by decide) ?_;intro g' cap' w4 hown4 hgrow4 hg4)|fail)
   have HN4:Hid (PA w2 (.slice none 0 0) w4 (.slice (some ⟨g', 0,none⟩) (n0+(8-6)) cap') (B++(beN 8 (aH x)).take (8-6))):=qA (by
     rw[(iI x).2.2.2.2.2.2.1]at hown4;have h1:=PA.push HP.out (by rw[zG,List.length_take,aC,HBl.out];omega) hown4 hgrow4 hg4;have hlt:8-7<(beN 8 (aH x)).length:=by rw[aC];omega
     have hat:=cW 8 (aH x) hlt;have h2:(beN 8 (aH x)).take (8-6)=(beN 8 (aH x)).take (8-7)++[aH x/281474976710656%256]:=by
       rw[show 8-6=8-7+1 by omega,List.take_add_one,qL hlt,hat];rfl
     rw[h2,<-List.append_assoc,show n0+(8-6)=n0+(8-7)+1 by omega];exact h1)
   rw[show n0+(8-7)+1=n0+(8-6) by omega];clear HQ hown4 hgrow4 hg4 HP cx;go_roundw
   case rel=>exact⟨6,by omega,⟨_,_,rfl,HN4⟩,by go_num⟩
   case measure=>simp[intOf]}
   {
   have HQ:=qA (PA.own (n:=n0+(8-8)) HP.out (by rw[zG,List.length_take,aC,HBl.out];omega));go_wp2_with (first|(at_builtin;refine aA rfl (.tmp 23) (.tmp 32) 22 rfl 5 (.int .u8 0) 1 Tryz.underlying22 Tryz.info5 rfl (.slice sa (n0+(8-8)) sc) (n0+(8-8)) (aS (B++(beN 8 (aH x)).take (8-8))) rfl (HQ.out _) wr.heap.size (.int .u8 (x/72057594037927936%256)) rfl (aD _ _ _ _ rfl) rfl (by omega) (by decide) ?_;intro g' cap' w4 hown4 hgrow4 hg4)|fail)
   have HN4:Hid (PA w2 (.slice none 0 0) w4 (.slice (some ⟨g', 0,none⟩) (n0+(8-7)) cap') (B++(beN 8 (aH x)).take (8-7))):=qA (by
     rw[(iI x).2.2.2.2.2.2.2]at hown4;have h1:=PA.push HP.out (by rw[zG,List.length_take,aC,HBl.out];omega) hown4 hgrow4 hg4;have hlt:8-8<(beN 8 (aH x)).length:=by rw[aC];omega
     have hat:=cW 8 (aH x) hlt;have h2:(beN 8 (aH x)).take (8-7)=(beN 8 (aH x)).take (8-8)++[aH x/72057594037927936%256]:=by
       rw[show 8-7=8-8+1 by omega,List.take_add_one,qL hlt,hat];rfl
     rw[h2,<-List.append_assoc,show n0+(8-7)=n0+(8-8)+1 by omega];exact h1)
   rw[show n0+(8-8)+1=n0+(8-7) by omega];clear HQ hown4 hgrow4 hg4 HP cx;go_roundw
   case rel=>exact⟨7,by omega,⟨_,_,rfl,HN4⟩,by go_num⟩
   case measure=>simp[intOf]}}
   {
   obtain rfl:i=0:=by omega
   have HN:Hid (PA w2 (.slice none 0 0) wr (.slice sa (8*(k+1)) sc) (wZ m E V D (k+1))):=qA (by
     have h:=HP.out;rw[List.take_of_length_le (by rw[aC];omega),HEq.out.2,HEq.out.1,<-HNx.out]at h;exact h)
   have he:n0+(8-0)=8*(k+1):=by rw[HEq.out.1];omega
   rw[he];clear HP he HCx;go_wp2_with fail
   go_roundw
   case rel=>exact⟨k+1,by omega,⟨_,_,rfl,HN⟩,by go_num⟩
   case measure=>simp[intOf];omega}}
  {
  obtain rfl:k=4:=by omega
  have HR:=qA (HP.out.rebase HF2.out);rw[aRD]at HR;clear HP;go_wp2_with fail
  go_ret2;exact⟨_,rfl,HR.out⟩}
def lQ:Array Value:=#[.int .u8 83,.int .u8 69,.int .u8 69,.int .u8 80,.int .u8 1]
theorem nL{W w:World}{ts:List Th}(h:Wd W w ts)(x sz:Nat)(hx:x<18446744073709551616)(hsz:sz<=8)(h0:0<sz):
    Calls Tryz.prog 114 #[.int .u64 x,.int .i64 sz] w fun e w' =>∃b c,e=.returned (.slice (some ⟨b,0,none⟩) sz c)/\Wd W w' (thY (.slice (some ⟨b,0,none⟩) sz c) (beN sz x)::ts)/\RdB w' (some ⟨b,0,none⟩) (beN sz x):=by
 refine(aYZ w x sz hx hsz).mono ?_;rintro _ w' ⟨v,rfl,hp⟩;have hw:=hp.wd h;obtain⟨b,c,rfl,_⟩:=hw.rowB.at (i:=0) (by rw[aC];exact h0);have hr:=hw.rowB.rd2;rw[aC]at hw ⊢;exact⟨b,c,rfl,hw,hr⟩
theorem Wd.recAt{W w:World}{ts:List Th}{a:Option Addr}{n cap:Nat}{l:List R4}{i:Nat}(h:Wd W w (thR (.slice a n cap) l::ts))(hi:i<l.length):∃b,a=some ⟨b,0,none⟩/\w.cell? ⟨b,i*4,none⟩=some (.int .u64 (l[i]).1)/\w.cell? ⟨b,i*4+1,none⟩=some (.int .u64 (l[i]).2.1)/\w.cell? ⟨b,i*4+2,none⟩=some (.int .i64 (l[i]).2.2.1)/\w.cell? ⟨b,i*4+3,none⟩=some (.int .i64 (l[i]).2.2.2):=by
 obtain⟨b,c,e,_,_,_,hc⟩:=h.rowR.at hi;simp only[qP]at e;refine⟨b,e.1,?_,?_,?_,?_⟩
 · exact hc 0 (by decide)
 · exact hc 1 (by decide)
 · exact hc 2 (by decide)
 · exact hc 3 (by decide)
theorem aRE{W w:World}{ts:List Th}{aL:Option Addr}{n cap:Nat}{l:List R4}(h:Wd W w (thR (.slice aL n cap) l::ts))(hn:l.length=n)(hl:n<=16384)(m E V D now:Int)(a g:Nat)(hm:m<=9223372036854775807)(hc:eU m E V D=true)(ha:a<18446744073709551616)(hg:g<18446744073709551616)(hfit:∀x∈l,R4.fit x):
    Calls Tryz.prog 72 #[.agg #[.int .i64 m,.int .i64 E,.int .i64 V,.int .i64 D],.int .i64 now,.int .u64 a,.int .u64 g,.slice aL n cap] w fun e w' =>∃v,e=.returned v/\Wd W w' (thY v (wE (eB m E V D now a g l))::thR (.slice aL n cap) l::ts):=by
 have hb:=Blk.new w [.int .i64 m,.int .i64 E,.int .i64 V,.int .i64 D] 31;have r0:=hb.cell 0;have r1:=hb.cell 1;have r2:=hb.cell 2;have r3:=hb.cell 3;simp only[zK,zL]at r0 r1 r2 r3;have hW1:=h.fr0 ((Fr.refl [] w).alloc (.cells #[.int .i64 m,.int .i64 E,.int .i64 V,.int .i64 D] 31));have hsz:(w.alloc (.cells #[.int .i64 m,.int .i64 E,.int .i64 V,.int .i64 D] 31)).heap.size=w.heap.size+1:=World.size_alloc _ _;have hcv:=Go.Joins.run_convert_bytes_const_at (P:=Tryz.prog) (w.alloc (.cells #[.int .i64 m,.int .i64 E,.int .i64 V,.int .i64 D] 31)) 22 5 lQ 5 5 (w.heap.size+1) hsz.symm Tryz.underlying22 Tryz.underlying5;have hcell:=fun j=>Go.Joins.cell_alloc_mark_at (w.alloc (.cells #[.int .i64 m,.int .i64 E,.int .i64 V,.int .i64 D] 31)) lQ 5 (5,6) (w.heap.size+1) j hsz.symm;have hf5:lQ.size=5:=rfl;rw[hf5]at hcv;have HC1:=qA (show ∀j u,(aS lL)[j]? =some u->((w.alloc (.cells #[.int .i64 m,.int .i64 E,.int .i64 V,.int .i64 D] 31)).alloc (.cells lQ 5 (5,6))).cell? ((⟨w.heap.size+1,0,none⟩:Addr).add j)=some u from fun j u hj=>by
   rw[Addr.add_lit,Nat.zero_add,hcell j];rw[<-hj];unfold lQ;rw[<-Array.getElem?_toList];rfl)
 have HW2:=qA (hW1.fr0 ((Fr.refl [] _).alloc (.cells lQ 5 (5,6))));have HP:=qA (aVC ((w.alloc (.cells #[.int .i64 m,.int .i64 E,.int .i64 V,.int .i64 D] 31)).alloc (.cells lQ 5 (5,6))) m E V D hm hc);have hcfg:Fr [] (w.alloc (.cells #[.int .i64 m,.int .i64 E,.int .i64 V,.int .i64 D] 31)) ((w.alloc (.cells #[.int .i64 m,.int .i64 E,.int .i64 V,.int .i64 D] 31)).alloc (.cells lQ 5 (5,6))):=(Fr.refl [] _).alloc _;have hb2:=hcfg.blk hb (by simp);have r0' :=hb2.cell 0;have r1' :=hb2.cell 1;have r2' :=hb2.cell 2;have r3' :=hb2.cell 3;simp only[zK,zL]at r0' r1' r2' r3';unfold lQ at hcv r0' r1' r2' r3' HP HC1 HW2;clear hcell hf5 hcfg hb2 hsz;have HF:=qA (zJ hn hfit);have hn0:=jE now;have hu0:=iE now;obtain⟨B,hB⟩:∃B,B=eB m E V D now a g l:=⟨_,rfl⟩;have HBd:=qA hB;have hunf:eB m E V D now a g l=lL++gK m E V D++beN 8 (aH now)++beN 8 a++beN 8 g++cB l:=by unfold eB pM;simp only[List.append_assoc]
 rw[hunf]at HBd;have hbB:Byt B:=by rw[hB];exact kQ _ _ _ _ _ _ _ _
 have hlB:B.length=61+32*n:=by rw[hB,jD,hn]
 rw[<-hB];have HBB:=qA (zJ hbB hlB);unfold wE;clear hb hW1 hc hm hn hfit h hB hunf hbB hlB r0 r1 r2 r3;generalize aH now=un at *;go_enter Tryz.func72,Tryz.ntmps72
 go_wp2_with fail
 refine HP.out.mono ?_;rintro _ w3 ⟨cv,rfl,hPA⟩;have hW3:=hPA.wd HW2.out;obtain⟨sb,sc,rfl,_⟩:=hW3.rowB.at (i:=0) (by rw[aB];decide);have HC2:=qA (hW3.rowB.rd2.cells);have HC1:=qA (fun j u hj=>hPA.2.2.cell (HC1.out j u hj) (by simp[Value.ownBlock]));rw[aB]at hW3 ⊢;have HW3:=qA hW3.drop;clear hPA hW3 HP HW2 r0' r1' r2' r3' hcv;go_wp2_with (first|(at_builtin;go_loud (refine tI rfl (.tmp 22) (.tmp 23) 22 rfl 5 (.int .u8 0) 1 Tryz.underlying22 Tryz.info5 rfl ⟨w.heap.size+1,0,none⟩ 5 5 (aS lL) rfl rfl HC1.out ⟨sb,0,none⟩ 32 sc (aS (gK m E V D)) rfl (by rw[gC,aB]) HC2.out (by decide) (by decide) (by decide) ?_);intro v4 w4 hown hnew hF5;have HW4:=qA (HW3.out.new (t:=thY v4 (lL++gK m E V D)) hF5 ⟨by unfold dF;rw[zG,aB,jF];exact hown,rfl⟩ (fun q hq=>hnew q (by simpa using hq)));clear hown hnew hF5)|fail)
 clear HC1 HC2 HW3;generalize hB0:lL++gK m E V D=B0 at *;have hl0:B0.length=37:=by rw[<-hB0,zG,aB];rfl
 clear hB0;refine(nL HW4.out un 8 hu0 (by decide) (by decide)).mono ?_;rintro _ w5 ⟨nb5,nc5,rfl,hW,hR⟩;have HX:=qA (zJ hW.swap hR);clear hW hR HW4;go_wp2_with (first|(at_builtin;go_loud (refine eC HX.out.1 rfl (.tmp 25) (.tmp 28) 22 rfl (.int .u8 0) Tryz.underlying22 Tryz.info5 rfl (some ⟨nb5,0,none⟩) 8 nc5 rfl rfl HX.out.2 (aC 8 _) (by simp) (by rw[hl0];decide) ?_);intro v5 wn5 hWn;have HW5:=qA hWn.drop2;clear hWn)|fail)
 clear HX;generalize hB5:B0++beN 8 un=B5 at *;have hl5:B5.length=45:=by rw[<-hB5,zG,hl0,aC]
 clear hB5 hl0;refine(nL HW5.out a 8 ha (by decide) (by decide)).mono ?_;rintro _ w6 ⟨nb6,nc6,rfl,hW,hR⟩;have HX:=qA (zJ hW.swap hR);clear hW hR HW5;go_wp2_with (first|(at_builtin;go_loud (refine eC HX.out.1 rfl (.tmp 30) (.tmp 32) 22 rfl (.int .u8 0) Tryz.underlying22 Tryz.info5 rfl (some ⟨nb6,0,none⟩) 8 nc6 rfl rfl HX.out.2 (aC 8 _) (by simp) (by rw[hl5];decide) ?_);intro v6 wn6 hWn;have HW6:=qA hWn.drop2;clear hWn)|fail)
 clear HX;generalize hB6:B5++beN 8 a=B6 at *;have hl6:B6.length=53:=by rw[<-hB6,zG,hl5,aC]
 clear hB6 hl5;refine(nL HW6.out g 8 hg (by decide) (by decide)).mono ?_;rintro _ w7 ⟨nb7,nc7,rfl,hW,hR⟩;have HX:=qA (zJ hW.swap hR);clear hW hR HW6;go_wp2_with (first|(at_builtin;go_loud (refine eC HX.out.1 rfl (.tmp 34) (.tmp 36) 22 rfl (.int .u8 0) Tryz.underlying22 Tryz.info5 rfl (some ⟨nb7,0,none⟩) 8 nc7 rfl rfl HX.out.2 (aC 8 _) (by simp) (by rw[hl6];decide) ?_);intro v7 wn7 hWn;have HW7:=qA hWn.drop2;clear hWn)|fail)
 clear HX;generalize hB7:B6++beN 8 g=B7 at *;have hl7:B7.length=61:=by rw[<-hB7,zG,hl6,aC]
 clear hB7 hl6;have HW8:=qA (show Wd W wn7 (thY v7 (B7++cB (l.take 0))::thR (.slice aL n cap) l::ts) by rw[List.take_zero];simpa[cB] using HW7.out);clear HW7 ha hg hu0 hn0;go_wp2_with fail
 go_loopw [11,14] (fun c1 c2 wr=>∃i:Nat,i<=n/\Hid (Wd W wr (thY c1 (B7++cB (l.take i))::thR (.slice aL n cap) l::ts))/\c2=.int .i64 i) (fun _ c _=>n-(intOf c).toNat)
 case atStart=>exact⟨0,by omega,HW8,rfl⟩
 case round=>
  clear HW8;obtain⟨i,hi,HWr,rfl⟩:=hrel;rename_i bv wr;by_cases hlt:i<n
  {
  have hi1:(i:Int)<n:=by omega
  have hi0:(0:Int)<=i:=by omega
  have hw1:IntKind.i64.wrap ((i:Int)+1)=((i+1:Nat):Int):=by rw[show(i:Int)+1=((i+1:Nat):Int) by omega];exact zH _ (by omega)
  have hil:i<l.length:=by rw[HF.out.1];exact hlt
  obtain⟨bL,rfl,x0,_,_,_⟩:=HWr.out.swap.recAt hil;have HRec:=qA (show ∀w' tz,Wd W w' (thR (.slice (some ⟨bL,0,none⟩) n cap) l::tz)->w'.cell? ⟨bL,i*4,none⟩=some (.int .u64 (l[i]'hil).1)/\w'.cell? ⟨bL,i*4+1,none⟩=some (.int .u64 (l[i]'hil).2.1)/\w'.cell? ⟨bL,i*4+2,none⟩=some (.int .i64 (l[i]'hil).2.2.1)/\w'.cell? ⟨bL,i*4+3,none⟩=some (.int .i64 (l[i]'hil).2.2.2) from fun w' tz hw=>by
    obtain⟨b', e,y⟩:=hw.recAt hil;cases e;exact y)
  have hf:=HF.out.2 _ (List.getElem_mem hil);have hrec:B7++cB (l.take (i+1))=B7++cB (l.take i)++beN 8 (l[i]'hil).1++beN 8 (l[i]'hil).2.1++beN 8 (aH (l[i]'hil).2.2.1)++beN 8 (aH (l[i]'hil).2.2.2):=by {
  have htk:l.take (i+1)=l.take i++[l[i]'hil]:=by rw[List.take_add_one,qL hil];rfl
  rw[htk,wI];unfold wD;simp only[List.append_assoc]};have hlen:(B7++cB (l.take i)).length=61+32*i:=by rw[zG,hl7,sR,List.length_take,Nat.min_eq_left (Nat.le_of_lt hil)]
  generalize l[i]'hil=x at *;obtain⟨xu,xv,xw,xt⟩:=x;obtain⟨f1,f2,_,_⟩:=hf;have hwt:=jE xw;have ht:=jE xt;have hwl:=iE xw;have htl:=iE xt;simp only at x0 hrec HRec f1 f2;generalize aH xw=uw at *;generalize aH xt=ut at *;have HC:=qA hrec;clear hrec;generalize hC0:B7++cB (l.take i)=C0 at *;clear hC0;have HWq:=HWr;clear HWr;go_wp2_with fail
  refine(nL HWq.out xu 8 f1 (by decide) (by decide)).mono ?_;rintro _ w11 ⟨nb11,nc11,rfl,hW,hR⟩;have HX:=qA (zJ hW.swap hR);clear hW hR HWq;go_wp2_with (first|(at_builtin;go_loud (refine eC HX.out.1 rfl (.tmp 44) (.tmp 50) 22 rfl (.int .u8 0) Tryz.underlying22 Tryz.info5 rfl (some ⟨nb11,0,none⟩) 8 nc11 rfl rfl HX.out.2 (aC 8 _) (by simp) (by rw[hlen];omega) ?_);intro v11 wn11 hWn;have HWq:=qA hWn.drop2;clear hWn;obtain⟨x0,x1,x2,x3⟩:=HRec.out _ _ HWq.out.swap)|fail)
  clear HX;generalize hC11:C0++beN 8 xu=C11 at *;have hlen:C11.length=61+32*i+8:=by rw[<-hC11,zG,hlen,aC]
  clear hC11;refine(nL HWq.out xv 8 f2 (by decide) (by decide)).mono ?_;rintro _ w12 ⟨nb12,nc12,rfl,hW,hR⟩;have HX:=qA (zJ hW.swap hR);clear hW hR HWq;go_wp2_with (first|(at_builtin;go_loud (refine eC HX.out.1 rfl (.tmp 52) (.tmp 58) 22 rfl (.int .u8 0) Tryz.underlying22 Tryz.info5 rfl (some ⟨nb12,0,none⟩) 8 nc12 rfl rfl HX.out.2 (aC 8 _) (by simp) (by rw[hlen];omega) ?_);intro v12 wn12 hWn;have HWq:=qA hWn.drop2;clear hWn;obtain⟨x0,x1,x2,x3⟩:=HRec.out _ _ HWq.out.swap)|fail)
  clear HX;generalize hC12:C11++beN 8 xv=C12 at *;have hlen:C12.length=61+32*i+16:=by rw[<-hC12,zG,hlen,aC]
  clear hC12;refine(nL HWq.out uw 8 hwl (by decide) (by decide)).mono ?_;rintro _ w13 ⟨nb13,nc13,rfl,hW,hR⟩;have HX:=qA (zJ hW.swap hR);clear hW hR HWq;go_wp2_with (first|(at_builtin;go_loud (refine eC HX.out.1 rfl (.tmp 60) (.tmp 67) 22 rfl (.int .u8 0) Tryz.underlying22 Tryz.info5 rfl (some ⟨nb13,0,none⟩) 8 nc13 rfl rfl HX.out.2 (aC 8 _) (by simp) (by rw[hlen];omega) ?_);intro v13 wn13 hWn;have HWq:=qA hWn.drop2;clear hWn;obtain⟨x0,x1,x2,x3⟩:=HRec.out _ _ HWq.out.swap)|fail)
  clear HX;generalize hC13:C12++beN 8 uw=C13 at *;have hlen:C13.length=61+32*i+24:=by rw[<-hC13,zG,hlen,aC]
  clear hC13;refine(nL HWq.out ut 8 htl (by decide) (by decide)).mono ?_;rintro _ w14 ⟨nb14,nc14,rfl,hW,hR⟩;have HX:=qA (zJ hW.swap hR);clear hW hR HWq;go_wp2_with (first|(at_builtin;go_loud (refine eC HX.out.1 rfl (.tmp 69) (.tmp 76) 22 rfl (.int .u8 0) Tryz.underlying22 Tryz.info5 rfl (some ⟨nb14,0,none⟩) 8 nc14 rfl rfl HX.out.2 (aC 8 _) (by simp) (by rw[hlen];omega) ?_);intro v14 wn14 hWn;have HWq:=qA hWn.drop2;clear hWn;obtain⟨x0,x1,x2,x3⟩:=HRec.out _ _ HWq.out.swap)|fail)
  clear HX;generalize hC14:C13++beN 8 ut=C14 at *;have hlen:C14.length=61+32*i+32:=by rw[<-hC14,zG,hlen,aC]
  clear hC14;rw[<-HC.out]at HWq;clear x0 x1 x2 x3 HRec HC;go_roundw
  case rel=>exact⟨i+1,by omega,HWq,by go_num⟩
  case measure=>simp[intOf];omega}
  {
  obtain rfl:i=n:=by omega
  have HX:=HWr.out;rw[List.take_of_length_le (by rw[HF.out.1];exact qK _)]at HX;have HBx:=HBd.out;rw[<-HBx]at HX;have hcl:=oT HBB.out.1;have hrw:=HX.rowB;obtain⟨ba,bc,rfl⟩:=hrw.slice;have HS:=qA (aYJ (cap:=bc) hrw.rd HBB.out.1 (by rw[HBB.out.2];omega));rw[HBB.out.2]at HS HX ⊢;have HWq:=qA HX;obtain⟨c,hcc⟩:∃c,c=crc B:=⟨_,rfl⟩;have HCc:=qA hcc;rw[<-hcc]at hcl HS;clear hcc;have hcw:IntKind.u64.wrap (c:Int)=c:=by rw[IntKind.wrap_u64];omega
  clear HX hrw HWr HBx;go_wp2_with fail
  refine HS.out.mono ?_;rintro _ w8 ⟨rfl,rfl⟩;clear HS;go_wp2_with fail
  refine(nL HWq.out c 4 (by omega) (by decide) (by decide)).mono ?_;rintro _ w9 ⟨nb9,nc9,rfl,hW,hR⟩;have HX:=qA (zJ hW.swap hR);clear hW hR HWq;go_wp2_with (first|(at_builtin;go_loud (refine eC HX.out.1 rfl (.tmp 78) (.tmp 82) 22 rfl (.int .u8 0) Tryz.underlying22 Tryz.info5 rfl (some ⟨nb9,0,none⟩) 4 nc9 rfl rfl HX.out.2 (aC 4 _) (by simp) (by rw[HBB.out.2];omega) ?_);intro v9 wn9 hWn;have HWz:=qA hWn.drop2;clear hWn)|fail)
  clear HX;go_wp2_with fail
  go_ret;exact⟨_,rfl,by rw[<-HCc.out];exact HWz.out⟩}
theorem aFA{P:Program}{W w:World}{ts:List Th}{v:Value}{l:List R4}{r:R4}{b:Nat}(h:Wd W w (thR v l::ts)){ops:Array Oper}{rest:List Oper}{o:Oper}{a:Act}{Q:Exit->Act->World->Prop}(hgd:o.guard=none)(s x:Operand)(t:TypeId)
    (ho:o.op=.call { callee:=.builtin .append,args:=#[s,x],argTypes:=#[t,t] }) (z:Value) (ht:P.underlying t=some (.slice 72)) (hinfo:(P.info? 72).map (fun i=>(i.zero,i.size,i.bytes))=some (some z,4,32)) (hzs:z.cells.size=4)
    (hs:a.eval s=v) (hx:a.eval x=.slice (some ⟨b,0,none⟩) 1 1) (hb:Blk w b 72 (rC r)) (hl:l.length<=65536)
    (k:∀v' w', Wd W w' (thR v' (l++[r])::ts)->wpList P ops Q rest (a.put o.dst v') w'):wpList P ops Q (o::rest) a w:=by
 obtain⟨K,⟨hv,rfl⟩,hst⟩:=h.open;refine fW hgd s x t ho 72 z 4 32 ht hinfo hzs (by decide) v l.length (rowR l) hs hv b 72 (rC r) hx hb rfl (fun u hu=>?_) (by omega) (by decide) fun g cap w' hown hgrow hg=>k _ _ (hst ⟨_,⟨?_,rfl⟩,(Fr.refl _ _).grown hgrow (fun q e=>.inl (by simp[e])),fun q hq=>?_⟩)
 {
 simp only[rC,qB,List.not_mem_nil,or_false]at hu;rcases hu with rfl|rfl|rfl|rfl<;>rfl}
 {
 unfold pN;rw[zG,aLJ];exact hown}
 {
 simp only[Value.ownBlock,Option.toList_some,qH]at hq;subst hq;rcases hg with e|e
 · exact .inl (by simp[e])
 · exact .inr e}
theorem aVD{W w:World}{ts:List Th}{p:Nat}{o:Ob}(h:Wd W w (thF p o::ts))(hok:o.Ok)(hp:o.Pc):
    Calls Tryz.prog 37 #[cE p] w fun e w' =>∃v,e=.returned (.tuple #[v,.int .i64 0])/\Wd W w' (thY v o.img::thF p o::ts):=by
 have hle:=hok.leE;have hE:=hok.mE;obtain⟨n,hn⟩:∃n,n=o.L.length:=⟨_,rfl⟩;have hnb:n<=16384:=by omega
 have HN:=qA hn;have HO:=qA (zJ hok hp);have HC:=qA (aUV h (by omega));clear h hok hp hn hle hE;go_enter Tryz.func37,Tryz.ntmps37
 go_wp2_with fail
 refine HC.out.mono ?_;rintro _ w1 ⟨q,rfl,hW⟩;have HV:=qA (aJD hW.drop (by rw[<-HN.out];exact hnb));rw[<-HN.out]at HV;clear HC hW;go_wp2_with fail
 refine HV.out.mono ?_;rintro _ w2 ⟨la,lc,rfl,hW⟩;have HW0:=qA (show Wd W w2 (thR (.slice none 0 0) ((o.L.take 0).map lvR)::thV (.slice la n lc) o.L::thF p o::ts) from
   hW.new (K:=[]) (Fr.refl _ _) ⟨pN.nil _,rfl⟩ (by simp))
 clear HV hW;go_wp2_with fail
 go_loopw [4,6] (fun c1 c2 wr=>∃i:Nat,i<=n/\Hid (Wd W wr (thR c1 ((o.L.take i).map lvR)::thV (.slice la n lc) o.L::thF p o::ts))/\c2=.int .i64 i) (fun _ c _=>n-(intOf c).toNat)
 case atStart=>exact⟨0,by omega,HW0,rfl⟩
 case round=>
  clear HW0;obtain⟨i,hi,HWr,rfl⟩:=hrel;rename_i bv wr;by_cases hlt:i<n
  {
  have hi1:(i:Int)<n:=by omega
  have hi0:(0:Int)<=i:=by omega
  have hw1:IntKind.i64.wrap ((i:Int)+1)=((i+1:Nat):Int):=by rw[show(i:Int)+1=((i+1:Nat):Int) by omega];exact zH _ (by omega)
  have hil:i<o.L.length:=by rw[<-HN.out];exact hlt
  obtain⟨b1,c1', e1,_,_,_,r1⟩:=HWr.out.swap.rowV.at hil;simp only[qP]at e1;obtain⟨rfl,hxx,rfl⟩:=e1;clear hxx;have hrec:(o.L.take (i+1)).map lvR=(o.L.take i).map lvR++[lvR (o.L[i]'hil)]:=by rw[List.take_add_one,qL hil,List.map_append];rfl
  generalize o.L[i]'hil=x at *;unfold aKB at r1;obtain⟨x0,x1,x2,x3,x4,x5,x6⟩:=r1;have HX:=qA (HWr.out.fr0 ((Fr.refl [] wr).alloc (.cells #[.int .u64 (x.u:Nat),.int .u64 (x.v:Nat),.int .i64 x.wt,.int .i64 x.t] 72)));have HBk:=qA (show Blk (wr.alloc (.cells #[.int .u64 (x.u:Nat),.int .u64 (x.v:Nat),.int .i64 x.wt,.int .i64 x.t] 72)) wr.heap.size 72 (rC (lvR x)) from Blk.new wr (rC (lvR x)) 72);have hll:((o.L.take i).map lvR).length<=65536:=by rw[List.length_map,List.length_take];omega
  have HR:=qA (zJ hrec hll);clear hrec hll HWr;go_wp2_with (first|(at_builtin;refine aFA HX.out rfl (.tmp 20) (.tmp 26) 98 rfl rz Tryz.underlying98 Tryz.inforr rfl rfl rfl HBk.out HR.out.2 ?_;intro v9 w9 hW9;rw[<-HR.out.1]at hW9;have HW9:=qA hW9;clear hW9)|fail)
  clear HX HBk x0 x1 x2 x3 x4 x5 x6;go_roundw
  case rel=>exact⟨i+1,by omega,HW9,by go_num⟩
  case measure=>simp[intOf];omega}
  {
  obtain rfl:i=n:=by omega
  have HX:=HWr.out;rw[List.take_of_length_le (by rw[<-HN.out];exact qK _)]at HX;have hlr:(o.L.map lvR).length=i:=by rw[List.length_map,<-HN.out]
  obtain⟨ra,rc,rfl⟩:=HX.rowR.slice;rw[hlr]at HX ⊢;have HA:=qA (aQK HX.third);have HX:=qA HX;have HLr:=qA hlr;clear HWr hlr;go_wp2_with fail
  refine HA.out.mono ?_;rintro _ w3 ⟨rfl,hF⟩;have HX:=qA (HX.out.fr0 hF);clear HA hF;have HA:=qA (aLT HX.out.third);go_wp2_with fail
  refine HA.out.mono ?_;rintro _ w4 ⟨rfl,hF⟩;have HX:=qA (HX.out.fr0 hF);clear HA hF;have HA:=qA (aYR HX.out.third);go_wp2_with fail
  refine HA.out.mono ?_;rintro _ w5 ⟨rfl,rfl⟩;clear HA;obtain⟨h1,h2,h3,h4,h5,h6,h7⟩:=HO.out.2.ins HO.out.1;have HB:=qA (aRE HX.out HLr.out hnb o.m o.E o.V o.D o.now o.last o.gone HO.out.1.m2 HO.out.2.cf h6 h7 (HO.out.2.fit4 HO.out.1));clear h1 h2 h3 h4 h5 h6 h7;go_wp2_with fail
  refine HB.out.mono ?_;rintro _ w6 ⟨v,rfl,hW⟩;have HW:=qA (show Wd W w6 (thY v o.img::thF p o::ts) from hW.drop2.drop2);clear hW HB;go_wp2_with fail
  go_ret2;exact⟨v,rfl,HW.out⟩}
def qI:Option Ob->List Nat|some o=>o.img|none=>[]
def qS:Option Ob->Int|some _=>0|none=>1
section
variable {W w:World} {ts:List Th} {v u:Value} {so sp:Option Ob}
theorem aVE(h:Wd W w (thN thO v so::ts))(hL:dV W)(hp:QPc so):
    Calls Tryz.prog 19 #[v] w fun e w' =>∃a n c,e=.returned (.tuple #[.slice a n c,.int .i64 (qS so)])/\(qI so).length=n/\n<=c/\RdB w' a (qI so)/\Wd W w' (thY (.slice a n c) (qI so)::thN thO v so::ts):=by
 cases so with
 | none=>{
 obtain rfl:=h.isN;refine(nK (jM.none w) (hL.fr h.frm (by simp))).mono ?_;rintro _ w' ⟨rfl,hF⟩;exact⟨none,0,0,rfl,rfl,qK _,fun i hi=>absurd hi (Nat.not_lt_zero _),(h.fr0 hF).new (K:=[]) (Fr.refl _ _) ⟨dF.nil _,rfl⟩ (by simp)⟩}
 | some o=>{
 obtain⟨p,rfl,h1⟩:=h.isW;refine(jU h1 hL (hp o rfl)).mono ?_;rintro _ w' ⟨v', rfl,hW⟩;obtain⟨b,c,rfl,hc,hr⟩:=hW.formB (by rw[o.img_len];omega);exact⟨_,_,_,rfl,rfl,hc,hr,hW.swap.back.swap⟩}
theorem aVF(w:World):Calls Tryz.prog 37 #[.pointer none] w fun e w' =>e=.returned (.tuple #[.slice none 0 0,.int .i64 1])/\w' =w:=by
 go_enter Tryz.func37,Tryz.ntmps37
 go_wp2_with fail
 refine aUW.mono ?_;rintro _ w2 ⟨rfl,rfl⟩;go_wp2_with fail
 go_ret2;exact⟨rfl,rfl⟩
theorem aBV(h:Wd W w (thN thF v so::ts))(hok:QOk so)(hp:QPc so):
    Calls Tryz.prog 37 #[v] w fun e w' =>∃a n c,e=.returned (.tuple #[.slice a n c,.int .i64 (qS so)])/\(qI so).length=n/\n<=c/\RdB w' a (qI so)/\Wd W w' (thY (.slice a n c) (qI so)::thN thF v so::ts):=by
 cases so with
 | none=>{
 obtain rfl:=h.isN;refine(aVF w).mono ?_;rintro _ w' ⟨rfl,rfl⟩;exact⟨none,0,0,rfl,rfl,qK _,fun i hi=>absurd hi (Nat.not_lt_zero _),h.new (K:=[]) (Fr.refl _ _) ⟨dF.nil _,rfl⟩ (by simp)⟩}
 | some o=>{
 obtain⟨p,rfl,h1⟩:=h.isW;refine(aVD h1 (hok o rfl) (hp o rfl)).mono ?_;rintro _ w' ⟨v', rfl,hW⟩;obtain⟨b,c,rfl,hc,hr⟩:=hW.formB (by rw[o.img_len];omega);exact⟨_,_,_,rfl,rfl,hc,hr,hW.swap.back.swap⟩}
def aVY(so sp:Option Ob):Prop:=∃o,so=some o/\sp=some o
theorem xA(h:Wd W w (thN thO v so::thN thO u sp::ts))(hL:dV W)(hp:QPc so)(hq:QPc sp):
    Calls Tryz.prog 20 #[v,u] w fun e w' =>∃x:Bool,e=.returned (.bool x)/\(x=true↔aVY so sp)/\Wd W w' (thN thO v so::thN thO u sp::ts):=by
 cases so with
 | none=>{
 obtain rfl:=h.isN;cases sp with
 | none=>{
 obtain rfl:=h.swap.isN;refine(aJF (jM.none w) (hL.fr h.frm (by simp))).mono ?_;rintro _ w' ⟨rfl,hF⟩;exact⟨false,rfl,⟨fun e=>(by cases e),fun⟨o,e,_⟩=>(by cases e)⟩,h.fr0 hF⟩}
 | some o=>{
 obtain⟨p,rfl,h1⟩:=h.swap.isW;refine(aUT h1 hL (hq o rfl) (jM.none w)).mono ?_;rintro _ w' ⟨rfl,hW⟩;exact⟨false,rfl,⟨fun e=>(by cases e),fun⟨o,e,_⟩=>(by cases e)⟩,hW.back.swap⟩}}
 | some o=>{
 obtain⟨p,rfl,h1⟩:=h.isW;cases sp with
 | none=>{
 obtain rfl:=h1.swap.isN;refine(aUU h1 hL (hp o rfl) (fun w' _=>jM.none w')).mono ?_;rintro _ w' ⟨rfl,hW⟩;exact⟨false,rfl,⟨fun e=>(by cases e),fun⟨o,_,e⟩=>(by cases e)⟩,hW.back⟩}
 | some r=>{
 obtain⟨q,rfl,h2⟩:=h1.swap.isW;refine(aQT h2.swap hL (hp o rfl) (hq r rfl)).mono ?_;rintro _ w' ⟨x,rfl,hx,hW⟩;refine⟨x,rfl,hx.trans ⟨fun e=>⟨o,rfl,by rw[e]⟩,fun⟨o', e1,e2⟩=>?_⟩,hW.back.swap.back.swap⟩;rw[Option.some.inj e1,Option.some.inj e2]}}
theorem xW(h:Wd W w (thN thO v so::ts))(hL:dV W)(hp:QPc so):
    Calls Tryz.prog 20 #[v,v] w fun e w' =>e=.returned (.bool (!so.isNone))/\Wd W w' (thN thO v so::ts):=by
 cases so with
 | none=>{
 obtain rfl:=h.isN;refine(aJF (jM.none w) (hL.fr h.frm (by simp))).mono ?_;rintro _ w' ⟨rfl,hF⟩;exact⟨rfl,h.fr0 hF⟩}
 | some o=>{
 obtain⟨p,rfl,h1⟩:=h.isW;refine(xV h1 hL (hp o rfl)).mono ?_;rintro _ w' ⟨rfl,hW⟩;exact⟨rfl,hW.back⟩}
theorem aRF(h:Wd W w (thN thF v so::thN thF u sp::ts))(hok:QOk so)(hok2:QOk sp)(hp:QPc so)(hq:QPc sp):
    Calls Tryz.prog 42 #[v,u] w fun e w' =>∃x:Bool,e=.returned (.bool x)/\(x=true↔aVY so sp)/\Wd W w' (thN thF v so::thN thF u sp::ts):=by
 have HS:=qA (aBV h hok hp);have HO:=qA (zJ hok (zJ hok2 (zJ hp hq)));clear h hok hok2 hp hq;go_enter Tryz.func42,Tryz.ntmps42
 go_wp2_with fail
 refine HS.out.mono ?_;rintro _ w1 ⟨a1,n1,c1,rfl,hn1,hc1,hr1,hW⟩;clear hr1 HS;have HS:=qA (aBV hW.third HO.out.2.1 HO.out.2.2.2);have H1:=qA hn1;clear hW hn1 hc1;go_wp2_with fail
 refine HS.out.mono ?_;rintro _ w2 ⟨a2,n2,c2,rfl,hn2,hc2,hr2,hW⟩;have hW2:=hW.third;have hr1:=hW2.rowB.rd2;have HW:=qA (show Wd W w2 (thN thF v so::thN thF u sp::ts) from hW2.drop.drop.swap);cases so with
 | none=>{
 clear hr1 hr2 hW hW2 HS hn2 hc2;have e1:qS none=1:=rfl;rw[e1];clear e1;go_wp2_with fail
 go_ret;exact⟨false,rfl,⟨fun e=>(by cases e),fun⟨o,e,_⟩=>(by cases e)⟩,HW.out⟩}
 | some o=>{
 have e1:qS (some o)=0:=rfl;rw[e1];clear e1;cases sp with
 | none=>{
 clear hr1 hr2 hW hW2 HS hn2 hc2;have e1:qS none=1:=rfl;rw[e1];clear e1;go_wp2_with fail
 go_ret;exact⟨false,rfl,⟨fun e=>(by cases e),fun⟨o,_,e⟩=>(by cases e)⟩,HW.out⟩}
 | some r=>{
 have e1:qS (some r)=0:=rfl;rw[e1];clear e1;have hn1:=H1.out;have k1:=aBT (c:=c1) hr1 hn1 (by rw[<-hn1];show 0<o.img.length;rw[o.img_len];omega);have k2:=aBT (c:=c2) hr2 hn2 (by rw[<-hn2];show 0<r.img.length;rw[r.img_len];omega);have hi:lX (qI (some o))=lX (qI (some r))↔o=r:=(aEW o.img_byt r.img_byt).trans (aIY (HO.out.2.2.1 o rfl) (HO.out.1 o rfl) (HO.out.2.2.2 r rfl) (HO.out.2.1 r rfl));generalize lX (qI (some o))=s1 at *;generalize lX (qI (some r))=s2 at *;obtain⟨x,hx⟩:∃x:Bool,x=(s1.toList == s2.toList):=⟨_,rfl⟩;have hx2:x=true↔o=r:=by {
 rw[hx,beq_iff_eq,ByteArray.toList_eq,ByteArray.toList_eq,Array.toList_inj,<-hi];cases s1;cases s2;constructor
 · rintro e;simp only at e;rw[e]
 · rintro e;rw[e]};have hx' :=hx.symm;have HX:=qA hx2;clear hr1 hr2 hW hW2 HS hn1 hn2 hc2 hi hx hx2;go_wp2_with fail
 go_ret;refine⟨x,rfl,HX.out.trans ⟨fun e=>⟨o,rfl,by rw[e]⟩,fun⟨o', e1,e2⟩=>?_⟩,HW.out⟩;rw[Option.some.inj e1,Option.some.inj e2]}}
end
end Go.Proofs.YtjdgpcjbgjnahaaGreatDoor
