/- 'append' of bytes that may only be read to a row of bytes, among other things; the fields of an image. -/
import Derived.Test.YtjdgpcjbgjnahaaGreatDoorD11
import Derived.Test.YtjdgpcjbgjnahaaGreatDoorD12
import Derived.Test.YtjdgpcjbgjnahaaGreatDoorD3
import Derived.Test.YtjdgpcjbgjnahaaGreatDoorD1
import Derived.Laws.Cover3
import Derived.Lib.SmallJoins
import Derived.Laws.BytesArg
set_option maxRecDepth 10000
set_option maxHeartbeats 1600000
set_option linter.unusedSimpArgs false
set_option linter.unusedVariables false
/- An image is loaded as the window that was saved; the plain law. -/
namespace Go.Proofs.YtjdgpcjbgjnahaaGreatDoor
open Go.RowKit
theorem cR{l m r:List Nat}{i n:Nat}(hi:l.length=i)(hn:m.length=n):sub (l++(m++r)) i n=m:=by
 subst hi hn;unfold sub;rw[List.drop_left,List.take_left]
theorem aLI(b:List Nat)(i n k:Nat):sub (b.drop k) i n=sub b (k+i) n:=by unfold sub;rw[List.drop_drop]
def R4.fit(r:R4):Prop:=r.1<18446744073709551616/\r.2.1<18446744073709551616/\(-9223372036854775808<=r.2.2.1/\r.2.2.1<=9223372036854775807)/\ -9223372036854775808<=r.2.2.2/\r.2.2.2<=9223372036854775807
theorem kH{x:Nat}(h:x<18446744073709551616):aF (beN 8 x)=x:=by rw[pD];exact Nat.mod_eq_of_lt h
theorem lM:∀(l:List R4) (r:List Nat),(∀x∈l,R4.fit x)->cQ l.length (cA l++r)=l
  | [],_,_=>rfl
  | x::l,r,h=>by
    obtain⟨h1,h2,h3,h4⟩:=h x List.mem_cons_self;have e:cA (x::l)++r=beN 8 x.1++(beN 8 x.2.1++(beN 8 (aQ x.2.2.1)++(beN 8 (aQ x.2.2.2)++(cA l++r)))):=by
      show(vC x++cA l)++r=_
      unfold vC;simp only[List.append_assoc]
    have e2:cA (x::l)++r=vC x++(cA l++r):=List.append_assoc ..;have l8:∀y,(beN 8 y).length=8:=aM 8;have q0:sub (cA (x::l)++r) 0 8=beN 8 x.1:=by rw[e];exact cR (l:=[]) rfl (l8 _)
    have q1:sub (cA (x::l)++r) 8 8=beN 8 x.2.1:=by rw[e];exact cR (l8 _) (l8 _)
    have q2:sub (cA (x::l)++r) 16 8=beN 8 (aQ x.2.2.1):=by
      rw[e,<-List.append_assoc];exact cR (by rw[zE,l8,l8]) (l8 _)
    have q3:sub (cA (x::l)++r) 24 8=beN 8 (aQ x.2.2.2):=by
      rw[e,<-List.append_assoc,<-List.append_assoc];exact cR (by rw[zE,zE,l8,l8,l8]) (l8 _)
    have q4:(cA (x::l)++r).drop 32=cA l++r:=by rw[e2];exact List.drop_left' (aBG x)
    show(aF (sub (cA (x::l)++r) 0 8),aF (sub (cA (x::l)++r) 8 8),bG (aF (sub (cA (x::l)++r) 16 8)),bG (aF (sub (cA (x::l)++r) 24 8)))::cQ l.length ((cA (x::l)++r).drop 32)=x::l
    rw[q0,q1,q2,q3,q4,lM l r (fun y hy=>h y (List.mem_cons_of_mem _ hy)),kH h1,kH h2,kH (eS _),kH (eS _),cY h3.1 h3.2,cY h4.1 h4.2]
theorem aBL{m E V D now:Int}{a g:Nat}{l:List R4}(hm:-9223372036854775808<=m/\m<=9223372036854775807)(hE:-9223372036854775808<=E/\E<=9223372036854775807)(hV:-9223372036854775808<=V/\V<=9223372036854775807)(hD:-9223372036854775808<=D/\D<=9223372036854775807)
    (hn:-9223372036854775808<=now/\now<=9223372036854775807) (ha:a<18446744073709551616) (hg:g<18446744073709551616) (hl:∀x∈l,R4.fit x) (hag:a=g+l.length):
    cB (uE (cK m E V D now a g l))=match kG m E V D now g l with|none=>(2,none)|some o=>(0,some o):=by
 obtain⟨b,hb⟩:∃b,b=uE (cK m E V D now a g l):=⟨_,rfl⟩;have hlen:b.length=65+32*l.length:=by rw[hb,aBH,gR];omega
 have l8:∀y,(beN 8 y).length=8:=aM 8;have e:b=kC++(beN 8 (aQ m)++(beN 8 (aQ E)++(beN 8 (aQ V)++(beN 8 (aQ D)++(beN 8 (aQ now)++(beN 8 a++(beN 8 g++(cA l++beN 4 (crc (cK m E V D now a g l)))))))))):=by {
 rw[hb];unfold uE;(conv=>lhs;lhs;unfold cK kD fI);simp only[List.append_assoc]};have h5:b.take 5=kC:=by rw[e];exact List.take_left' rfl
 have q0:sub b 5 8=beN 8 (aQ m):=by rw[e];exact cR rfl (l8 _)
 have q1:sub b 13 8=beN 8 (aQ E):=by rw[e,<-List.append_assoc];exact cR (by rw[zE,l8];rfl) (l8 _)
 have q2:sub b 21 8=beN 8 (aQ V):=by rw[e,<-List.append_assoc,<-List.append_assoc];exact cR (by simp only[zE,l8];rfl) (l8 _)
 have q3:sub b 29 8=beN 8 (aQ D):=by rw[e,<-List.append_assoc,<-List.append_assoc,<-List.append_assoc];exact cR (by simp only[zE,l8];rfl) (l8 _)
 have q4:sub b 37 8=beN 8 (aQ now):=by rw[e,<-List.append_assoc,<-List.append_assoc,<-List.append_assoc,<-List.append_assoc];exact cR (by simp only[zE,l8];rfl) (l8 _)
 have q5:sub b 45 8=beN 8 a:=by rw[e,<-List.append_assoc,<-List.append_assoc,<-List.append_assoc,<-List.append_assoc,<-List.append_assoc];exact cR (by simp only[zE,l8];rfl) (l8 _)
 have q6:sub b 53 8=beN 8 g:=by rw[e,<-List.append_assoc,<-List.append_assoc,<-List.append_assoc,<-List.append_assoc,<-List.append_assoc,<-List.append_assoc];exact cR (by simp only[zE,l8];rfl) (l8 _)
 have q7:b.drop 61=cA l++beN 4 (crc (cK m E V D now a g l)):=by rw[hb];unfold uE cK;rw[List.append_assoc];exact List.drop_left' (nR _ _ _ _ _ _ _)
 have q8:b.take (b.length-4)=cK m E V D now a g l:=by rw[hlen,hb];exact List.take_left' (by rw[gR];omega)
 have q9:b.drop (b.length-4)=beN 4 (crc (cK m E V D now a g l)):=by rw[hlen,hb];exact List.drop_left' (by rw[gR];omega)
 have hc:aF (beN 4 (crc (cK m E V D now a g l)))=crc (cK m E V D now a g l):=by rw[pD];exact Nat.mod_eq_of_lt (mY (gS _ _ _ _ _ _ _ _))
 rw[<-hb];unfold cB;rw[qC (by rw[h5,hlen];simp),qC (by rw[q8,q9,hc];simp)];simp only;rw[q5,q6,q7,q4,q3,q2,q1,q0,kH ha,kH hg,kH (eS _),kH (eS _),kH (eS _),kH (eS _),kH (eS _),cY hm.1 hm.2,cY hE.1 hE.2,cY hV.1 hV.2,cY hD.1 hD.2,cY hn.1 hn.2,hlen];rw[qC (by omega),show a-g=l.length by omega,lM l _ hl];cases kG m E V D now g l<;>rfl
def aHO(b:List Nat):Int×Int×Int×Int×Int×Nat×Nat×List R4:=
  (bG (aF (sub b 5 8)),bG (aF (sub b 13 8)),bG (aF (sub b 21 8)),bG (aF (sub b 29 8)),bG (aF (sub b 37 8)),aF (sub b 45 8),aF (sub b 53 8),cQ ((b.length-65)/32) (b.drop 61))
def inI(x:Int):Prop:=-9223372036854775808<=x/\x<=9223372036854775807
theorem aFF{m E V D now:Int}{a g:Nat}{l:List R4}(hm:inI m)(hE:inI E)(hV:inI V)(hD:inI D)(hn:inI now)(ha:a<18446744073709551616)(hg:g<18446744073709551616)(hl:∀x∈l,R4.fit x)(t:List Nat)(ht:t.length=4):
    aHO (cK m E V D now a g l++t)=(m,E,V,D,now,a,g,l):=by
 obtain⟨b,hb⟩:∃b,b=cK m E V D now a g l++t:=⟨_,rfl⟩;have hlen:b.length=65+32*l.length:=by rw[hb,zE,gR,ht];omega
 have l8:∀y,(beN 8 y).length=8:=aM 8;have e:b=kC++(beN 8 (aQ m)++(beN 8 (aQ E)++(beN 8 (aQ V)++(beN 8 (aQ D)++(beN 8 (aQ now)++(beN 8 a++(beN 8 g++(cA l++t)))))))):=by {
 rw[hb];(conv=>lhs;lhs;unfold cK kD fI);simp only[List.append_assoc]};have q0:sub b 5 8=beN 8 (aQ m):=by rw[e];exact cR rfl (l8 _)
 have q1:sub b 13 8=beN 8 (aQ E):=by rw[e,<-List.append_assoc];exact cR (by rw[zE,l8];rfl) (l8 _)
 have q2:sub b 21 8=beN 8 (aQ V):=by rw[e,<-List.append_assoc,<-List.append_assoc];exact cR (by simp only[zE,l8];rfl) (l8 _)
 have q3:sub b 29 8=beN 8 (aQ D):=by rw[e,<-List.append_assoc,<-List.append_assoc,<-List.append_assoc];exact cR (by simp only[zE,l8];rfl) (l8 _)
 have q4:sub b 37 8=beN 8 (aQ now):=by rw[e,<-List.append_assoc,<-List.append_assoc,<-List.append_assoc,<-List.append_assoc];exact cR (by simp only[zE,l8];rfl) (l8 _)
 have q5:sub b 45 8=beN 8 a:=by rw[e,<-List.append_assoc,<-List.append_assoc,<-List.append_assoc,<-List.append_assoc,<-List.append_assoc];exact cR (by simp only[zE,l8];rfl) (l8 _)
 have q6:sub b 53 8=beN 8 g:=by rw[e,<-List.append_assoc,<-List.append_assoc,<-List.append_assoc,<-List.append_assoc,<-List.append_assoc,<-List.append_assoc];exact cR (by simp only[zE,l8];rfl) (l8 _)
 have q7:b.drop 61=cA l++t:=by rw[hb];unfold cK;rw[List.append_assoc];exact List.drop_left' (nR _ _ _ _ _ _ _)
 rw[<-hb];unfold aHO;rw[q0,q1,q2,q3,q4,q5,q6,q7,hlen,show(65+32*l.length-65)/32=l.length by omega,lM l _ hl,kH ha,kH hg,kH (eS _),kH (eS _),kH (eS _),kH (eS _),kH (eS _),cY hm.1 hm.2,cY hE.1 hE.2,cY hV.1 hV.2,cY hD.1 hD.2,cY hn.1 hn.2]
structure Ob.Pc (o:Ob):Prop where
  cf:mM o.m o.E o.V o.D=true
  fit:∀e∈o.L,inI e.wt
theorem aLJ{m D:Int}{E V g:Nat}(h:mM m E V D=true):(Ob.new m E V D g).Pc:=⟨h,fun e he=>by cases he⟩
theorem Ob.Pc.tick{o:Ob}(h:o.Pc)(to:Int):(o.tick to).Pc:=⟨h.cf,fun e he=>h.fit e (qZ.1 he).1⟩
theorem Ob.Pc.add{o:Ob}(h:o.Pc)(u v:Nat){wt:Int}(hw:inI wt)(t:Int):(o.add u v wt t).Pc:=by
 unfold Ob.add;split
 {
 refine⟨h.cf,fun e he=>?_⟩;rcases qE.1 (show e∈(o.tick t).L++_ from he) with he|he
 · exact(h.tick t).fit e he
 {
 obtain rfl:=qH.1 he;exact hw}}
 · exact h
theorem Ob.Pc.fit4{o:Ob}(h:o.Pc)(k:o.Ok):∀x∈o.L.map lvR,R4.fit x:=fun x hx=>by
 obtain⟨e,he,rfl⟩:=qV.1 hx;have h1:=k.u64 e he;have h2:=k.x e he;have h3:=k.n1;have h4:=k.m1;exact⟨h1.1,h1.2,h.fit e he,by show _<=e.t;omega,by show e.t<=_;omega⟩
theorem Ob.Pc.ins{o:Ob}(h:o.Pc)(k:o.Ok):inI o.m/\inI o.E/\inI o.V/\inI o.D/\inI o.now/\o.last<18446744073709551616/\o.gone<18446744073709551616:=by
 have h1:=gZ.1 h.cf;have h2:=k.m2;have h3:=k.n0;have h4:=k.n1;have h5:=k.max;have h6:=k.last;unfold inI;omega
theorem Ob.img_len(o:Ob):o.img.length=65+32*o.L.length:=by unfold Ob.img;rw[aBH,gR,List.length_map];omega
theorem Ob.img_byt(o:Ob):Byt o.img:=aBI (gS _ _ _ _ _ _ _ _)
theorem Ob.Pc.load{o:Ob}(h:o.Pc)(k:o.Ok):cB o.img=(0,some o):=by
 obtain⟨h1,h2,h3,h4,h5,h6,h7⟩:=h.ins k;have hl:=aBL (l:=o.L.map lvR) h1 h2 h3 h4 h5 h6 h7 (h.fit4 k) (by rw[List.length_map];exact k.last);unfold Ob.img;rw[hl,show o.L.map lvR=o.L.map lL from rfl,aHN k h.cf]
theorem aBM{P:Program}{w:World}{ops:Array Oper}{rest:List Oper}{o:Oper}{a:Act}{Q:Exit->Act->World->Prop}(hgd:o.guard=none)(s x:Operand)(t:TypeId)
    (ho:o.op=.call { callee:=.builtin .append,args:=#[s,x],argTypes:=#[t,t] })
    (e:TypeId) (z:Value) (bytes:Nat) (ht:P.underlying t=some (.slice e)) (hinfo:(P.info? e).map (fun i=>(i.zero,i.size,i.bytes))=some (some z,1,bytes)) (hzs:z.cells.size=1)
    (b:Addr) (n cap:Nat) (olds:List Value) (hs:a.eval s=.slice (some b) n cap) (hlo:olds.length=n) (holds:∀j u,olds[j]? =some u->w.cell? (b.add j)=some u)
    (ad:Addr) (m c:Nat) (news:List Value) (hx:a.eval x=.slice (some ad) m c) (hl:news.length=m) (hnews:∀j u,news[j]? =some u->w.cell? (ad.add j)=some u)
    (hg:cap<n+m) (hn:n+m<=4294967296) (hby:bytes<=1024)
    (h:∀v' w', w'.ownsRow 0 e 1 v' (n+m) (olds++news)->(∀q,v'.ownBlock=some q->w.heap.size<=q)->Fr [] w w' -> wpList P ops Q rest (a.put o.dst v') w'):wpList P ops Q (o::rest) a w:=by
 obtain⟨i0,hi,hz0,hz1,hz2⟩:=info_parts hinfo;refine wpList_plain hgd fun K hK=>?_;have hbb:(n+m)*bytes<=140737488355328:=by {
 have:(n+m)*bytes<=4294967296*1024:=Nat.mul_le_mul hn hby;omega};obtain⟨v', w', hr,h2,h3⟩:=run_append_arg_grows (P:=P) w t o.type e i0 z 1 bytes ht hi hz0 hz1 hz2 hzs (by decide) b n cap olds (by rw[hlo,Nat.mul_one]) holds ad m c news (by rw[hl,Nat.mul_one]) hnews hg (by unfold maxLen;omega) hbb;unfold Oper.wp execOp;simp only[ho,resolve,invoke,builtin,Sem.run_bind,Sem.run_pure,Result.andThen_ok,List.map_toArray,List.map_cons,List.map_nil,hs,hx,hr];refine hK _ _ (h v' w' (uS h2) (fun q hq=>?_) ⟨h3.os,h3.tape,h3.output,h3.size,fun k hk _=>h3.block k hk (by simp)⟩);rcases h2.2 with⟨rfl,_⟩|⟨g,cap', cur,rfl,hgb,_⟩
 · cases hq
 {
 simp only[Value.ownBlock,qI]at hq;omega}
section
variable {W w:World} {ts:List Th} {v:Value} {l ns:List Nat} {nb sz cn:Nat}
theorem aDM(h:Wd W w (thY v l::ts))(hb:Blk w nb 36 (ns.map fun x:Nat=>.int .u64 (x:Int)))(hne:v.ownBlock≠some nb)(hsz:sz<=8)(hl:l.length+8*ns.length<=1073741824):
    Calls Tryz.prog 48 #[v,.int .i64 sz,.slice (some ⟨nb,0,none⟩) ns.length cn] w fun e w' =>∃v', e=.returned v' /\ Wd W w' (thY v' (l++ns.flatMap (beN sz))::ts):=by
 obtain⟨K,⟨hv,rfl⟩,hs⟩:=h.open;refine(aRM hv hb hne hsz hl).mono ?_;rintro _ w' ⟨v', rfl,h1,h2,h3⟩;refine⟨v', rfl,hs ⟨_,⟨h1,rfl⟩,h3,fun q hq=>?_⟩⟩;exact(h2 q (by simpa using hq)).imp (fun e=>by simp[e]) id
theorem aRQ(h:Wd W w (thY v l::ts))(hb:Byt l)(hl:l.length<=4611686018427387904):Calls Tryz.prog 15 #[v] w fun e w' =>e=.returned (.int .u32 (crc l:Nat))/\w' =w:=by
 have hr:=h.rowB;obtain⟨a,cap,rfl⟩:=hr.slice;exact aBJ hr.rd hb hl
end
theorem aRR(m E V D:Int)(w:World):Calls Tryz.prog 87 #[.agg #[.int .i64 m,.int .i64 E,.int .i64 V,.int .i64 D]] w fun e w' =>e=.returned (.agg #[.int .i64 m,.int .i64 E,.int .i64 V,.int .i64 D])/\Fr [] w w' :=by
 have hb:=Blk.new w [.int .i64 m,.int .i64 E,.int .i64 V,.int .i64 D] 115;have hF:Fr [] (w.alloc (.cells #[.int .i64 m,.int .i64 E,.int .i64 V,.int .i64 D] 115)) ((w.alloc (.cells #[.int .i64 m,.int .i64 E,.int .i64 V,.int .i64 D] 115)).alloc (.cells #[.int .i64 0,.int .i64 0,.int .i64 0,.int .i64 0] 31)):=(Fr.refl [] _).alloc _;have hb2:=hF.blk hb (by simp);have r0:=hb2.cell 0;have r1:=hb2.cell 1;have r2:=hb2.cell 2;have r3:=hb2.cell 3;have hb3:=Blk.new (w.alloc (.cells #[.int .i64 m,.int .i64 E,.int .i64 V,.int .i64 D] 115)) [.int .i64 m,.int .i64 E,.int .i64 V,.int .i64 D] 31;rw[World.size_alloc]at hb3;have q0:=hb3.cell 0;have q1:=hb3.cell 1;have q2:=hb3.cell 2;have q3:=hb3.cell 3;simp only[zI,zJ]at r0 r1 r2 r3 q0 q1 q2 q3;have HF:=qA (((Fr.refl [] w).alloc (.cells #[.int .i64 m,.int .i64 E,.int .i64 V,.int .i64 D] 115)).alloc (.cells #[.int .i64 m,.int .i64 E,.int .i64 V,.int .i64 D] 31));clear hb hF hb2 hb3;go_enter Tryz.func87,Tryz.ntmps87
 go_wp2
 exact bodyPost_ret (v:=.agg #[.int .i64 m,.int .i64 E,.int .i64 V,.int .i64 D]) (by simp[results,Tryz.results87,go_sem,q0,q1,q2,q3]) rfl ⟨rfl,HF.out⟩
theorem jF{x:Nat}(h:x<18446744073709551616):IntKind.i64.wrap (x:Int)=bG x:=by
 rw[Go.IntKind.wrap_i64];unfold bG;split<;>omega
theorem mC{l:List Nat}{i n:Nat}(h:i+n<=l.length):(sub l i n).length=n:=by unfold sub;rw[List.length_take,List.length_drop];omega
theorem mD{l:List Nat}(h:Byt l)(i n:Nat):Byt (sub l i n):=(h.drop i).take n
theorem RdB.sub{w:World}{b off:Nat}{l:List Nat}(h:RdB w (some ⟨b,off,none⟩) l)(i n:Nat):RdB w (some ⟨b,off+i,none⟩) (sub l i n):=(h.drop i).take n
def vD(l:List Nat)(k:Nat):List Value:=(List.range 4).map fun i=>.int .i64 (if i<k then bG (aF (sub l (8*i) 8)) else 0)
theorem aRS{w:World}{b off n cap:Nat}{l:List Nat}(hr:RdB w (some ⟨b,off,none⟩) l)(hb:Byt l)(hn:l.length=n)(h32:32<=n)(hc:n<=cap)(hL:fH w)
    (hw:cM (bG (aF (sub l 0 8))) (bG (aF (sub l 8 8))) (bG (aF (sub l 16 8))) (bG (aF (sub l 24 8)))=-1):
    Calls Tryz.prog 52 #[.slice (some ⟨b,off,none⟩) n cap] w fun e w' =>e=.returned (.tuple #[.agg #[.int .i64 (bG (aF (sub l 0 8))),.int .i64 (bG (aF (sub l 8 8))),.int .i64 (bG (aF (sub l 16 8))),.int .i64 (bG (aF (sub l 24 8)))],.int .i64 32,.int .i64 0])/\Fr [] w w' :=by
 have d0:decide ((n:Int)<32)=false:=qF (by omega);have d1:¬n<32:=by omega
 have HR:=qA (zH hr (zH hb hn));have HL:=qA hL;have HW:=qA hw;have HC:=qA (zH h32 hc);clear hr hb hn hL hw h32 hc;go_enter Tryz.func52,Tryz.ntmps52
 go_wp2_with fail
 have HP0:=qA (show Fr [] w ((w.alloc (.cells #[.int .i64 0,.int .i64 0,.int .i64 0,.int .i64 0] 31)).alloc (.cells #[.int .i64 0,.int .i64 0,.int .i64 0,.int .i64 0] 115))/\Blk ((w.alloc (.cells #[.int .i64 0,.int .i64 0,.int .i64 0,.int .i64 0] 31)).alloc (.cells #[.int .i64 0,.int .i64 0,.int .i64 0,.int .i64 0] 115)) (w.heap.size+1) 115 (vD l 0)/\Blk ((w.alloc (.cells #[.int .i64 0,.int .i64 0,.int .i64 0,.int .i64 0] 31)).alloc (.cells #[.int .i64 0,.int .i64 0,.int .i64 0,.int .i64 0] 115)) w.heap.size 31 [.int .i64 0,.int .i64 0,.int .i64 0,.int .i64 0] from by
   refine⟨((Fr.refl [] w).alloc _).alloc _,?_,((Fr.refl [] _).alloc _).blk (Blk.new w [.int .i64 0,.int .i64 0,.int .i64 0,.int .i64 0] 31) (by simp)⟩;have k:=Blk.new (w.alloc (.cells #[.int .i64 0,.int .i64 0,.int .i64 0,.int .i64 0] 31)) [.int .i64 0,.int .i64 0,.int .i64 0,.int .i64 0] 115;rw[World.size_alloc]at k;exact k)
 clear d0 d1;go_loopw [14] (fun i wr=>∃k:Nat,k<=4/\i=.int .i64 k/\Hid (Fr [] w wr/\Blk wr (w.heap.size+1) 115 (vD l k)/\Blk wr w.heap.size 31 [.int .i64 0,.int .i64 0,.int .i64 0,.int .i64 0])) (fun i _=>4-(intOf i).toNat)
 case atStart=>exact⟨0,by omega,rfl,HP0⟩
 case round=>
  clear HP0;obtain⟨k,hk,rfl,HP⟩:=hrel;rename World=>wr
  by_cases hlt:k<4
  {
  have hlt' :(k:Int)<4:=by omega
  have hk0:(0:Int)<=k:=by omega
  have hw1:IntKind.i64.wrap ((k:Int)+1)=((k+1:Nat):Int):=by rw[show(k:Int)+1=((k+1:Nat):Int) by omega];exact zF _ (by omega)
  have hw8:IntKind.i64.wrap (8*(k:Int))=((8*k:Nat):Int):=by rw[show 8*(k:Int)=((8*k:Nat):Int) by omega];exact zF _ (by omega)
  have hw9:IntKind.i64.wrap (((8*k:Nat):Int)+8)=((8*k+8:Nat):Int):=by rw[show((8*k:Nat):Int)+8=((8*k+8:Nat):Int) by omega];exact zF _ (by omega)
  have hp0:(0:Int)<=((8*k:Nat):Int):=by omega
  have hp1:((8*k:Nat):Int)<=((8*k+8:Nat):Int):=by omega
  have hp2:((8*k+8:Nat):Int)<=cap:=by have:=HC.out;omega
  have hne:¬cap=8*k:=by have:=HC.out;omega
  have t1:((8*k:Nat):Int).toNat=8*k:=zC _;have t2:((8*k+8:Nat):Int).toNat=8*k+8:=zC _;have e8:8*k+8-8*k=8:=by omega
  generalize hk8:8*k=k8 at *;have HK:=qA hk8;clear hk8;go_wp2_with fail
  clear hp0 hp1 hp2 hne t1 t2 hw8 hw9;have HS:=qA (show RdB w (some ⟨b,off+k8,none⟩) (sub l k8 8)/\Byt (sub l k8 8)/\(sub l k8 8).length=8 from⟨HR.out.1.sub k8 8,mD HR.out.2.1 k8 8,mC (by rw[HR.out.2.2];have:=HC.out;have:=HK.out;omega)⟩);go_loopw [7,25] (fun r c wr2=>∃(j:Nat) (x:Nat),j<=8/\r=.int .u64 x/\c=.int .i64 j/\wr2=wr/\Hid (x=aF ((sub l k8 8).take j))) (fun _ c _=>8-(intOf c).toNat)
  case atStart=>exact⟨0,0,by omega,rfl,rfl,rfl,qA rfl⟩
  case round=>
   obtain⟨j,x,hj,rfl,rfl,rfl,HX⟩:=hrel;by_cases hj8:j<8
   {
   have hj8' :(j:Int)<8:=by omega
   have hj0:(0:Int)<=j:=by omega
   have hw2:IntKind.i64.wrap ((j:Int)+1)=((j+1:Nat):Int):=by rw[show(j:Int)+1=((j+1:Nat):Int) by omega];exact zF _ (by omega)
   have hjl:j<(sub l k8 8).length:=by rw[HS.out.2.2];exact hj8
   obtain⟨b', off', eb,_,c0⟩:=(HS.out.1.fr HP.out.1) j hjl;simp only[qI,Addr.mk.injEq,and_true]at eb;obtain⟨rfl,rfl⟩:=eb;have hby:=HS.out.2.1 _ (List.getElem_mem hjl);have hx:x<72057594037927936:=by rw[HX.out];exact iJ HS.out.2.1 hjl (by rw[HS.out.2.2];decide)
   have htk:(sub l k8 8).take (j+1)=(sub l k8 8).take j++[(sub l k8 8)[j]'hjl]:=by rw[List.take_add_one,qK hjl];rfl
   generalize (sub l k8 8)[j]'hjl=y at *;have hwy:IntKind.u64.wrap (y:Int)=y:=by simp[IntKind.wrap,IntKind.bits,IntKind.signed];omega
   have hwx:IntKind.u64.wrap ((x:Int)*256)=(x:Int)*256:=by simp[IntKind.wrap,IntKind.bits,IntKind.signed];omega
   have hor:=yJ hx hby;have HN:=qA (show x*256+y=aF ((sub l k8 8).take (j+1)) by rw[htk,nX,<-HX.out]);clear htk HX;go_wp2_with fail
   go_roundw
   case rel=>exact⟨j+1,x*256+y,by omega,rfl,by go_num,trivial,HN⟩
   case measure=>simp[intOf];omega}
   {
   obtain rfl:j=8:=by omega
   have hxv:x=aF (sub l k8 8):=by {
   have e:=HX.out;rw[List.take_of_length_le (by rw[HS.out.2.2];exact qJ _)]at e;exact e};have hx:x<18446744073709551616:=by rw[hxv];have h1:=fY HS.out.2.1;rw[HS.out.2.2]at h1;exact h1
   have hwz:=jF hx;obtain⟨yv,hyv⟩:∃yv,yv=bG x:=⟨_,rfl⟩;rw[<-hyv]at hwz;have hk8' :=HK.out;have hset:(vD l k).set k (.int .i64 yv)=vD l (k+1):=by {
   rw[hyv,hxv];have hk4:k=0∨k=1∨k=2∨k=3:=by omega
   rcases hk4 with rfl|rfl|rfl|rfl<;>subst hk8' <;> rfl};have c8:=HP.out.2.1.cell k;have z9:=HP.out.2.1.frozen k;have c9:wr.cell? ⟨w.heap.size+1,k,none⟩=some (.int .i64 0):=by {
   rw[c8];have hk4:k=0∨k=1∨k=2∨k=3:=by omega
   rcases hk4 with rfl|rfl|rfl|rfl<;>rfl};have hlt4:w.heap.size≠w.heap.size+1:=by omega
   have HN:=qA (show Fr [] w (wr.setCell ⟨w.heap.size+1,k,none⟩ (.int .i64 yv))/\Blk (wr.setCell ⟨w.heap.size+1,k,none⟩ (.int .i64 yv)) (w.heap.size+1) 115 (vD l (k+1))/\Blk (wr.setCell ⟨w.heap.size+1,k,none⟩ (.int .i64 yv)) w.heap.size 31 [.int .i64 0,.int .i64 0,.int .i64 0,.int .i64 0] from by
     refine⟨HP.out.1.setCell _ _ (.inr (by simp)),?_,((Fr.refl [w.heap.size+1] wr).setCell _ _ (.inl (by simp))).blk HP.out.2.2 (by simp)⟩;rw[<-hset];exact HP.out.2.1.set k (.int .i64 yv))
   clear hset hxv hyv HX hk8' HP c8;go_wp2_with fail
   go_roundw
   case rel=>exact⟨k+1,by omega,by go_num,HN⟩
   case measure=>simp[intOf];omega}}
  {
  obtain rfl:k=4:=by omega
  have hb4:Blk wr (w.heap.size+1) 115 [.int .i64 (bG (aF (sub l 0 8))),.int .i64 (bG (aF (sub l 8 8))),.int .i64 (bG (aF (sub l 16 8))),.int .i64 (bG (aF (sub l 24 8)))]:=HP.out.2.1;have hv8:∀i,i+8<=32->aF (sub l i 8)<18446744073709551616:=fun i hi=>by
    have h1:=fY (mD HR.out.2.1 i 8);rw[mC (by rw[HR.out.2.2];have:=HC.out;omega)]at h1;exact h1
  have hg:=wR (HL.out.fr HP.out.1 (by simp)) (bG (aF (sub l 0 8))) (bG (aF (sub l 8 8))) (bG (aF (sub l 16 8))) (bG (aF (sub l 24 8))) (gN _ (hv8 0 (by omega))).2;rw[HW.out]at hg;generalize hX0:bG (aF (sub l 0 8))=X0 at *;generalize hX1:bG (aF (sub l 8 8))=X1 at *;generalize hX2:bG (aF (sub l 16 8))=X2 at *;generalize hX3:bG (aF (sub l 24 8))=X3 at *;have r0:=hb4.cell 0;have r1:=hb4.cell 1;have r2:=hb4.cell 2;have r3:=hb4.cell 3;simp only[zI,zJ,Nat.add_zero]at r0 r1 r2 r3;have HXX:=qA (zH hX0 (zH hX1 (zH hX2 hX3)));clear hX0 hX1 hX2 hX3;have HG:=qA hg;have HB4:=qA hb4;clear hg hb4 hv8;go_wp2_with fail
  refine HG.out.mono ?_;rintro _ w3 ⟨rfl,hF⟩;have HJ:=qA (aRR X0 X1 X2 X3 w3);have hb4:=hF.blk HB4.out (by simp);have r0:=hb4.cell 0;have r1:=hb4.cell 1;have r2:=hb4.cell 2;have r3:=hb4.cell 3;simp only[zI,zJ]at r0 r1 r2 r3;have HP3:=qA (zH (HP.out.1.trans' hF) (hF.blk HP.out.2.2 (by simp)));clear hb4 hF HG HB4 HP;go_wp2_with fail
  refine HJ.out.mono ?_;rintro _ w4 ⟨rfl,hF⟩;have hb:=hF.blk HP3.out.2 (by simp);have c0:=hb.cell 0;have c1:=hb.cell 1;have c2:=hb.cell 2;have c3:=hb.cell 3;have z0:=hb.frozen 0;have z1:=hb.frozen 1;have z2:=hb.frozen 2;have z3:=hb.frozen 3;simp only[zI,zJ]at c0 c1 c2 c3;have HF4:=qA (HP3.out.1.trans' hF);have hq:=(((hb.set 0 (.int .i64 X0)).set 1 (.int .i64 X1)).set 2 (.int .i64 X2)).set 3 (.int .i64 X3);have q0:=hq.cell 0;have q1:=hq.cell 1;have q2:=hq.cell 2;have q3:=hq.cell 3;simp only[qX,qT,zI,zJ]at q0 q1 q2 q3;clear hb hq hF HJ r0 r1 r2 r3 HP3;go_wp2
  exact bodyPost_ret (v:=.tuple #[.agg #[.int .i64 X0,.int .i64 X1,.int .i64 X2,.int .i64 X3],.int .i64 32,.int .i64 0]) (by simp[results,Tryz.results52,go_sem,q0,q1,q2,q3]) rfl ⟨by rw[HXX.out.1,HXX.out.2.1,HXX.out.2.2.1,HXX.out.2.2.2],(((HF4.out.setCell _ _ (.inr (qJ _))).setCell _ _ (.inr (qJ _))).setCell _ _ (.inr (qJ _))).setCell _ _ (.inr (qJ _))⟩}
theorem aRT{w:World}{b off n cap:Nat}{l:List Nat}(hr:RdB w (some ⟨b,off,none⟩) l)(hb:Byt l)(hn:l.length=n)(h32:32<=n)(hc:n<=cap)(hL:fH w)
    (hw:0<=cM (bG (aF (sub l 0 8))) (bG (aF (sub l 8 8))) (bG (aF (sub l 16 8))) (bG (aF (sub l 24 8)))):
    Calls Tryz.prog 52 #[.slice (some ⟨b,off,none⟩) n cap] w fun e w' =>e=.returned (.tuple #[.agg #[.int .i64 0,.int .i64 0,.int .i64 0,.int .i64 0],.int .i64 0,.int .i64 2])/\Fr [] w w' :=by
 have d0:decide ((n:Int)<32)=false:=qF (by omega);have d1:¬n<32:=by omega
 have HR:=qA (zH hr (zH hb hn));have HL:=qA hL;have HW:=qA hw;have HC:=qA (zH h32 hc);clear hr hb hn hL hw h32 hc;go_enter Tryz.func52,Tryz.ntmps52
 go_wp2_with fail
 have HP0:=qA (show Fr [] w ((w.alloc (.cells #[.int .i64 0,.int .i64 0,.int .i64 0,.int .i64 0] 31)).alloc (.cells #[.int .i64 0,.int .i64 0,.int .i64 0,.int .i64 0] 115))/\Blk ((w.alloc (.cells #[.int .i64 0,.int .i64 0,.int .i64 0,.int .i64 0] 31)).alloc (.cells #[.int .i64 0,.int .i64 0,.int .i64 0,.int .i64 0] 115)) (w.heap.size+1) 115 (vD l 0)/\Blk ((w.alloc (.cells #[.int .i64 0,.int .i64 0,.int .i64 0,.int .i64 0] 31)).alloc (.cells #[.int .i64 0,.int .i64 0,.int .i64 0,.int .i64 0] 115)) w.heap.size 31 [.int .i64 0,.int .i64 0,.int .i64 0,.int .i64 0] from by
   refine⟨((Fr.refl [] w).alloc _).alloc _,?_,((Fr.refl [] _).alloc _).blk (Blk.new w [.int .i64 0,.int .i64 0,.int .i64 0,.int .i64 0] 31) (by simp)⟩;have k:=Blk.new (w.alloc (.cells #[.int .i64 0,.int .i64 0,.int .i64 0,.int .i64 0] 31)) [.int .i64 0,.int .i64 0,.int .i64 0,.int .i64 0] 115;rw[World.size_alloc]at k;exact k)
 clear d0 d1;go_loopw [14] (fun i wr=>∃k:Nat,k<=4/\i=.int .i64 k/\Hid (Fr [] w wr/\Blk wr (w.heap.size+1) 115 (vD l k)/\Blk wr w.heap.size 31 [.int .i64 0,.int .i64 0,.int .i64 0,.int .i64 0])) (fun i _=>4-(intOf i).toNat)
 case atStart=>exact⟨0,by omega,rfl,HP0⟩
 case round=>
  clear HP0;obtain⟨k,hk,rfl,HP⟩:=hrel;rename World=>wr
  by_cases hlt:k<4
  {
  have hlt' :(k:Int)<4:=by omega
  have hk0:(0:Int)<=k:=by omega
  have hw1:IntKind.i64.wrap ((k:Int)+1)=((k+1:Nat):Int):=by rw[show(k:Int)+1=((k+1:Nat):Int) by omega];exact zF _ (by omega)
  have hw8:IntKind.i64.wrap (8*(k:Int))=((8*k:Nat):Int):=by rw[show 8*(k:Int)=((8*k:Nat):Int) by omega];exact zF _ (by omega)
  have hw9:IntKind.i64.wrap (((8*k:Nat):Int)+8)=((8*k+8:Nat):Int):=by rw[show((8*k:Nat):Int)+8=((8*k+8:Nat):Int) by omega];exact zF _ (by omega)
  have hp0:(0:Int)<=((8*k:Nat):Int):=by omega
  have hp1:((8*k:Nat):Int)<=((8*k+8:Nat):Int):=by omega
  have hp2:((8*k+8:Nat):Int)<=cap:=by have:=HC.out;omega
  have hne:¬cap=8*k:=by have:=HC.out;omega
  have t1:((8*k:Nat):Int).toNat=8*k:=zC _;have t2:((8*k+8:Nat):Int).toNat=8*k+8:=zC _;have e8:8*k+8-8*k=8:=by omega
  generalize hk8:8*k=k8 at *;have HK:=qA hk8;clear hk8;go_wp2_with fail
  clear hp0 hp1 hp2 hne t1 t2 hw8 hw9;have HS:=qA (show RdB w (some ⟨b,off+k8,none⟩) (sub l k8 8)/\Byt (sub l k8 8)/\(sub l k8 8).length=8 from⟨HR.out.1.sub k8 8,mD HR.out.2.1 k8 8,mC (by rw[HR.out.2.2];have:=HC.out;have:=HK.out;omega)⟩);go_loopw [7,25] (fun r c wr2=>∃(j:Nat) (x:Nat),j<=8/\r=.int .u64 x/\c=.int .i64 j/\wr2=wr/\Hid (x=aF ((sub l k8 8).take j))) (fun _ c _=>8-(intOf c).toNat)
  case atStart=>exact⟨0,0,by omega,rfl,rfl,rfl,qA rfl⟩
  case round=>
   obtain⟨j,x,hj,rfl,rfl,rfl,HX⟩:=hrel;by_cases hj8:j<8
   {
   have hj8' :(j:Int)<8:=by omega
   have hj0:(0:Int)<=j:=by omega
   have hw2:IntKind.i64.wrap ((j:Int)+1)=((j+1:Nat):Int):=by rw[show(j:Int)+1=((j+1:Nat):Int) by omega];exact zF _ (by omega)
   have hjl:j<(sub l k8 8).length:=by rw[HS.out.2.2];exact hj8
   obtain⟨b', off', eb,_,c0⟩:=(HS.out.1.fr HP.out.1) j hjl;simp only[qI,Addr.mk.injEq,and_true]at eb;obtain⟨rfl,rfl⟩:=eb;have hby:=HS.out.2.1 _ (List.getElem_mem hjl);have hx:x<72057594037927936:=by rw[HX.out];exact iJ HS.out.2.1 hjl (by rw[HS.out.2.2];decide)
   have htk:(sub l k8 8).take (j+1)=(sub l k8 8).take j++[(sub l k8 8)[j]'hjl]:=by rw[List.take_add_one,qK hjl];rfl
   generalize (sub l k8 8)[j]'hjl=y at *;have hwy:IntKind.u64.wrap (y:Int)=y:=by simp[IntKind.wrap,IntKind.bits,IntKind.signed];omega
   have hwx:IntKind.u64.wrap ((x:Int)*256)=(x:Int)*256:=by simp[IntKind.wrap,IntKind.bits,IntKind.signed];omega
   have hor:=yJ hx hby;have HN:=qA (show x*256+y=aF ((sub l k8 8).take (j+1)) by rw[htk,nX,<-HX.out]);clear htk HX;go_wp2_with fail
   go_roundw
   case rel=>exact⟨j+1,x*256+y,by omega,rfl,by go_num,trivial,HN⟩
   case measure=>simp[intOf];omega}
   {
   obtain rfl:j=8:=by omega
   have hxv:x=aF (sub l k8 8):=by {
   have e:=HX.out;rw[List.take_of_length_le (by rw[HS.out.2.2];exact qJ _)]at e;exact e};have hx:x<18446744073709551616:=by rw[hxv];have h1:=fY HS.out.2.1;rw[HS.out.2.2]at h1;exact h1
   have hwz:=jF hx;obtain⟨yv,hyv⟩:∃yv,yv=bG x:=⟨_,rfl⟩;rw[<-hyv]at hwz;have hk8' :=HK.out;have hset:(vD l k).set k (.int .i64 yv)=vD l (k+1):=by {
   rw[hyv,hxv];have hk4:k=0∨k=1∨k=2∨k=3:=by omega
   rcases hk4 with rfl|rfl|rfl|rfl<;>subst hk8' <;> rfl};have c8:=HP.out.2.1.cell k;have z9:=HP.out.2.1.frozen k;have c9:wr.cell? ⟨w.heap.size+1,k,none⟩=some (.int .i64 0):=by {
   rw[c8];have hk4:k=0∨k=1∨k=2∨k=3:=by omega
   rcases hk4 with rfl|rfl|rfl|rfl<;>rfl};have hlt4:w.heap.size≠w.heap.size+1:=by omega
   have HN:=qA (show Fr [] w (wr.setCell ⟨w.heap.size+1,k,none⟩ (.int .i64 yv))/\Blk (wr.setCell ⟨w.heap.size+1,k,none⟩ (.int .i64 yv)) (w.heap.size+1) 115 (vD l (k+1))/\Blk (wr.setCell ⟨w.heap.size+1,k,none⟩ (.int .i64 yv)) w.heap.size 31 [.int .i64 0,.int .i64 0,.int .i64 0,.int .i64 0] from by
     refine⟨HP.out.1.setCell _ _ (.inr (by simp)),?_,((Fr.refl [w.heap.size+1] wr).setCell _ _ (.inl (by simp))).blk HP.out.2.2 (by simp)⟩;rw[<-hset];exact HP.out.2.1.set k (.int .i64 yv))
   clear hset hxv hyv HX hk8' HP c8;go_wp2_with fail
   go_roundw
   case rel=>exact⟨k+1,by omega,by go_num,HN⟩
   case measure=>simp[intOf];omega}}
  {
  obtain rfl:k=4:=by omega
  have hb4:Blk wr (w.heap.size+1) 115 [.int .i64 (bG (aF (sub l 0 8))),.int .i64 (bG (aF (sub l 8 8))),.int .i64 (bG (aF (sub l 16 8))),.int .i64 (bG (aF (sub l 24 8)))]:=HP.out.2.1;have hv8:∀i,i+8<=32->aF (sub l i 8)<18446744073709551616:=fun i hi=>by
    have h1:=fY (mD HR.out.2.1 i 8);rw[mC (by rw[HR.out.2.2];have:=HC.out;omega)]at h1;exact h1
  have hg:=wR (HL.out.fr HP.out.1 (by simp)) (bG (aF (sub l 0 8))) (bG (aF (sub l 8 8))) (bG (aF (sub l 16 8))) (bG (aF (sub l 24 8))) (gN _ (hv8 0 (by omega))).2;have hw:=HW.out;clear HW;generalize hX0:bG (aF (sub l 0 8))=X0 at *;generalize hX1:bG (aF (sub l 8 8))=X1 at *;generalize hX2:bG (aF (sub l 16 8))=X2 at *;generalize hX3:bG (aF (sub l 24 8))=X3 at *;have r0:=hb4.cell 0;have r1:=hb4.cell 1;have r2:=hb4.cell 2;have r3:=hb4.cell 3;simp only[zI,zJ,Nat.add_zero]at r0 r1 r2 r3;generalize cM X0 X1 X2 X3=xw at *;have dw:decide (xw≥0)=true:=qG hw;clear hX0 hX1 hX2 hX3;have HG:=qA hg;have HB4:=qA hb4;clear hg hb4 hv8;go_wp2_with fail
  refine HG.out.mono ?_;rintro _ w3 ⟨rfl,hF⟩;have hb:=hF.blk HP.out.2.2 (by simp);have c0:=hb.cell 0;have c1:=hb.cell 1;have c2:=hb.cell 2;have c3:=hb.cell 3;have z0:=hb.frozen 0;have z1:=hb.frozen 1;have z2:=hb.frozen 2;have z3:=hb.frozen 3;simp only[zI,zJ]at c0 c1 c2 c3;have HF4:=qA (HP.out.1.trans' hF);have hq:=(((hb.set 0 (.int .i64 0)).set 1 (.int .i64 0)).set 2 (.int .i64 0)).set 3 (.int .i64 0);have q0:=hq.cell 0;have q1:=hq.cell 1;have q2:=hq.cell 2;have q3:=hq.cell 3;simp only[qX,qT,zI,zJ]at q0 q1 q2 q3;clear hb hq hF r0 r1 r2 r3 HP HG HB4;go_wp2
  exact bodyPost_ret (v:=.tuple #[.agg #[.int .i64 0,.int .i64 0,.int .i64 0,.int .i64 0],.int .i64 0,.int .i64 2]) (by simp[results,Tryz.results52,go_sem,q0,q1,q2,q3]) rfl ⟨rfl,(((HF4.out.setCell _ _ (.inr (qJ _))).setCell _ _ (.inr (qJ _))).setCell _ _ (.inr (qJ _))).setCell _ _ (.inr (qJ _))⟩}
theorem aHP{x:Nat}(h:x<4294967296)(e:iL x=0):x=0:=by
 unfold iL at e;split at e
 {
 have k:x/2=3988292384:=by {
 have:=congrArg (· ^^^ 3988292384) e;simp only[Nat.xor_assoc,Nat.xor_self,Nat.xor_zero,Nat.zero_xor]at this;exact this};omega}
 · omega
theorem gT:∀(n:Nat) {x:Nat},x<4294967296->dT n x=0->x=0
  | 0,_,_,e=>e
  | n+1,_,h,e=>aHP h (gT n (wP h) e)
theorem oY:∀n:Nat,dT n 0=0
  | 0=>rfl
  | n+1=>oY n
theorem nS:∀(k r:Nat),r<4294967296->(dW r (List.replicate k 0)=0↔r=0)
  | 0,_,_=>Iff.rfl
  | k+1,r,h=>by
    show dW (rN r 0) (List.replicate k 0)=0↔r=0
    rw[nS k _ (aDW h (by decide))];unfold rN;rw[Nat.xor_zero];exact⟨gT 8 h,fun e=>by rw[e];exact oY 8⟩
theorem yK{a b n:Nat}(h:a<2 ^ n):a ^^^ b*2 ^ n=0↔a=0/\b=0:=by
 constructor
 {
 intro e;have k:a=b*2 ^ n:=by {
 have:=congrArg (· ^^^ b*2 ^ n) e;simp only[Nat.xor_assoc,Nat.xor_self,Nat.xor_zero,Nat.zero_xor]at this;exact this};have hb:b=0:=by {
 by_cases hb:b=0
 · exact hb
 {
 have:1*2 ^ n<=b*2 ^ n:=Nat.mul_le_mul_right _ (by omega);omega}};subst hb;exact⟨by omega,rfl⟩}
 {
 rintro⟨rfl,rfl⟩;simp}
theorem aHQ{a b c d:Nat}(ha:a<256)(hb:b<256)(hc:c<256)(hd:d<256)(e:dW 0 [a,b,c,d]=0):a=0/\b=0/\c=0/\d=0:=by
 rw[aFO,Nat.zero_xor]at e;have h1:a ^^^ b*2 ^ 8<2 ^ 16:=Nat.xor_lt_two_pow (by omega) (by omega);have h2:a ^^^ b*2 ^ 8 ^^^ c*2 ^ 16<2 ^ 24:=Nat.xor_lt_two_pow (by omega) (by omega);have h3:a ^^^ b*2 ^ 8 ^^^ c*2 ^ 16 ^^^ d*2 ^ 24<2 ^ 32:=Nat.xor_lt_two_pow (by omega) (by omega);generalize hx:a ^^^ b*2 ^ 8 ^^^ c*2 ^ 16 ^^^ d*2 ^ 24=x at *;have h4:x=0:=gT 8 h3 (gT 8 (iE 8 h3) (gT 8 (iE 8 (iE 8 h3)) (gT 8 (iE 8 (iE 8 (iE 8 h3))) e)));rw[h4]at hx;obtain⟨k1,rfl⟩:=(yK h2).1 hx;obtain⟨k2,rfl⟩:=(yK h1).1 k1;obtain⟨rfl,rfl⟩:=(yK (show a<2 ^ 8 by omega)).1 k2;exact⟨rfl,rfl,rfl,rfl⟩
theorem aLK{l:List Nat}(hl:l.length<=4)(h:Byt l)(e:dW 0 l=0):∀b∈l,b=0:=by
 have k:dW 0 (l++List.replicate (4-l.length) 0)=0:=by rw[kI,e];exact(nS _ _ (by decide)).2 rfl
 have hb:Byt (l++List.replicate (4-l.length) 0):=h.app fun b hb=>by rw[List.eq_of_mem_replicate hb];decide
 have hn:(l++List.replicate (4-l.length) 0).length=4:=by rw[zE,List.length_replicate];omega
 obtain⟨m,hm⟩:∃m,m=l++List.replicate (4-l.length) 0:=⟨_,rfl⟩;rw[<-hm]at k hb hn;match m,hn with
 | [a,b,c,d],_=>{
 obtain⟨rfl,rfl,rfl,rfl⟩:=aHQ (hb a (by simp)) (hb b (by simp)) (hb c (by simp)) (hb d (by simp)) k;intro x hx;have:x∈[0,0,0,0]:=by rw[hm];exact List.mem_append_left _ hx
 simpa using this}
theorem yL{l m:List Nat}{i:Nat}(h:i<(fV l m).length)(h1:i<l.length)(h2:i<m.length):(fV l m)[i]=l[i] ^^^ m[i]:=List.getElem_zipWith
theorem aLL{l r p q:List Nat}(hp:p.length<=4)(he:p.length=q.length)(bp:Byt p)(bq:Byt q)(hne:p≠q):crc (l++p++r)≠crc (l++q++r):=by
 intro e;have e1:dW 4294967295 (l++p++r)=dW 4294967295 (l++q++r):=by {
 have:=congrArg (· ^^^ 4294967295) e;unfold crc at this;simp only[Nat.xor_assoc,Nat.xor_self,Nat.xor_zero]at this;exact this};rw[kI,kI,kI,kI]at e1;generalize dW 4294967295 l=s at e1;have bx:Byt (fV p q):=fun b hb=>by
   obtain⟨i,hi,rfl⟩:=List.mem_iff_getElem.1 hb;have hi' :i<p.length:=by rw[nW he]at hi;exact hi
   rw[yL hi hi' (by rw[<-he];exact hi')];exact Nat.xor_lt_two_pow (n:=8) (bp _ (List.getElem_mem _)) (bq _ (List.getElem_mem _))
 have e2:dW s p ^^^ dW s q=dW 0 (fV p q):=by rw[<-sG _ _ _ _ he,Nat.xor_self]
 have e3:dW (dW 0 (fV p q)) (List.replicate r.length 0)=0:=by {
 have hx:fV r r=List.replicate r.length 0:=by {
 refine List.ext_getElem (by rw[nW rfl,List.length_replicate]) fun i h1 h2=>?_;have h3:i<r.length:=by rw[List.length_replicate]at h2;exact h2
 rw[yL h1 h3 h3,List.getElem_replicate,Nat.xor_self]};rw[<-e2,<-hx,sG _ _ _ _ rfl,e1,Nat.xor_self]};have e4:dW 0 (fV p q)=0:=(nS _ _ (wQ (by decide) bx)).1 e3;have e5:=aLK (by rw[nW he];exact hp) bx e4;refine hne (List.ext_getElem he fun i h1 h2=>?_);have h3:i<(fV p q).length:=by rw[nW he];exact h1
 have h4:=e5 _ (List.getElem_mem h3);rw[yL h3 h1 h2]at h4;have:=congrArg (· ^^^ q[i]) h4;simp only[Nat.xor_assoc,Nat.xor_self,Nat.xor_zero,Nat.zero_xor]at this;exact this
theorem aBN{b:List Nat}{i n k:Nat}(h:i+n<=k):sub (b.take k) i n=sub b i n:=by
 unfold sub;rw[List.drop_take,List.take_take,Nat.min_eq_left (by omega)]
theorem aBO{b:List Nat}(h:aF (b.drop (b.length-4))≠crc (b.take (b.length-4))):(cB b).2=none/\((cB b).1=15∨(cB b).1=17):=by
 unfold cB;split
 · exact⟨rfl,.inl rfl⟩
 · exact⟨rfl,.inr rfl⟩
theorem aOR{l m:List Nat}(hl:Byt l)(hm:Byt m)(h:l.length=m.length)(e:aF l=aF m):l=m:=by
 rw[<-aBW hl,<-aBW hm,h,e]
theorem aDN{l p q r t:List Nat}(hp:p.length<=4)(he:p.length=q.length)(bp:Byt p)(bq:Byt q)(hne:p≠q)(ht:t=beN 4 (crc (l++p++r)))(bl:Byt l)(br:Byt r):(cB (l++q++r++t)).2=none/\((cB (l++q++r++t)).1=15∨(cB (l++q++r++t)).1=17):=by
 have hlen:(l++q++r++t).length-4=(l++q++r).length:=by rw[zE,ht,aM];omega
 refine aBO ?_;rw[hlen,List.drop_left,List.take_left,ht,pD,Nat.mod_eq_of_lt (mY ((bl.app bp).app br))];exact aLL hp he bp bq hne
theorem aHR{l t:List Nat}(bl:Byt l)(bt:Byt t)(h4:t.length=4)(hne:t≠beN 4 (crc l)):(cB (l++t)).2=none/\((cB (l++t)).1=15∨(cB (l++t)).1=17):=by
 have hlen:(l++t).length-4=l.length:=by rw[zE,h4];omega
 refine aBO ?_;rw[hlen,List.drop_left,List.take_left];intro e;refine hne (aOR bt (dN _ _) (by rw[h4,aM]) ?_);rw[e,pD,Nat.mod_eq_of_lt (mY bl)]
def Rst(w:World)(rb b off n cap:Nat)(l:List Nat):Prop:=Blk w rb 22 [.slice (some ⟨b,off,none⟩) n cap]/\RdB w (some ⟨b,off,none⟩) l/\Byt l/\l.length=n/\n<cap/\rb≠b
section
variable {w w' :World} {rb b off n cap:Nat} {l:List Nat}
theorem Rst.fr{S:List Nat}(h:Rst w rb b off n cap l)(hf:Fr S w w')(h1:rb∉S)(h2:b∉S):Rst w' rb b off n cap l:=by
 obtain⟨k1,k2,k3,k4,k5,k6⟩:=h;exact⟨hf.blk k1 h1,k2.frS hf (fun b' off' e=>by simp only[qI,Addr.mk.injEq]at e;rw[<-e.1];exact h2),k3,k4,k5,k6⟩
theorem nT(h:Rst w rb b off n cap l)(h8:8<=n):Calls Tryz.prog 51 #[.pointer (some ⟨rb,0,none⟩)] w fun e w' =>e=.returned (.int .u64 (aF (l.take 8):Nat))/\Rst w' rb b (off+8) (n-8) (cap-8) (l.drop 8)/\Fr [rb] w w' :=by
 obtain⟨k1,k2,k3,k4,k5,k6⟩:=h;refine(aRN k1 k2 k3 k4 h8 k5).mono ?_;rintro _ _ ⟨rfl,rfl⟩;have hF:Fr [rb] w (w.setCell ⟨rb,0,none⟩ (.slice (some ⟨b,off+8,none⟩) (n-8) (cap-8))):=(Fr.refl _ _).setCell _ _ (.inl (by simp));refine⟨rfl,⟨k1.set 0 _,(k2.drop 8).frS hF (fun b' off' e=>?_),k3.drop 8,by rw[List.length_drop,k4],by omega,k6⟩,hF⟩;simp only[qI,Addr.mk.injEq]at e;simp only[qH,<-e.1];exact fun e=>k6 e.symm
end
theorem fS{l:List Nat}(h:Byt l):aF (l.take 8)<18446744073709551616:=by
 have h1:=fY (h.take 8);have h2:256 ^ (l.take 8).length<=256 ^ 8:=Nat.pow_le_pow_right (by decide) (by rw[List.length_take];omega);exact Nat.lt_of_lt_of_le h1 h2
def aDO(r:R4):List Value:=[.int .u64 (r.1:Nat),.int .u64 (r.2.1:Nat),.int .i64 r.2.2.1,.int .i64 r.2.2.2]
def eE(l:List R4):List Value:=l.flatMap aDO
def lN:Nat->List Value
  | 0=>[]
  | n+1=>[.int .u64 0,.int .u64 0,.int .i64 0,.int .i64 0]++lN n
theorem wJ(l:List R4):(eE l).length=l.length*4:=by
 induction l with
 | nil=>rfl
 | cons r l ih=>show(aDO r++eE l).length=_;rw[zE,ih];show 4+_=_;simp only[qY];omega
theorem sE(A B:List Value)(j:Nat)(x:Value):(A++B).set (A.length+j) x=A++B.set j x:=by
 rw[List.set_append_right _ _ (by omega),Nat.add_sub_cancel_left]
theorem aLM(l:List R4)(n:Nat)(r:R4):((((eE l++lN (n+1)).set (l.length*4) (.int .u64 (r.1:Nat))).set (l.length*4+1) (.int .u64 (r.2.1:Nat))).set (l.length*4+2) (.int .i64 r.2.2.1)).set (l.length*4+3) (.int .i64 r.2.2.2)=eE (l++[r])++lN n:=by
 have h0:=wJ l;have e:eE (l++[r])=eE l++aDO r:=by unfold eE;rw[List.flatMap_append];simp
 rw[e,List.append_assoc,<-h0];rw[show(eE l++lN (n+1)).set (eE l).length (.int .u64 (r.1:Nat))=eE l++(lN (n+1)).set 0 (.int .u64 (r.1:Nat)) from sE _ _ 0 _,sE,sE,sE];rfl
theorem aOS(l:List R4)(n j:Nat)(hj:j<4):(eE l++lN (n+1))[l.length*4+j]? =([.int .u64 0,.int .u64 0,.int .i64 0,.int .i64 0]:List Value)[j]? :=by
 rw[<-wJ l,List.getElem?_append_right (by omega),show(eE l).length+j-(eE l).length=j by omega];unfold lN;rw[List.getElem?_append_left (by simpa using hj)]
theorem aBP:∀{l:List R4} {i:Nat} (hi:i<l.length) (j:Nat),j<4->(eE l)[i*4+j]? =(aDO l[i])[j]?
  | r::l,0,_,j,hj=>by
    show(aDO r++eE l)[0*4+j]? =_
    rw[Nat.zero_mul,Nat.zero_add,List.getElem?_append_left (by exact hj)];rfl
  | r::l,i+1,hi,j,hj=>by
    show(aDO r++eE l)[(i+1)*4+j]? =_
    rw[List.getElem?_append_right (by show 4<=_;omega)];have:=aBP (l:=l) (i:=i) (by simpa using hi) j hj;rw[show(i+1)*4+j-(aDO r).length=i*4+j by show _-4=_;omega,this];rfl
theorem aRU{w:World}{qb:Nat}{l:List R4}(h:Blk w qb 72 (eE l)):RcW w (some ⟨qb,0,none⟩) l:=fun i hi=>by
 have hc:=fun j (hj:j<4)=>(h.cell (i*4+j)).trans (aBP hi j hj);have h0:=hc 0 (by decide);have h1:=hc 1 (by decide);have h2:=hc 2 (by decide);have h3:=hc 3 (by decide);refine⟨qb,0,rfl,h.lt,?_,?_,?_,?_⟩<;>simp only[Nat.zero_add]
 · exact h0
 · exact h1
 · exact h2
 · exact h3
def rz:Value:=.agg #[.int .u64 0,.int .u64 0,.int .i64 0,.int .i64 0]
def lO(n:Nat):Array Value:=madeCells rz.cells (n*4)
theorem Tryz.inforr:(Tryz.prog.info? 72).map (fun i=>(i.zero,i.size,i.bytes))=some (some rz,4,32):=by kernel_rfl
theorem vE(n:Nat)(w:World)(hn:n<=16384):(Instr.makeSlice 98 (.int .u64 n) (.int .u64 n)).run Tryz.prog w=.ok (.slice (some ⟨w.heap.size,0,none⟩) n n) (w.alloc (.cells (lO n) 72)):=by
 obtain⟨i0,hi,hz0,hz1,hz2⟩:=info_parts Tryz.inforr;have h:=run_make (P:=Tryz.prog) w 98 72 i0 rz Tryz.underlying98 hi hz0 .u64 .u64 n n (by omega) (by omega) (by rw[hz2];omega) (by omega);rw[hz1]at h;simp only[zC]at h;exact h
theorem wK(n:Nat):(lO n).toList=lN n:=by
 have hz:rz.cells=#[.int .u64 0,.int .u64 0,.int .i64 0,.int .i64 0]:=by rfl
 have key:∀k,(List.range (k*4)).map (fun i=>rz.cells[i%rz.cells.size]!)=lN k:=by {
 intro k;induction k with
 | zero=>rfl
 | succ k ih=>{
 have hr:List.range ((k+1)*4)=List.range 4++(List.range (k*4)).map (4+·):=by rw[show(k+1)*4=4+k*4 by omega,List.range_add]
 rw[hr,List.map_append,List.map_map];unfold lN;congr 1
 rw[<-ih];refine List.map_congr_left fun i _=>?_;show rz.cells[(4+i)%rz.cells.size]! =rz.cells[i%rz.cells.size]!
 rw[show rz.cells.size=4 by rw[hz];rfl,Nat.add_mod_left]}};unfold lO madeCells;rw[Array.toList_map,Array.toList_range];exact key n
theorem aLN(w:World)(n:Nat):Blk (w.alloc (.cells (lO n) 72)) w.heap.size 72 (eE []++lN n):=by
 have k:=Blk.new w (lO n).toList 72;rw[wK]at k;rw[show lO n=(lN n).toArray by rw[<-wK]];exact k
def iK(b:List Nat):R4:=(aF (b.take 8),aF ((b.drop 8).take 8),bG (aF (((b.drop 8).drop 8).take 8)),bG (aF ((((b.drop 8).drop 8).drop 8).take 8)))
theorem dC(n:Nat)(b:List Nat):cQ (n+1) b=iK b::cQ n (b.drop 32):=by
 unfold iK;simp only[List.drop_drop];rfl
theorem rL:∀(n:Nat) (b:List Nat),cQ (n+1) b=cQ n b++[iK (b.drop (32*n))]
  | 0,b=>by rw[dC];rfl
  | n+1,b=>by
    rw[dC,rL n (b.drop 32),List.drop_drop,dC n b,zB,show 32+32*n=32*(n+1) by omega]
theorem iA:∀(n:Nat) (b:List Nat),(cQ n b).length=n
  | 0,_=>rfl
  | n+1,b=>by rw[dC,qY,iA n]
theorem rM:∀(n:Nat) (b:List Nat) (k:Nat),32*n<=k->cQ n (b.take k)=cQ n b
  | 0,_,_,_=>rfl
  | n+1,b,k,h=>by
    rw[dC,dC,List.drop_take,rM n (b.drop 32) (k-32) (by omega)];unfold iK;simp only[List.drop_take,List.take_take];rw[show min 8 k=8 by omega,show min 8 (k-8)=8 by omega,show min 8 (k-8-8)=8 by omega,show min 8 (k-8-8-8)=8 by omega]
theorem aLO{b:List Nat}(h:Byt b):(iK b).1<18446744073709551616/\(iK b).2.1<18446744073709551616/\(-9223372036854775808<=(iK b).2.2.1/\(iK b).2.2.1<=9223372036854775807)/\ -9223372036854775808<=(iK b).2.2.2/\(iK b).2.2.2<=9223372036854775807:=by
 have h8:∀c:List Nat,Byt c->aF (c.take 8)<18446744073709551616:=fun c hc=>by
   have h1:=fY (hc.take 8);have h2:256 ^ (c.take 8).length<=256 ^ 8:=Nat.pow_le_pow_right (by decide) (by rw[List.length_take];omega);exact Nat.lt_of_lt_of_le h1 h2
 exact⟨h8 _ h,h8 _ (h.drop 8),gN _ (h8 _ ((h.drop 8).drop 8)),gN _ (h8 _ (((h.drop 8).drop 8).drop 8))⟩
theorem uF:∀(n:Nat) {b:List Nat},Byt b->∀r∈cQ n b,R4.fit r
  | 0,_,_,_,h=>by cases h
  | n+1,b,hb,r,h=>by
    rw[dC]at h;rcases qB.1 h with rfl|h
    · exact aLO hb
    · exact uF n (hb.drop 32) r h
def resR(R:Option Ob):Int×Option Ob:=match R with|none=>(2,none)|some o=>(0,some o)
theorem aBQ{l B R:List Nat}{m:Nat}(h65:l.length=m+4)(hm:61<=m)(h5:l.take 5=kC)(hB:B=l.take m)(hR:R=B.drop 37):
    cB l=if aF (l.drop m)≠crc B then((17:Int),(none:Option Ob)) else
      if aF ((R.drop 8).take 8)<aF (((R.drop 8).drop 8).take 8)∨(m-61)%32≠0∨(m-61)/32≠aF ((R.drop 8).take 8)-aF (((R.drop 8).drop 8).take 8) then(15,none) else
        resR (kG (bG (aF (sub (B.drop 5) 0 8))) (bG (aF (sub (B.drop 5) 8 8))) (bG (aF (sub (B.drop 5) 16 8))) (bG (aF (sub (B.drop 5) 24 8))) (bG (aF (R.take 8))) (aF (((R.drop 8).drop 8).take 8)) (cQ (aF ((R.drop 8).take 8)-aF (((R.drop 8).drop 8).take 8)) (((R.drop 8).drop 8).drop 8))):=by
 have q:∀i,i+8<=m->(B.drop i).take 8=sub l i 8:=fun i hi=>by
   rw[hB];exact aBN hi
 have c:∀i,i+13<=m->sub (B.drop 5) i 8=sub l (5+i) 8:=fun i hi=>by rw[aLI,hB];exact aBN (by omega)
 have e0:R.take 8=sub l 37 8:=by rw[hR];exact q 37 (by omega)
 have e1:(R.drop 8).take 8=sub l 45 8:=by rw[hR,List.drop_drop];exact q 45 (by omega)
 have e2:((R.drop 8).drop 8).take 8=sub l 53 8:=by rw[hR,List.drop_drop,List.drop_drop];exact q 53 (by omega)
 have e3:((R.drop 8).drop 8).drop 8=(l.drop 61).take (m-61):=by rw[hR,List.drop_drop,List.drop_drop,List.drop_drop,hB,List.drop_take]
 rw[e0,e1,e2,e3,c 0 (by omega),c 8 (by omega),c 16 (by omega),c 24 (by omega)];unfold cB;rw[qC (by rw[h5,h65];simp;omega),show l.length-4=m by omega,<-hB];by_cases hs:aF (l.drop m)≠crc B
 · rw[qD hs,qD hs]
 {
 rw[qC hs,qC hs];simp only;rw[show l.length-65=m-61 by omega];by_cases hk:aF (sub l 45 8)<aF (sub l 53 8)∨(m-61)%32≠0∨(m-61)/32≠aF (sub l 45 8)-aF (sub l 53 8)
 · rw[qD hk,qD hk]
 {
 rw[qC hk,qC hk,rM _ _ _ (by omega)];unfold resR;rfl}}
theorem aBR{l:List Nat}(h:l.length<65):cB l=(15,none):=by unfold cB;rw[qD (.inl h)]
theorem aBS{l:List Nat}(h:l.take 5≠kC):cB l=(15,none):=by unfold cB;rw[qD (.inr h)]
theorem aFG{m E V D now:Int}{g:Nat}{l:List R4}(h:9223372036854775807<g+l.length∨mM m E V D=false∨E<l.length∨now<0):kG m E V D now g l=none:=by
 unfold kG;rw[qC];rintro⟨h1,h2,h3,h4,h5⟩;rcases h with h|h|h|h
 · omega
 · rw[h]at h2;cases h2
 · omega
 · unfold dH at h5;rw[qD h]at h5;cases h5
def LdE(W w' :World)(ts:List Th)(R:Int×Option Ob)(e:Ending):Prop:=match R.2 with
  | none=>e=.returned (.tuple #[.pointer none,.int .i64 R.1])/\Wd W w' ts
  | some o=>∃p,e=.returned (.tuple #[eO p,.int .i64 R.1])/\Wd W w' (thO p o::ts)
def hdB(a b c d e:Nat):Bool:=decide ([a,b,c,d,e]=kC)
theorem Tryz.infoy5:∃i,Tryz.prog.info? 5=some i:=qU.1 (by kernel_rfl)
@[go_sem] theorem aSE(a b c d e:Nat)(w:World):(Op.equalIn 10000 91 (.agg #[.int .u8 a,.int .u8 b,.int .u8 c,.int .u8 d,.int .u8 e]) (.agg #[.int .u8 83,.int .u8 69,.int .u8 69,.int .u8 80,.int .u8 1])).run Tryz.prog w=.ok (hdB a b c d e) w:=by
 obtain⟨i,hi⟩:=Tryz.infoy5;have u3:=Tryz.underlying5;have a3:=Tryz.isAgg5;have z3:=Tryz.sizeOf5;have hc:Tryz.prog.cellsOf 5=1:=by kernel_rfl
 rw[show(10000:Nat)=9999+1 from rfl,run_equalIn_array w 9999 _ _ Tryz.underlying91 hi,hc];have r2:List.range 5=[0,1,2,3,4]:=rfl;rw[r2];simp only[Op.eqItems];go_simp;have e1:∀(x y:Nat),((x:Int) == (y:Int))=(x == y):=fun x y=>by rw[Bool.eq_iff_iff];simp only[beq_iff_eq];omega
 have k1:=e1 a 83;have k2:=e1 b 69;have k3:=e1 c 69;have k4:=e1 d 80;have k5:=e1 e 1;unfold hdB kC;by_cases h1:a=83<;>by_cases h2:b=69<;>by_cases h3:c=69<;>by_cases h4:d=80<;>by_cases h5:e=1<;>simp_all<;>omega
@[go_sem] theorem aRV(op:BinOp)(x y:Operand)(xs ys:Array Value)(w:World):(eqGuard op 91 x y (.agg xs) (.agg ys)).run Tryz.prog w=.ok () w:=run_eqGuard_agg w op 91 x y xs ys (by kernel_rfl)
theorem aOT{k q:Nat}(h:k<=1073741824)(hq:q=k/32):wrap64 ((k:Int)/32)=(q:Int):=by
 rw[show(k:Int)/32=(q:Int) by omega];exact IntWalk.wrap64_in _ ⟨by omega,by omega⟩
theorem aFH{q:Nat}(h:q<18446744073709551616):IntKind.u64.wrap (q:Int)=q:=by rw[IntKind.wrap_u64];omega
theorem yM{W w:World}{ts:List Th}{a:Option Addr}{l:List Nat}{n cap:Nat}(h:Wd W w ts)(hL:fH W)(hr:RdB w a l)(hb:Byt l)(hn:l.length=n)(hl:n<=1073741824)(hc:n<=cap):
    Calls Tryz.prog 21 #[.slice a n cap] w fun e w' =>LdE W w' ts (cB l) e:=by
  by_cases h65:n<65
  · rw [aBR (by omega)]
    have HW:=qA h;have d1:decide ((n:Int)<65)=true:=qG (by omega);have d2:decide (n<65)=true:=qG h65;clear h hL hr hb hn hl hc h65;go_enter Tryz.func21,Tryz.ntmps21
    go_wp2_with fail
    refine cX (fun w' =>Fr [] w w') (by kernel_rfl) (by kernel_rfl) ((Fr.refl [] w).drew) ?_;iterate 4 (refine aH (by kernel_rfl) (fun KK hK=>?_);go_simp;refine hK.out _ ?_;clear hK KK)
    iterate 5 (refine rZ (by kernel_rfl) ?_)
    iterate 1 (refine aH (by kernel_rfl) (fun KK hK=>?_);go_simp;refine hK.out _ ?_;clear hK KK)
    refine fZ ?_;intro w5 hf5;have HF5:=qA hf5;clear hf5;go_wp2_with fail
    go_ret2;exact⟨rfl,HW.out.fr0 HF5.out⟩
  · obtain ⟨m, hm⟩ : ∃ m, n = m + 4 := ⟨n - 4, by omega⟩
    have hm61:61<=m:=by omega
    obtain⟨b,off,rfl,hbl,hq⟩:=hr 0 (by omega);clear hq;have d1:decide ((n:Int)<65)=false:=qF (by omega);have d2:decide (n<65)=false:=qF h65;obtain⟨x0,hx0⟩:∃x,x=l[0]'(by omega):=⟨_,rfl⟩;obtain⟨x1,hx1⟩:∃x,x=l[1]'(by omega):=⟨_,rfl⟩;obtain⟨x2,hx2⟩:∃x,x=l[2]'(by omega):=⟨_,rfl⟩;obtain⟨x3,hx3⟩:∃x,x=l[3]'(by omega):=⟨_,rfl⟩;obtain⟨x4,hx4⟩:∃x,x=l[4]'(by omega):=⟨_,rfl⟩;have h5:l.take 5=[x0,x1,x2,x3,x4]:=by
      rw[hx0,hx1,hx2,hx3,hx4];match l,hn,hm,hm61 with
      | y0::y1::y2::y3::y4::l,_,_,_=>rfl
      | [],h,_,_=>simp at h;omega
      | [_],h,_,_=>simp at h;omega
      | [_,_],h,_,_=>simp at h;omega
      | [_,_,_],h,_,_=>simp at h;omega
      | [_,_,_,_],h,_,_=>simp at h;omega
    have cc:∀i (hi:i<l.length),w.cell? ⟨b,off+i,none⟩=some (.int .u8 (l[i]'hi:Nat)):=fun i hi=>by
      obtain⟨b', off', e,_,hc⟩:=hr i hi;simp only[qI,Addr.mk.injEq,and_true]at e;obtain⟨rfl,rfl⟩:=e;exact hc
    have c0:=cc 0 (by omega);have c1:=cc 1 (by omega);have c2:=cc 2 (by omega);have c3:=cc 3 (by omega);have c4:=cc 4 (by omega);rw[<-hx0,Nat.add_zero]at c0;rw[<-hx1]at c1;rw[<-hx2]at c2;rw[<-hx3]at c3;rw[<-hx4]at c4;clear cc hx0 hx1 hx2 hx3 hx4;have hat:∀w,(Instr.arrayAt 91 (.slice (some ⟨b,off,none⟩) n cap)).run Tryz.prog w=.ok (.pointer (some ⟨b,off,none⟩)) w:=fun w=>run_arrayAt w 91 _ 5 _ n cap Tryz.underlying91 (by omega);obtain⟨hd,hhd⟩:∃hd,hd=hdB x0 x1 x2 x3 x4:=⟨_,rfl⟩;have HHd:=qA (zH hhd h5);have HW:=qA h;have HR:=qA (zH hr (zH hb hn));have HL:=qA hL;have HC:=qA (zH hm (zH hl (zH hc hbl)));clear h hr hb hn hL hc hbl h65 hm hl h5 hhd;go_enter Tryz.func21,Tryz.ntmps21
    go_wp2_with fail
    refine cX (fun w' =>Fr [] w w') (by kernel_rfl) (by kernel_rfl) ((Fr.refl [] w).drew) ?_;iterate 6 (refine aH (by kernel_rfl) (fun KK hK=>?_);go_simp;(try simp only[hat]);go_simp;refine hK.out _ ?_;clear hK KK)
    refine aS (by kernel_rfl) (.agg #[.int .u8 x0,.int .u8 x1,.int .u8 x2,.int .u8 x3,.int .u8 x4]) (fun w' hw' =>?_) ?_
    · have c0 := hw'.cell c0 (by simp)
      have c1:=hw'.cell c1 (by simp);have c2:=hw'.cell c2 (by simp);have c3:=hw'.cell c3 (by simp);have c4:=hw'.cell c4 (by simp);go_simp;first|exact hw' | exact⟨rfl,hw'⟩|skip
    refine aS (by kernel_rfl) (.agg #[.int .u8 83,.int .u8 69,.int .u8 69,.int .u8 80,.int .u8 1]) (fun w' hw' =>?_) ?_
    · go_simp
      refine(aLF w').mono ?_;rintro _ w6 ⟨rfl,h1⟩;exact⟨rfl,hw'.trans' h1⟩
    iterate 2 (refine aH (by kernel_rfl) (fun KK hK=>?_);go_simp;refine hK.out _ ?_;clear hK KK)
    refine fZ ?_;intro w5 hf5;have HF5:=qA hf5;rw[<-HHd.out.1];clear hf5 c0 c1 c2 c3 c4 hat d1 d2;cases hd with
    | false=>
      go_wp2_with fail
      go_ret2;rw[aBS (l:=l) (by rw[HHd.out.2];exact of_decide_eq_false HHd.out.1.symm)];exact⟨rfl,HW.out.fr0 HF5.out⟩
    | true=>
      have HSt:=qA (aBQ (l:=l) (HR.out.2.2.trans HC.out.1) hm61 (by rw[HHd.out.2];exact of_decide_eq_true HHd.out.1.symm) rfl rfl);clear HHd;obtain⟨B,hB⟩:∃B,B=l.take m:=⟨_,rfl⟩;obtain⟨T,hT⟩:∃T,T=l.drop m:=⟨_,rfl⟩;rw[<-hB,<-hT]at HSt;have hBl:B.length=m:=by rw[hB,List.length_take,HR.out.2.2,HC.out.1];omega
      have hTl:T.length=4:=by rw[hT,List.length_drop,HR.out.2.2,HC.out.1];omega
      have hBr:RdB w (some ⟨b,off,none⟩) B:=by rw[hB];exact HR.out.1.take m
      have hTr:RdB w (some ⟨b,off+m,none⟩) T:=by rw[hT];exact HR.out.1.drop m
      have hBb:Byt B:=by rw[hB];exact HR.out.2.1.take m
      have hTb:Byt T:=by rw[hT];exact HR.out.2.1.drop m
      have HW5:=qA (HW.out.fr0 HF5.out);have hsum:=aBJ (cap:=cap) (hBr.fr HF5.out) hBb (by rw[hBl];have:=HC.out;omega);have hget:=aPK (cap:=cap-m) (hTr.fr HF5.out) hTb (by omega);rw[hBl]at hsum;rw[hTl]at hget;have hv:=fY hTb;rw[hTl]at hv;have hcr:=mY hBb;have HSum:=qA hsum;have HGet:=qA hget;have HB:=qA (zH hBr (zH hBb hBl));generalize aF T=s1 at *;generalize crc B=s2 at *;have hw1:IntKind.i64.wrap ((n:Int)-4)=(m:Int):=by
        rw[show(n:Int)-4=(m:Int) by have:=HC.out;omega];exact zF _ (by have:=HC.out;omega)
      have hw2:IntKind.u64.wrap (s2:Int)=s2:=by rw[IntKind.wrap_u64];omega
      have e1:(0:Int)<=m:=by omega
      have e2:(m:Int)<=cap:=by have:=HC.out;omega
      have e3:(m:Int)<=n:=by have:=HC.out;omega
      have e4:(n:Int)<=cap:=by have:=HC.out;omega
      have e5:¬cap=m:=by have:=HC.out;omega
      have e6:n-m=4:=by have:=HC.out;omega
      have e7:¬cap=0:=by have:=HC.out;omega
      clear hsum hget hBr hTr hBb hTb hv hcr hB hT hBl hTl HW HR;go_wp2_with fail
      refine HGet.out.mono ?_;rintro _ w6 ⟨rfl,rfl⟩;clear HGet;go_wp2_with fail
      refine HSum.out.mono ?_;rintro _ w7 ⟨rfl,rfl⟩;clear HSum;by_cases hs:s1=s2
      · subst hs
        have f1:(37:Int)<=m:=by omega
        have f2:(37:Int)<=cap:=by omega
        have f3:¬cap=37:=by have:=HC.out;omega
        have HSt:Hid (cB l=_):=qA (HSt.out.trans (qC (fun h=>h rfl)));have hRb:=Blk.new w7 [.slice (some ⟨b,off+37,none⟩) (m-37) (cap-37)] 22;have HA:=qA ((Fr.refl [] w7).alloc (.cells #[.slice (some ⟨b,off+37,none⟩) (m-37) (cap-37)] 22));have hRst:Rst (w7.alloc (.cells #[.slice (some ⟨b,off+37,none⟩) (m-37) (cap-37)] 22)) w7.heap.size b (off+37) (m-37) (cap-37) (B.drop 37):=by
          have hc:=HC.out;have hs:=HW5.out;refine⟨hRb,(HB.out.1.drop 37).fr ?_,HB.out.2.1.drop 37,by rw[List.length_drop,HB.out.2.2],by omega,?_⟩
          · exact HF5.out.alloc _
          · have:=HF5.out.size;omega
        have HRs:=qA hRst;have HAl:=qA (((Fr.refl [] w7).alloc (.cells #[.slice (some ⟨b,off+37,none⟩) (m-37) (cap-37)] 22)));clear hRb hRst HA;have hb37:=HB.out.2.1.drop 37;have b1:=fS hb37;have b2:=fS (hb37.drop 8);have b3:=fS ((hb37.drop 8).drop 8);have z1:=(nT HRs.out (by omega));obtain⟨R,hR⟩:∃R,R=(((B.drop 37).drop 8).drop 8).drop 8:=⟨_,rfl⟩;rw[<-hR]at HSt;have HRb:=qA (show Byt R/\R.length=m-61 by
          rw[hR];exact⟨((hb37.drop 8).drop 8).drop 8,by simp only[List.length_drop,HB.out.2.2];omega⟩)
        have hR2:=qA hR;clear hR hb37;obtain⟨nv,hnv⟩:∃nv,nv=aF ((B.drop 37).take 8):=⟨_,rfl⟩;rw[<-hnv]at z1 b1 HSt;have hwn:=jF b1;have hnz:=gN nv b1;generalize bG nv=nz at *;have HN1:=qA z1;clear z1 hnv b1;go_wp2_with fail
        refine HN1.out.mono ?_;rintro _ w8 ⟨rfl,hr8,hf8⟩;clear HN1;have z2:=(nT hr8 (by omega));obtain⟨av,hav⟩:∃av,av=aF (((B.drop 37).drop 8).take 8):=⟨_,rfl⟩;rw[<-hav]at z2 b2 HSt;have HN2:=qA z2;have HF8:=qA (HAl.out.trans hf8 (fun q hq=>.inr (by simp only[qH]at hq;omega)));clear z2 hav hr8 hf8 HAl HRs;go_wp2_with fail
        refine HN2.out.mono ?_;rintro _ w9 ⟨rfl,hr9,hf9⟩;clear HN2;have z3:=(nT hr9 (by omega));obtain⟨gv,hgv⟩:∃gv,gv=aF ((((B.drop 37).drop 8).drop 8).take 8):=⟨_,rfl⟩;rw[<-hgv]at z3 b3 HSt;have HN3:=qA z3;have HF9:=qA (HF8.out.trans hf9 (fun q hq=>.inr (by simp only[qH]at hq;omega)));clear z3 hgv hr9 hf9 HF8;go_wp2_with fail
        refine HN3.out.mono ?_;rintro _ w10 ⟨rfl,hr10,hf10⟩;have HF10:=qA (HF9.out.trans hf10 (fun q hq=>.inr (by simp only[qH]at hq;omega)));obtain⟨k,hk⟩:∃k,k=m-61:=⟨_,rfl⟩;obtain⟨c3,hc3⟩:∃c3,c3=cap-61:=⟨_,rfl⟩;obtain⟨o3,ho3⟩:∃o3,o3=off+61:=⟨_,rfl⟩;rw[<-hR2.out,show m-37-8-8-8=k by omega,show cap-37-8-8-8=c3 by omega,show off+37+8+8+8=o3 by omega]at hr10;rw[<-hk]at HSt HRb;have hrc:=hr10.1.cell 0;simp only[zI]at hrc;have HR10:=qA hr10;have HK:=qA (zH hk (zH hc3 ho3));clear HN3 HF9 hr10 hf10 hR2 hk hc3 ho3 hwn;by_cases hag:av<gv
        · have d1 : decide ((av : Int) < gv) = true := qG (by omega)
          have d2:decide (av<gv)=true:=qG hag;rw[qD (.inl hag)]at HSt;go_wp2_with fail
          go_ret2;rw[HSt.out];exact⟨rfl,HW5.out.fr0 HF10.out⟩
        · have d1 : decide ((av : Int) < gv) = false := qF (by omega)
          have d2:decide (av<gv)=false:=qF hag;obtain⟨cnt,hcnt⟩:∃cnt,cnt=av-gv:=⟨_,rfl⟩;have hws:IntKind.u64.wrap ((av:Int)-gv)=(cnt:Int):=by rw[IntKind.wrap_u64];omega
          rw[<-hcnt]at HSt;have hcb:cnt<18446744073709551616:=by omega
          have HCn:=qA hcnt;clear hcnt;obtain⟨q,hq⟩:∃q,q=k/32:=⟨_,rfl⟩;have hkb:k<=1073741824:=by have:=HK.out.1;have:=HC.out;omega
          have hw7:=aFH (q:=q) (by omega);have HKd:=qA (aOT hkb hq);rw[<-hq]at HSt;by_cases hm:k%32=0
          · have hm' : (k : Int) % 32 = 0 := by omega
            have hkq:k=32*q:=by omega
            have HKq:=qA (zH hkq hkb);clear hq hkb hkq;by_cases hqc:q=cnt
            · subst hqc
              have hx:((q:Int) != (q:Int))=false:=by simp
              rw[qC (by omega)]at HSt;have hFw:=HF5.out.trans' HF10.out;have hr5:=(HB.out.1.drop 5).fr hFw;have hb5:=HB.out.2.1.drop 5;have hl5:(B.drop 5).length=m-5:=by rw[List.length_drop,HB.out.2.2]
              have hLC:fH w10:=HL.out.fr (HW5.out.fr0 HF10.out).frm (by simp);have hv8:∀i,i+8<=32->aF (sub (B.drop 5) i 8)<18446744073709551616:=fun i hi=>by
                have h1:=fY (mD hb5 i 8);rw[mC (by rw[hl5];omega)]at h1;exact h1
              have h0:=gN _ (hv8 0 (by omega));have h1:=gN _ (hv8 8 (by omega));have h2:=gN _ (hv8 16 (by omega));have h3:=gN _ (hv8 24 (by omega));have hgo:=aRS (cap:=cap-5) hr5 hb5 hl5 (by omega) (by omega) hLC;have hgn:=aRT (cap:=cap-5) hr5 hb5 hl5 (by omega) (by omega) hLC;generalize bG (aF (sub (B.drop 5) 0 8))=m0 at *;generalize bG (aF (sub (B.drop 5) 8 8))=E0 at *;generalize bG (aF (sub (B.drop 5) 16 8))=V0 at *;generalize bG (aF (sub (B.drop 5) 24 8))=D0 at *;clear hFw hr5 hb5 hl5 hLC hv8;cases hcf:mM m0 E0 V0 D0 with
              | false=>
                have HG:=qA (hgn (aHM hcf));rw[aFG (.inr (.inl hcf))]at HSt;clear hgo hgn hcf;have hkd:=HKd.out;go_wp2_with fail
                clear hkd;refine HG.out.mono ?_;rintro _ w11 ⟨rfl,hF⟩;have HF11:=qA (HF10.out.trans' hF);clear hF;go_wp2_with fail
                go_ret2;rw[HSt.out];exact⟨rfl,HW5.out.fr0 (HF11.out.alloc _)⟩
              | true=>
                have HG:=qA (hgo (wI hcf));have HCf:=qA hcf;have hcc:=gZ.1 hcf;clear hgo hgn hcf;obtain⟨E,rfl⟩:=Int.eq_ofNat_of_zero_le (show 0<=E0 by omega);have hwE:=aFH (q:=E) (by omega);by_cases hqE:E<q
                · rw [aFG (.inr (.inr (.inl (by rw [iA]; omega))))] at HSt
                  have g1:decide ((q:Int)>E)=true:=qG (by omega);have g2:decide (E<q)=true:=qG hqE;have hkd:=HKd.out;go_wp2_with fail
                  clear hkd;refine HG.out.mono ?_;rintro _ w11 ⟨rfl,hF⟩;have HF11:=qA (HF10.out.trans' hF);clear hF;have hbk:=Blk.new w11 [.int .i64 m0,.int .i64 E,.int .i64 V0,.int .i64 D0] 31;have r0:=hbk.cell 0;have r1:=hbk.cell 1;have r2:=hbk.cell 2;have r3:=hbk.cell 3;simp only[zI,zJ]at r0 r1 r2 r3;clear hbk;go_wp2_with fail
                  go_ret2;rw[HSt.out];exact⟨rfl,HW5.out.fr0 (HF11.out.alloc _)⟩
                · have g1 : decide ((q : Int) > E) = false := qF (by omega)
                  have g2:decide (E<q)=false:=qF hqE;have hq0:q<=16384:=by omega
                  have hmk:=fun w' =>vE q w' hq0;have hkd:=HKd.out;go_wp2_with fail
                  clear hkd;refine HG.out.mono ?_;rintro _ w11 ⟨rfl,hF⟩;have HF11:=qA (HF10.out.trans' hF);have hbk:=Blk.new w11 [.int .i64 m0,.int .i64 E,.int .i64 V0,.int .i64 D0] 31;have r0:=hbk.cell 0;have r1:=hbk.cell 1;have r2:=hbk.cell 2;have r3:=hbk.cell 3;simp only[zI,zJ]at r0 r1 r2 r3;have hrl:=HRb.out.2;have hkq:=HKq.out.1
                  have HP0:Hid (Fr [] w7 ((w11.alloc (.cells #[.int .i64 m0,.int .i64 E,.int .i64 V0,.int .i64 D0] 31)).alloc (.cells (lO q) 72)) /\
                      Blk ((w11.alloc (.cells #[.int .i64 m0,.int .i64 E,.int .i64 V0,.int .i64 D0] 31)).alloc (.cells (lO q) 72)) (w11.heap.size+1) 72 (eE (cQ 0 R)++lN (q-0)) /\
                      Rst ((w11.alloc (.cells #[.int .i64 m0,.int .i64 E,.int .i64 V0,.int .i64 D0] 31)).alloc (.cells (lO q) 72)) w7.heap.size b (o3+32*0) (32*q-32*0) (c3-32*0) (R.drop (32*0)) /\
                      Blk ((w11.alloc (.cells #[.int .i64 m0,.int .i64 E,.int .i64 V0,.int .i64 D0] 31)).alloc (.cells (lO q) 72)) w11.heap.size 31 [.int .i64 m0,.int .i64 E,.int .i64 V0,.int .i64 D0]):=qA (by
                    have hF2:Fr [] w11 ((w11.alloc (.cells #[.int .i64 m0,.int .i64 E,.int .i64 V0,.int .i64 D0] 31)).alloc (.cells (lO q) 72)):=((Fr.refl [] w11).alloc _).alloc _;refine⟨HF11.out.trans' hF2,?_,?_,((Fr.refl [] _).alloc _).blk hbk (by simp)⟩
                    · have k1 := aLN (w11.alloc (.cells #[.int .i64 m0, .int .i64 E, .int .i64 V0, .int .i64 D0] 31)) q
                      rw[World.size_alloc]at k1;exact k1
                    · have k2 := HR10.out.fr (hF.trans' hF2) (by simp) (by simp)
                      rw[hkq]at k2;exact k2)
                  have hrb:w7.heap.size<w11.heap.size:=by
                    have e1:=HR10.out.1.lt;have e2:=hF.size;omega
                  have hbw:b<w11.heap.size:=by
                    have e1:=HF5.out.size;have e2:=HF11.out.size;have e3:=HC.out;omega
                  clear hbk hF HG;go_wp2_with fail
                  clear r0 r1 r2 r3;go_loopw [14,93] (fun c1 c2 wr=>∃i:Nat,i<=q/\c2=.int .i64 i/\Hid (Fr [] w7 wr/\Blk wr (w11.heap.size+1) 72 (eE (cQ i R)++lN (q-i))/\Rst wr w7.heap.size b (o3+32*i) (32*q-32*i) (c3-32*i) (R.drop (32*i))/\Blk wr w11.heap.size 31 [.int .i64 m0,.int .i64 E,.int .i64 V0,.int .i64 D0])) (fun _ c _=>q-(intOf c).toNat)
                  case atStart=>exact⟨0,by omega,rfl,HP0⟩
                  case round=>
                    clear HP0;obtain⟨i,hi,rfl,HP⟩:=hrel;rename World=>wr
                    by_cases hlt:i<q
                    · have hi1 : (i : Int) < q := by omega
                      have hi0:(0:Int)<=i:=by omega
                      have hwi:IntKind.i64.wrap ((i:Int)+1)=((i+1:Nat):Int):=by rw[show(i:Int)+1=((i+1:Nat):Int) by omega];exact zF _ (by omega)
                      have hbd:=(HRb.out.1).drop (32*i);have b1:=fS hbd;have b2:=fS (hbd.drop 8);have b3:=fS ((hbd.drop 8).drop 8);have b4:=fS (((hbd.drop 8).drop 8).drop 8);have hsnoc:=rL i R;have hrl2:=iA i R;have hPr:=HP.out.2.2.1;have hz:q-i=(q-(i+1))+1:=by omega
                      have hS:=aLM (cQ i R) (q-(i+1)) (iK (R.drop (32*i)));have hA:=fun j hj=>aOS (cQ i R) (q-(i+1)) j hj;rw[<-hsnoc]at hS;simp only[iK]at hS;have hPb:=HP.out.2.1;rw[hz]at hPb;have hD:R.drop (32*(i+1))=(((((R.drop (32*i)).drop 8).drop 8).drop 8).drop 8):=by
                        simp only[List.drop_drop];congr 1
                      generalize eE (cQ i R)++lN (q-(i+1)+1)=S at *;rw[hrl2]at hS hA;have HSt2:=qA hS;have HD:=qA hD;have HPf:=qA (zH HP.out.1 HP.out.2.2.2);clear hsnoc hrl2 hbd hS hD HP;have hlen1:8<=32*q-32*i:=by omega
                      have z1:=nT hPr hlen1;obtain⟨v1,hv1⟩:∃v,v=aF ((R.drop (32*i)).take 8):=⟨_,rfl⟩;rw[<-hv1]at z1 b1;have HN1:=qA z1;clear z1 hPr;have HV1:=qA hv1;clear hv1;go_wp2_with fail
                      refine HN1.out.mono ?_;rintro _ w12 ⟨rfl,hr12,hf12⟩;clear HN1;have z1:=nT hr12 (by omega);obtain⟨v2,hv2⟩:∃v,v=aF (((R.drop (32*i)).drop 8).take 8):=⟨_,rfl⟩;rw[<-hv2]at z1 b2;have HN1:=qA z1;have HF12:=qA hf12;have HV2:=qA hv2;clear z1 hr12 hf12 hv2;go_wp2_with fail
                      refine HN1.out.mono ?_;rintro _ w13 ⟨rfl,hr13,hf13⟩;clear HN1;have hrq:w7.heap.size≠w11.heap.size+1:=by omega
                      have hbq:b≠w11.heap.size+1:=by omega
                      have hb13:=hf13.blk (HF12.out.blk hPb (by simp only[qH];omega)) (by simp only[qH];omega);have hb14:=(hb13.set (i*4) (.int .u64 (v1:Nat))).set (i*4+1) (.int .u64 (v2:Nat));have hF14:Fr [w11.heap.size+1] w13 ((w13.setCell ⟨w11.heap.size+1,i*4,none⟩ (.int .u64 (v1:Nat))).setCell ⟨w11.heap.size+1,i*4+1,none⟩ (.int .u64 (v2:Nat))):=((Fr.refl _ _).setCell _ _ (.inl (by simp))).setCell _ _ (.inl (by simp));have hr14:=hr13.fr hF14 (by simpa using hrq) (by simpa using hbq);have k0:=(hb13.cell (i*4+0)).trans (hA 0 (by decide));have k1:=(hb13.cell (i*4+1)).trans (hA 1 (by decide));have z0:=hb13.frozen (i*4);have z1:=hb13.frozen (i*4+1);simp only[zI,zJ,Nat.add_zero]at k0 k1;have HB14:=qA hb14;have HF13:=qA (HF12.out.trans hf13 (fun q hq=>.inl (by simpa using hq)));have HF14:=qA hF14;have n1:=nT hr14 (by omega);obtain⟨v3,hv3⟩:∃v,v=aF ((((R.drop (32*i)).drop 8).drop 8).take 8):=⟨_,rfl⟩;rw[<-hv3]at n1 b3;have hwz:=jF b3;obtain⟨y3,hy3⟩:∃y,y=bG v3:=⟨_,rfl⟩;rw[<-hy3]at hwz;have HN1:=qA n1;have HV3:=qA (zH hv3 hy3);clear n1 hv3 hy3 hr13 hr14 hf13 hF14 hb13 hb14 hPb HF12;go_wp2_with fail
                      refine HN1.out.mono ?_;rintro _ w15 ⟨rfl,hr15,hf15⟩;clear HN1 k0 k1 z0 z1;have n1:=nT hr15 (by omega);obtain⟨v4,hv4⟩:∃v,v=aF (((((R.drop (32*i)).drop 8).drop 8).drop 8).take 8):=⟨_,rfl⟩;rw[<-hv4]at n1 b4;have hwz4:=jF b4;obtain⟨y4,hy4⟩:∃y,y=bG v4:=⟨_,rfl⟩;rw[<-hy4]at hwz4;have HN1:=qA n1;have HV4:=qA (zH hv4 hy4);have HF15:=qA hf15;clear n1 hv4 hy4 hr15 hf15;go_wp2_with fail
                      refine HN1.out.mono ?_;rintro _ w16 ⟨rfl,hr16,hf16⟩;clear HN1;have hb16:=hf16.blk (HF15.out.blk HB14.out (by simp only[qH];omega)) (by simp only[qH];omega);have hb17:=(hb16.set (i*4+2) (.int .i64 y3)).set (i*4+3) (.int .i64 y4);have hF17:Fr [w11.heap.size+1] w16 ((w16.setCell ⟨w11.heap.size+1,i*4+2,none⟩ (.int .i64 y3)).setCell ⟨w11.heap.size+1,i*4+3,none⟩ (.int .i64 y4)):=((Fr.refl _ _).setCell _ _ (.inl (by simp))).setCell _ _ (.inl (by simp));have hr17:=hr16.fr hF17 (by simpa using hrq) (by simpa using hbq);have hset:∀j,1<j->j<4->((S.set (i*4) (.int .u64 (v1:Nat))).set (i*4+1) (.int .u64 (v2:Nat)))[i*4+j]? =([.int .u64 0,.int .u64 0,.int .i64 0,.int .i64 0]:List Value)[j]? :=fun j h1 h4=>by
                        rw[List.getElem?_set_ne (by omega),List.getElem?_set_ne (by omega)];exact hA j h4
                      have k2:=(hb16.cell (i*4+2)).trans (hset 2 (by decide) (by decide));have k3:=(hb16.cell (i*4+3)).trans (hset 3 (by decide) (by decide));have z2:=hb16.frozen (i*4+2);have z3:=hb16.frozen (i*4+3);simp only[zI,zJ]at k2 k3;have HNew:=qA (show Fr [] w7 ((w16.setCell ⟨w11.heap.size+1,i*4+2,none⟩ (.int .i64 y3)).setCell ⟨w11.heap.size+1,i*4+3,none⟩ (.int .i64 y4))/\Blk ((w16.setCell ⟨w11.heap.size+1,i*4+2,none⟩ (.int .i64 y3)).setCell ⟨w11.heap.size+1,i*4+3,none⟩ (.int .i64 y4)) (w11.heap.size+1) 72 (eE (cQ (i+1) R)++lN (q-(i+1)))/\Rst ((w16.setCell ⟨w11.heap.size+1,i*4+2,none⟩ (.int .i64 y3)).setCell ⟨w11.heap.size+1,i*4+3,none⟩ (.int .i64 y4)) w7.heap.size b (o3+32*(i+1)) (32*q-32*(i+1)) (c3-32*(i+1)) (R.drop (32*(i+1)))/\Blk ((w16.setCell ⟨w11.heap.size+1,i*4+2,none⟩ (.int .i64 y3)).setCell ⟨w11.heap.size+1,i*4+3,none⟩ (.int .i64 y4)) w11.heap.size 31 [.int .i64 m0,.int .i64 E,.int .i64 V0,.int .i64 D0] from by
                        have hF:=(((((HPf.out.1.trans HF13.out (fun x hx=>.inr (by simp only[qH]at hx;omega))).trans HF14.out (fun x hx=>.inr (by simp only[qH]at hx;omega))).trans HF15.out (fun x hx=>.inr (by simp only[qH]at hx;omega))).trans hf16 (fun x hx=>.inr (by simp only[qH]at hx;omega))).trans hF17 (fun x hx=>.inr (by simp only[qH]at hx;omega)));refine⟨hF,?_,?_,hF17.blk (hf16.blk (HF15.out.blk (HF14.out.blk (HF13.out.blk HPf.out.2 ?_) ?_) ?_) ?_) ?_⟩
                        · rw [<- HSt2.out, <- HV1.out, <- HV2.out, <- HV3.out.1, <- HV3.out.2, <- HV4.out.1, <- HV4.out.2]
                          exact hb17
                        · rw [HD.out, show o3 + 32 * (i + 1) = o3 + 32 * i + 8 + 8 + 8 + 8 by omega, show 32 * q - 32 * (i + 1) = 32 * q - 32 * i - 8 - 8 - 8 - 8 by omega, show c3 - 32 * (i + 1) = c3 - 32 * i - 8 - 8 - 8 - 8 by omega]
                          exact hr17
                        all_goals (simp only[qH];omega))
                      clear hb16 hb17 hF17 hr17 hset hr16 hf16 HB14 HF13 HF14 HF15 HPf HSt2 HD;go_wp2_with fail
                      go_roundw
                      case rel=>exact⟨i+1,by omega,by go_num,HNew⟩
                      case measure=>simp[intOf];omega
                    · obtain rfl : i = q := by omega
                      have hb:=HP.out.2.1;rw[Nat.sub_self,show lN 0=[] from rfl,List.append_nil]at hb;have hbc:=HP.out.2.2.2;have r0:=hbc.cell 0;have r1:=hbc.cell 1;have r2:=hbc.cell 2;have r3:=hbc.cell 3;simp only[zI,zJ]at r0 r1 r2 r3;have hres:=aRP (HW5.out.fr0 HP.out.1) m0 E V0 D0 nz gv (some ⟨w11.heap.size+1,0,none⟩) i (cQ i R) b3 hnz.1 hnz.2 h0.2 (by rw[iA];omega) (aRU hb) (fun r hr=>by
                        have k:=uF i HRb.out.1 r hr;exact⟨k.1,k.2.1,k.2.2.2⟩)
                      rw[iA]at hres;have HRes:=qA hres;clear hres hb hbc HP;go_wp2_with fail
                      refine HRes.out.mono ?_;intro e w17 hre;cases hR:kG m0 E V0 D0 nz gv (cQ i R) with
                      | none=>
                        rw[hR]at hre HSt;obtain⟨rfl,hW⟩:=hre;clear hR;go_wp2_with fail
                        go_ret2;rw[HSt.out];exact⟨rfl,hW⟩
                      | some o=>
                        rw[hR]at hre HSt;obtain⟨p,rfl,hW⟩:=hre;clear hR;go_wp2_with fail
                        go_ret2;rw[HSt.out];exact⟨p,rfl,hW⟩
            · have hx : ((q : Int) != (cnt : Int)) = true := by simp; omega
              have hx2:(q != cnt)=true:=by simp;omega
              rw[qD (.inr (.inr hqc))]at HSt;have hkd:=HKd.out;go_wp2_with fail
              go_ret2;rw[HSt.out];exact⟨rfl,HW5.out.fr0 HF10.out⟩
          · have hm' : ¬ (k : Int) % 32 = 0 := by omega
            clear hq;rw[qD (.inr (.inl hm))]at HSt;have hkd:=HKd.out;go_wp2_with fail
            go_ret2;rw[HSt.out];exact⟨rfl,HW5.out.fr0 HF10.out⟩
      · have f1 : ((s1 : Int) != (s2 : Int)) = true := by simp; omega
        have f2:(s1 != s2)=true:=by simp[hs]
        have HSt:Hid (cB l=_):=qA (HSt.out.trans (qD hs));go_wp2_with fail
        go_ret2;rw[HSt.out];exact⟨rfl,HW5.out⟩
theorem gU(x:Int):IntKind.u64.wrap x=((aQ x:Nat):Int):=by rw[IntKind.wrap_u64];unfold aQ;omega
theorem aHS{o:Ob}{l:List Lv}(h:aPJ o l):l.map lvR=o.L.map lvR:=by
 rw[<-h.1,List.map_map];rfl
theorem aDP(l:List R4)(r:R4):cA (l++[r])=cA l++vC r:=by unfold cA;rw[List.flatMap_append];simp
theorem yN{W w:World}{ts:List Th}{p:Nat}{o:Ob}(h:Wd W w (thO p o::ts))(hL:fH W)(hp:o.Pc):
    Calls Tryz.prog 19 #[eO p] w fun e w' =>∃v,e=.returned (.tuple #[v,.int .i64 0])/\Wd W w' (thY v o.img::thO p o::ts):=by
 have hok:=h.ob;have hle:=hok.leE;have hE:=hok.mE;have HO:=qA hok;have HW:=qA h;have HL:=qA hL;have HP:=qA hp;have hn0:=gU o.now;clear h hL hp hok;go_enter Tryz.func19,Tryz.ntmps19
 go_wp2_with fail
 refine(wG HW.out).mono ?_;rintro _ w1 ⟨rfl,hF⟩;have HW1:=qA (HW.out.fr0 hF);clear hF HW;go_wp2_with fail
 refine(put_ok (HL.out.fr HW1.out.frm (by simp)) o.m o.E o.V o.D HO.out.m2 HP.out.cf).mono ?_;rintro _ w2 ⟨sv,rfl,hv,hn,hF⟩;have HW2:=qA (HW1.out.new (t:=thY sv (fI o.m o.E o.V o.D)) hF ⟨hv,rfl⟩ (fun q hq=>hn q (by simpa using hq)));clear hF hn HW1;obtain⟨sb,sc,rfl,_⟩:=hv.at (i:=0) (by rw[aA];decide);rw[aA];clear hv;go_wp2_with fail
 refine(aLF _).mono ?_;rintro _ w4 ⟨rfl,hF⟩;have hF4:=hF.alloc (.cells #[.int .u8 83,.int .u8 69,.int .u8 69,.int .u8 80,.int .u8 1] 91);have HW4:=qA (HW2.out.fr0 hF4);have hb:=Blk.new w4 [.int .u8 83,.int .u8 69,.int .u8 69,.int .u8 80,.int .u8 1] 91;have HC1:=qA (show ∀j u,(bM kC)[j]? =some u->(w4.alloc (.cells #[.int .u8 83,.int .u8 69,.int .u8 69,.int .u8 80,.int .u8 1] 91)).cell? ((⟨w4.heap.size,0,none⟩:Addr).add j)=some u from fun j u hj=>by
   rw[Addr.add_lit,Nat.zero_add,hb.cell j];exact hj)
 have HC2:=qA (HW4.out.rowB.rd.cells);clear hF hF4 hb HW2;go_wp2_with (first|(at_builtin;refine aBM rfl (.tmp 25) (.tmp 26) 22 rfl 5 (.int .u8 0) 1 Tryz.underlying22 Tryz.info5 rfl ⟨w4.heap.size,0,none⟩ 5 5 (bM kC) rfl rfl HC1.out ⟨sb,0,none⟩ 32 sc (bM (fI o.m o.E o.V o.D)) rfl (by rw[yR,aA]) HC2.out (by decide) (by decide) (by decide) ?_;intro v5 w5 hown hnew hF5)|fail)
 have HW5:=qA (HW4.out.drop.new (t:=thY v5 (kC++fI o.m o.E o.V o.D)) hF5 ⟨by unfold eC;rw[zE,aA,sI];exact hown,rfl⟩ (fun q hq=>hnew q (by simpa using hq)));clear HC1 HC2 HW4 hown hnew hF5;generalize hB0:kC++fI o.m o.E o.V o.D=B0 at *;have HB0:=qA hB0;have hl0:B0.length=37:=by rw[<-hB0,zE,aA];rfl
 clear hB0;have HA:=qA (aBF HW5.out.swap);go_wp2_with fail
 refine HA.out.mono ?_;rintro _ w6 ⟨rfl,hF⟩;have HW6:=qA (HW5.out.fr0 hF);clear hF HA HW5;have HN:=qA (aDG HW6.out.swap);go_wp2_with fail
 refine HN.out.mono ?_;rintro _ w7 ⟨rfl,rfl⟩;clear HN;have hlt:=HW6.out.rowB;have HPt:=qA (aDM (nb:=w7.heap.size) (ns:=[aQ o.now,o.last,o.gone]) (sz:=8) (cn:=3) (HW6.out.fr0 ((Fr.refl [] w7).alloc (.cells #[.int .u64 (aQ o.now:Nat),.int .u64 (o.last:Nat),.int .u64 (o.gone:Nat)] 36))) (Blk.new w7 [.int .u64 (aQ o.now:Nat),.int .u64 (o.last:Nat),.int .u64 (o.gone:Nat)] 36) (fun e=>by have:=hlt.lt e;omega) (by decide) (by rw[hl0];simp));clear hlt;go_wp2_with fail
 refine HPt.out.mono ?_;rintro _ w8 ⟨v8,rfl,hW⟩;have HW8:=qA hW;clear hW HPt HW6;generalize hB1:B0++[aQ o.now,o.last,o.gone].flatMap (beN 8)=B1 at *;have hl1:B1.length=61:=by rw[<-hB1,zE,hl0];simp[aM]
 have HB1:=qA hB1;clear hB1 hl0;have HV:=qA (aFD HW8.out.swap);go_wp2_with fail
 refine HV.out.mono ?_;rintro _ w9 ⟨lv,l,rfl,hlv,hW⟩;clear HV HW8;obtain⟨la,lc,rfl⟩:=hW.rowV.slice;have hll:l.length=o.L.length:=by rw[<-hlv.1,List.length_map]
 have hl2:l.length<=16384:=by omega
 have HW9:=qA (show Wd W w9 (thY v8 (B1++cA ((l.take 0).map lvR))::thV (.slice la l.length lc) l::thO p o::ts) from by
   have:=hW.third;simpa[cA] using this)
 have HLv:=qA (zH hlv hll);clear hW hlv hll;go_wp2_with fail
 go_loopw [7,44] (fun c1 c2 wr=>∃i:Nat,i<=l.length/\Hid (Wd W wr (thY c1 (B1++cA ((l.take i).map lvR))::thV (.slice la l.length lc) l::thO p o::ts))/\c2=.int .i64 i) (fun _ c _=>l.length-(intOf c).toNat)
 case atStart=>exact⟨0,by omega,HW9,rfl⟩
 case round=>
  clear HW9;obtain⟨i,hi,HWr,rfl⟩:=hrel;rename_i bv wr;by_cases hlt:i<l.length
  {
  have hi1:(i:Int)<l.length:=by omega
  have hi0:(0:Int)<=i:=by omega
  have hw1:IntKind.i64.wrap ((i:Int)+1)=((i+1:Nat):Int):=by rw[show(i:Int)+1=((i+1:Nat):Int) by omega];exact zF _ (by omega)
  obtain⟨b1,c1', e1,_,_,_,r1⟩:=HWr.out.swap.rowV.at hlt;simp only[qO,true_and]at e1;obtain⟨rfl,rfl⟩:=e1;have hrec:(B1++cA ((l.take (i+1)).map lvR))=B1++cA ((l.take i).map lvR)++[(l[i]'hlt).u,(l[i]'hlt).v,aQ (l[i]'hlt).wt,aQ (l[i]'hlt).t].flatMap (beN 8):=by {
  have htk:l.take (i+1)=l.take i++[l[i]'hlt]:=by rw[List.take_add_one,qK hlt];rfl
  rw[htk,List.map_append,List.map_cons,List.map_nil,aDP,List.append_assoc];simp[vC,lvR]};have hlen:(B1++cA ((l.take i).map lvR)).length=61+32*i:=by rw[zE,hl1,wH,List.length_map,List.length_take,Nat.min_eq_left (Nat.le_of_lt hlt)]
  generalize l[i]'hlt=x at *;unfold aGF at r1;obtain⟨x0,x1,x2,x3,x4,x5,x6⟩:=r1;have hwt:=gU x.wt;have ht:=gU x.t;obtain⟨W1,hW1⟩:∃W1,wr.alloc (.cells (lvC x).toArray 74)=W1:=⟨_,rfl⟩;have hs1:W1.heap.size=wr.heap.size+1:=by rw[<-hW1];simp
  have hF1:Fr [] wr W1:=by rw[<-hW1];exact(Fr.refl [] wr).alloc _
  have hbl:=Blk.new W1 [.int .u64 (x.u:Nat),.int .u64 (x.v:Nat),.int .u64 (aQ x.wt:Nat),.int .u64 (aQ x.t:Nat)] 36;rw[hs1]at hbl;have HPt:=qA (aDM (nb:=wr.heap.size+1) (ns:=[x.u,x.v,aQ x.wt,aQ x.t]) (sz:=8) (cn:=4) (HWr.out.fr0 (hF1.alloc (.cells #[.int .u64 (x.u:Nat),.int .u64 (x.v:Nat),.int .u64 (aQ x.wt:Nat),.int .u64 (aQ x.t:Nat)] 36))) hbl (fun e=>by have:=HWr.out.rowB.lt e;omega) (by decide) (by rw[hlen];simp;omega));rw[<-hrec]at HPt;rw[<-hW1]at HPt;have HR:=qA hlen;clear hbl hF1 hs1 hW1 hlen hrec HWr;go_wp2_with fail
  refine HPt.out.mono ?_;rintro _ w8 ⟨v9,rfl,hW⟩;have HWn:=qA hW;clear hW HPt x0 x1 x2 x3 x4 x5 x6;go_wp2_with fail
  go_roundw
  case rel=>exact⟨i+1,by omega,HWn,by go_num⟩
  case measure=>simp[intOf];omega}
  {
  obtain rfl:i=l.length:=by omega
  have hbody:B1++cA ((l.take l.length).map lvR)=cK o.m o.E o.V o.D o.now o.last o.gone (o.L.map lvR):=by {
  rw[List.take_length,aHS HLv.out.1,<-HB1.out,<-HB0.out];unfold cK kD;simp};have himg:o.img=cK o.m o.E o.V o.D o.now o.last o.gone (o.L.map lvR)++beN 4 (crc (cK o.m o.E o.V o.D o.now o.last o.gone (o.L.map lvR))):=rfl;have hbyt:Byt (cK o.m o.E o.V o.D o.now o.last o.gone (o.L.map lvR)):=gS _ _ _ _ _ _ _ _;have hbl:(cK o.m o.E o.V o.D o.now o.last o.gone (o.L.map lvR)).length=61+32*o.L.length:=by rw[gR,List.length_map]
  have HX:=HWr.out;rw[hbody]at HX;generalize cK o.m o.E o.V o.D o.now o.last o.gone (o.L.map lvR)=B at *;have hcl:=mY hbyt;have HS:=qA (aRQ HX hbyt (by omega));have HIm:=qA himg;generalize crc B=c at *;have hcw:IntKind.u64.wrap (c:Int)=c:=by rw[IntKind.wrap_u64];omega
  have HPt:=qA (aDM (nb:=wr.heap.size) (ns:=[c]) (sz:=4) (cn:=1) (HX.fr0 ((Fr.refl [] wr).alloc (.cells #[.int .u64 (c:Nat)] 36))) (Blk.new wr [.int .u64 (c:Nat)] 36) (fun e=>by have:=HX.rowB.lt e;omega) (by decide) (by rw[hbl];simp;omega));clear HX hbody himg hbyt hbl HWr;go_wp2_with fail
  refine HS.out.mono ?_;rintro _ w8 ⟨rfl,rfl⟩;go_wp2_with fail
  refine HPt.out.mono ?_;rintro _ w9 ⟨v9,rfl,hW⟩;have HWn:=qA hW;clear hW HPt;go_wp2
  go_ret2;refine⟨v9,rfl,?_⟩;rw[HIm.out];have h1:=HWn.out;rw[show B++[c].flatMap (beN 4)=B++beN 4 c by simp]at h1;exact h1.drop2}
def mN:List Nat:=uE (cK 10 2 2 0 0 0 0 [])
theorem cO:mN.length=65:=by decide +kernel
theorem uG:Byt mN:=aBI (gS _ _ _ _ _ _ _ _)
theorem aHT:mN.take 5=[83,69,69,80,1]:=by decide +kernel
theorem aOU:(cB mN).1=0:=by
 have h:=aBL (m:=10) (E:=2) (V:=2) (D:=0) (now:=0) (a:=0) (g:=0) (l:=[]) (by decide) (by decide) (by decide) (by decide) (by decide) (by decide) (by decide) (fun x hx=>by cases hx) rfl;unfold mN;rw[h];decide +kernel
theorem aHU:(cB (mN.set 64 (mN[64]'(by rw[cO];decide) ^^^ 1))).1=17:=by decide +kernel
theorem aHV:(cB ((mN.set 64 (mN[64]'(by rw[cO];decide) ^^^ 1)).set 4 2)).1=15:=by decide +kernel
theorem aLP:(cB []).1=15:=by decide +kernel
theorem aLQ:crc [49,50,51,52,53,54,55,56,57]=3421780262:=by decide +kernel
theorem aOV:crc []=0:=by decide +kernel
section
variable {W w:World} {ts:List Th} {a:Option Addr} {l:List Nat} {n cap:Nat} {v:Value}
theorem oZ(h:Wd W w ts)(hL:fH W)(hr:RdB w a l)(hb:Byt l)(hn:l.length=n)(hl:n<=1073741824)(hc:n<=cap):
    Calls Tryz.prog 23 #[.slice a n cap] w fun e w' =>e=.returned (.int .i64 (cB l).1)/\Wd W w' ts:=by
 have HD:=qA (yM h hL hr hb hn hl hc);clear h hL hr hb hn hl hc;go_enter Tryz.func23,Tryz.ntmps23
 go_wp2_with fail
 refine HD.out.mono ?_;intro e w1 hD;clear HD;unfold LdE at hD;obtain⟨R,hR⟩:∃R,R=cB l:=⟨_,rfl⟩;rw[<-hR]at hD;have HR:=qA hR;clear hR;obtain⟨c,o⟩:=R;cases o with
 | none=>{
 obtain⟨rfl,hW⟩:=hD;have HW:=qA hW;clear hW;go_wp2_with fail
 go_ret;rw[<-HR.out];exact⟨rfl,HW.out⟩}
 | some o=>{
 obtain⟨p,rfl,hW⟩:=hD;have HW:=qA hW;clear hW;go_wp2_with fail
 go_ret;rw[<-HR.out];exact⟨rfl,HW.out.drop⟩}
theorem eC.set{g:Nat}(h:eC w (.slice (some ⟨g,0,none⟩) l.length cap) l){i:Nat}(hi:i<l.length)(x:Nat):eC (w.setCell ⟨g,i,none⟩ (.int .u8 (x:Int))) (.slice (some ⟨g,0,none⟩) l.length cap) (l.set i x):=by
 unfold eC;rw[List.length_set,show bM (l.set i x)=(bM l).set i (.int .u8 (x:Int)) by unfold bM;rw[List.map_set]];exact iD h hi _
theorem Wd.setB{g:Nat}(h:Wd W w (thY (.slice (some ⟨g,0,none⟩) l.length cap) l::ts)){i:Nat}(hi:i<l.length)(x:Nat):Wd W (w.setCell ⟨g,i,none⟩ (.int .u8 (x:Int))) (thY (.slice (some ⟨g,0,none⟩) l.length cap) (l.set i x)::ts):=by
 obtain⟨K,⟨hv,rfl⟩,hs⟩:=h.open;exact hs ⟨_,⟨hv.set hi x,rfl⟩,(Fr.refl _ _).setCell _ _ (.inl (by simp[Value.ownBlock])),fun q hq=>.inl hq⟩
theorem aDQ(h:Wd W w (thY v l::ts))(hL:fH W)(hb:Byt l)(hl:l.length<=1073741824):
    Calls Tryz.prog 23 #[v] w fun e w' =>e=.returned (.int .i64 (cB l).1)/\Wd W w' (thY v l::ts):=by
 have hr:=h.rowB;obtain⟨a,cap,rfl⟩:=hr.slice;have hc:l.length<=cap:=by {
 by_cases h0:0<l.length
 {
 obtain⟨b,c,e,hn,_⟩:=hr.at h0;simp only[qO,true_and]at e;omega}
 · omega};exact oZ h hL hr.rd hb rfl hl hc
end
theorem aRW{a b:Nat}(ha:a<256)(hb:b<256):a ^^^ b<256:=Nat.xor_lt_two_pow (n:=8) ha hb
theorem aDR{a b:Nat}(ha:a<256)(hb:b<256):Go.bits .xor .u8 (a:Int) (b:Int)=((a ^^^ b:Nat):Int):=by
 have ha' :a%2 ^ IntKind.u8.bits=a:=Nat.mod_eq_of_lt ha;have hb' :b%2 ^ IntKind.u8.bits=b:=Nat.mod_eq_of_lt hb;have k:(BitVec.ofNat IntKind.u8.bits a ^^^ BitVec.ofNat IntKind.u8.bits b).toNat=a ^^^ b:=by rw[BitVec.toNat_xor,BitVec.toNat_ofNat,BitVec.toNat_ofNat,ha', hb']
 simp only[Go.bits,BitVec.ofInt_natCast];rw[k,IntKind.wrap_u8];have:=aRW ha hb;omega
theorem Byt.set{l:List Nat}(h:Byt l){x:Nat}(hx:x<256){i:Nat}:Byt (l.set i x):=fun b hb=>by
 rcases List.mem_or_eq_of_mem_set hb with h1|rfl
 · exact h b h1
 · exact hx
theorem aLR:(Ob.new 10 2 2 0 0).img=mN:=by unfold Ob.img Ob.new mN;rfl
theorem aLS:strOfNums [83,69,69,80,1]={ data:=#[83,69,69,80,1] }:=by decide +kernel
def aDS:Array Value:=#[.int .u8 49,.int .u8 50,.int .u8 51,.int .u8 52,.int .u8 53,.int .u8 54,.int .u8 55,.int .u8 56,.int .u8 57]
theorem jG{W w:World}{ts:List Th}(h:Wd W w ts)(hL:fH W):Calls Tryz.prog 17 #[] w fun e w' =>e=.returned (.bool true)/\Wd W w' ts:=by
 have HL:=qA hL;have HN:=qA (aLB h 10 0 2 2 (by decide) (by decide) (by decide) (by decide) (by decide) (by decide) (by decide) (by decide));clear h hL;go_enter Tryz.func17,Tryz.ntmps17
 go_wp2_with fail
 refine HN.out.mono ?_;rintro _ w1 ⟨p,rfl,hW⟩;have hcv:=Go.Joins.run_convert_bytes_const_at (P:=Tryz.prog) w1 22 5 aDS 9 9 w1.heap.size rfl Tryz.underlying22 Tryz.underlying5;have hcell:=fun j=>Go.Joins.cell_alloc_mark_at w1 aDS 5 (9,10) w1.heap.size j rfl;have hF2:Fr [] w1 (w1.alloc (.cells aDS 5 (9,10))):=(Fr.refl [] w1).alloc _;have hrd:RdB (w1.alloc (.cells aDS 5 (9,10))) (some ⟨w1.heap.size,0,none⟩) [49,50,51,52,53,54,55,56,57]:=fun i hi=>by
   refine⟨w1.heap.size,0,rfl,by simp,?_⟩;rw[Nat.zero_add,hcell i];have:i=0∨i=1∨i=2∨i=3∨i=4∨i=5∨i=6∨i=7∨i=8:=by simp at hi;omega
   rcases this with rfl|rfl|rfl|rfl|rfl|rfl|rfl|rfl|rfl<;>rfl
 have hs9:=aBJ (cap:=9) hrd (by unfold Byt;decide) (by decide);rw[aLQ]at hs9;have hs0:=aBJ (w:=w1.alloc (.cells aDS 5 (9,10))) (a:=none) (l:=[]) (cap:=0) (fun i hi=>absurd hi (Nat.not_lt_zero _)) (fun b hb=>by cases hb) (by decide);rw[aOV]at hs0;have HS9:=qA hs9;have HS0:=qA hs0;have HW2:=qA (hW.fr0 hF2);have hn9:aDS.size=9:=rfl;rw[hn9]at hcv;clear HN hW hs9 hs0 hrd hcell hF2;unfold aDS at *;go_wp2_with fail
 refine HS9.out.mono ?_;rintro _ w2 ⟨rfl,rfl⟩;go_wp2_with fail
 refine HS0.out.mono ?_;rintro _ w2 ⟨rfl,rfl⟩;clear HS0 HS9 hcv;generalize w1.alloc (.cells #[.int .u8 49,.int .u8 50,.int .u8 51,.int .u8 52,.int .u8 53,.int .u8 54,.int .u8 55,.int .u8 56,.int .u8 57] 5 (9,10))=w2 at *;have HSv:=qA (yN HW2.out HL.out (aLJ (by decide)));rw[aLR]at HSv;go_wp2_with fail
 refine HSv.out.mono ?_;rintro _ w3 ⟨v,rfl,hW⟩;clear HSv HW2;have hr:=hW.rowB;have hW' :=hW.drop2;have hch:=aDQ hW' HL.out uG (by rw[cO];decide);rw[aOU]at hch;obtain⟨b,cap,rfl,hcap,_,hz,_⟩:=hr.at (i:=0) (by rw[cO];decide);rw[cO]at hcap;have h5:=hr.rd.take 5;rw[aHT]at h5;have cc:∀i (hi:i<5),w3.cell? ⟨b,0+i,none⟩=some (.int .u8 (([83,69,69,80,1]:List Int).getD i 0)):=fun i hi=>by
   obtain⟨b', off', e,_,hc⟩:=h5 i (by simpa using hi);simp only[qI,Addr.mk.injEq,and_true]at e;obtain⟨rfl,rfl⟩:=e;rw[hc];have:i=0∨i=1∨i=2∨i=3∨i=4:=by omega
   rcases this with rfl|rfl|rfl|rfl|rfl<;>rfl
 have hst:=run_convert_bytes_arg (P:=Tryz.prog) w3 22 5 Tryz.underlying22 Tryz.underlying5 b 0 5 cap [83,69,69,80,1] rfl cc 9 Tryz.underlying9;rw[aLS]at hst;have HCh:=qA hch;have HB:=qA (zH hr hcap);have HW3:=qA hW';rw[cO];rw[cO]at HCh;have e1:(5:Int)<=cap:=by omega
 have e2:¬cap=0:=by omega
 clear hch hr hW hW' h5 cc hz;go_wp2_with fail
 refine HCh.out.mono ?_;rintro _ w4 ⟨rfl,hW⟩;clear HCh hst e1 e2 HB HW3;obtain⟨b', cap', ev,_,_,hz,hc⟩:=hW.rowB.at (i:=64) (by rw[cO];decide);simp only[qO,qI,Addr.mk.injEq,and_true]at ev;obtain⟨rfl,hlen,rfl⟩:=ev;clear hlen;have hlx:=uG _ (List.getElem_mem (l:=mN) (n:=64) (by rw[cO];decide));have hL1:=aHU;have hL2:=aHV;generalize mN[64]'(by rw[cO];decide)=x at *;have hxy:Go.bits .xor .u8 (x:Int) 1=((x ^^^ 1:Nat):Int):=aDR hlx (show 1<256 by decide);have hy:=aRW hlx (show 1<256 by decide);generalize x ^^^ 1=y at *;have hW1:=Wd.setB (by rw[cO];exact hW) (i:=64) (by rw[cO];decide) y;have hb1:Byt (mN.set 64 y):=uG.set hy;have hch:=aDQ hW1 HL.out hb1 (by rw[List.length_set,cO];decide);rw[hL1]at hch;rw[cO]at hch;have HCh:=qA hch;have hz64:=hz 64;clear hch hW1 hW hL1;have HL2:=qA hL2;clear hL2;have HB1:=qA hb1;clear hb1 hz hlx hy;go_wp2_with fail
 refine HCh.out.mono ?_;rintro _ w5 ⟨rfl,hW⟩;clear HCh hc hz64 hxy;obtain⟨b', cap', ev,_,_,hz,hc⟩:=hW.rowB.at (i:=4) (by rw[List.length_set,cO];decide);simp only[qO,qI,Addr.mk.injEq,and_true]at ev;obtain⟨rfl,hlen,rfl⟩:=ev;clear hlen;have hle:(mN.set 64 y).length=65:=by rw[List.length_set,cO]
 have hW1:=Wd.setB (by rw[hle];exact hW) (i:=4) (by rw[hle];decide) 2;have hch:=aDQ hW1 HL.out (HB1.out.set (by decide)) (by rw[List.length_set,hle];decide);rw[HL2.out,hle]at hch;have HCh:=qA hch;have hz4:=hz 4;clear hch hW1 hW hle hz;generalize (mN.set 64 y)[4]'_=x4 at *;go_wp2_with fail
 refine HCh.out.mono ?_;rintro _ w6 ⟨rfl,hW⟩;clear HCh hc hz4;have hch:=oZ (a:=none) (l:=[]) (n:=0) (cap:=0) hW.drop HL.out (fun i hi=>absurd hi (Nat.not_lt_zero _)) (fun b hb=>by cases hb) rfl (by decide) (by decide);rw[aLP]at hch;have HCh:=qA hch;clear hch hW;go_wp2_with fail
 refine HCh.out.mono ?_;rintro _ w7 ⟨rfl,hW⟩;clear HCh;go_wp2
 go_ret;exact⟨rfl,hW⟩
theorem Ob.Pc.img_cnt{o:Ob}(h:o.Pc)(k:o.Ok):aF (sub o.img 45 8)=o.last/\aF (sub o.img 53 8)=o.gone:=by
 obtain⟨h1,h2,h3,h4,h5,h6,h7⟩:=h.ins k;have e:=aFF h1 h2 h3 h4 h5 h6 h7 (h.fit4 k) (beN 4 (crc (cK o.m o.E o.V o.D o.now o.last o.gone (o.L.map lvR)))) (aM 4 _);unfold aHO at e;simp only[zD]at e;exact⟨e.2.2.2.2.2.1,e.2.2.2.2.2.2.1⟩
end Go.Proofs.YtjdgpcjbgjnahaaGreatDoor
