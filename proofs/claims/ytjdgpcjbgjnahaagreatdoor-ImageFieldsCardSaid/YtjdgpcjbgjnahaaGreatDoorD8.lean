/- store: Insert, when it takes the edge. -/
import Derived.Deep.RegionHeld3
import Derived.Test.YtjdgpcjbgjnahaaGreatDoorD7
import Derived.Test.YtjdgpcjbgjnahaaGreatDoorD6
import Derived.Test.YtjdgpcjbgjnahaaGreatDoorD3
import Derived.Maps.RangeWalk
import Derived.Shelf.Sort.Plain
import Derived.Shelf.Lay
import Derived.Shelf.Small.Bits
import Derived.Ground.NamesProg
import Derived.Sort.OwnSortedInts
import Derived.Test.YtjdgpcjbgjnahaaGreatDoorD1
import Derived.Test.YtjdgpcjbgjnahaaGreatDoorD4
set_option maxRecDepth 10000
set_option maxHeartbeats 1600000
set_option linter.unusedSimpArgs false
set_option linter.unusedVariables false
/- forest: loosen and fasten. -/
namespace Go.Proofs.YtjdgpcjbgjnahaaGreatDoor
open Go.RowKit Classical
theorem lF{N a:Nat}(h:a<N):inV N (a:Int)=true:=by simp[inV];omega
section
variable {w w' :World} {pl g N:Nat} {E:Nat->Nat->Prop} {key:Nat->Int}
theorem aKE(h:LM w pl g N E key){a b:Nat}(ha:a<N)(hb:b<N)(he:E a b)(b' :Int)(hb' :b' =b):
    Calls Tryz.prog 198 #[.pointer (some ⟨pl,0,none⟩),.int .i64 a,.int .i64 b'] w fun e w' =>e=.returned (.int .i64 0)/\LM w' pl g N (iN E a b) key/\Fr [pl,g] w w' :=by
 subst hb';have h1:=aSU h a b;have e1:fU N E a b=0:=by unfold fU;rw[qD ⟨lF ha,lF hb⟩];simp[he]
 have e2:xQ N E a b=iN E a b:=by unfold xQ;rw[qD e1];rfl
 rw[e1,e2]at h1;exact h1
theorem link_ok' (h:LM w pl g N E key){a b:Nat}(ha:a<N)(hb:b<N)(hne:a≠b)(hc:¬bU E a b)(b' :Int)(hb' :b' =b):
    Calls Tryz.prog 214 #[.pointer (some ⟨pl,0,none⟩),.int .i64 a,.int .i64 b'] w fun e w' =>e=.returned (.int .i64 0)/\LM w' pl g N (dV E a b) key/\Fr [pl,g] w w' :=by
 subst hb';exact aNA h a b ha hb hne hc
end
section
variable {w w' :World} {pf pl g ph mb S V n:Nat} {G:cW} {T:Nat->Prop} {key:Nat->Int} {l:List Nat}
theorem aAO{s:Nat}{e:Nat×Nat×Int}{T' :Nat->Prop}{v:Value}(hg:G s=some e)(hv:v=edV e (decide (T' s)))(hT:∀t,t≠s->(T t↔T' t)):jM (fX G T) s (some v)=fX G T' :=by
 funext k
 by_cases hk:k=(s:Int)
 · subst hk;rw[cG,cU,hg,hv];rfl
 {
 rw[bK hk];unfold fX;by_cases h0:0<=k
 {
 have:k.toNat≠s:=by omega
 simp only[hT _ this]}
 · simp only[h0,if_false]}
theorem gD{s:Nat}(h:s<=100000):(Lit.int .i64 (s:Int)).wf=true:=by
 show(decide ((-9223372036854775808:Int)<=s)&&decide ((s:Int)<=9223372036854775807))=true
 simp;omega
theorem aAP(h:FB w pf pl g ph mb S V G T key n){m ma mz:Nat}{y:Int}(hg:G m=some (ma,mz,y))(ht:T m):
    Calls Tryz.prog 151 #[eM pf,.int .i64 m] w fun e w' =>e=.returned (.tuple #[])/\FB w' pf pl g ph mb S V G (fun t=>T t/\t≠m) key n/\Fr [pf,pl,g,mb] w w' :=by
 have hms:=h.gw.slot _ _ hg;have hen:=h.gw.ends _ _ _ _ hg;have hS:=h.leS;have hV:=h.leV;have hlt:=h.lt;have hcT:=vW hms ht;have hcle:=oQ S T;have hne:=zH h.ne1 (zH h.ne2 (zH h.ne3 (zH h.ne4 h.ne5)));have hl0:=h.edges.run_get (t:=150) (e:=184) (z:=edZ) Tryz.underlying3 Tryz.underlying150 (by kernel_rfl) rfl (gD (s:=m) (by omega));rw[cU,hg]at hl0;simp only[Option.map_some,Option.getD_some,ht,decide_true,edV]at hl0;have e1:TE S G T m (S+ma):=⟨m,ma,mz,y,hg,ht,.inl ⟨rfl,.inl rfl⟩⟩;have e2:iN (TE S G T) m (S+ma) m (S+mz):=⟨⟨m,ma,mz,y,hg,ht,.inl ⟨rfl,.inr rfl⟩⟩,by omega,by omega⟩;have c1:=(h.hd.alloc (.cells #[.int .i64 ma,.int .i64 mz,.int .i64 y,.bool true] 184)).cell 1;have c2:=(h.hd.alloc (.cells #[.int .i64 ma,.int .i64 mz,.int .i64 y,.bool true] 184)).cell 2;have c4:=h.hd.cell 4;simp only[zI,zJ]at c1 c2 c4;have hw1:IntKind.i64.wrap ((S:Int)+ma)=(S:Int)+ma:=zF _ (by omega);have hw2:IntKind.i64.wrap ((S:Int)+mz)=(S:Int)+mz:=zF _ (by omega);have hf0:Fr [] w (w.alloc (.cells #[.int .i64 ma,.int .i64 mz,.int .i64 y,.bool true] 184)):=(Fr.refl _ _).alloc _;have hb:=Blk.new w [.int .i64 ma,.int .i64 mz,.int .i64 y,.bool true] 184;have HC1:=qA (aKE (h.fr0 hf0.drew).lct (a:=m) (b:=S+ma) (by omega) (by omega) e1 ((S:Int)+ma) (by omega));have H:=qA h;have E2:=qA e2;have HB:=qA (zH hf0 hb);have HN:=qA (zH hne hlt);clear h e1 e2 hf0 hb hne hlt;have x0:=HB.out.2.cell 0;have x1:=HB.out.2.cell 1;simp only[zI,zJ]at x0 x1;go_enter Tryz.func151,Tryz.ntmps151
 go_wp2
 go_region_held3 (fun w' => w'.cell? ⟨pf, 1, none⟩ = some (.int .i64 S) /\ w'.cell? ⟨pf, 2, none⟩ = some (eM pl) /\ w'.cell? ⟨w.heap.size, 0, none⟩ = some (.int .i64 ma))
   (first
     | go_keep
     | (have N:=HN.out;exact⟨hF3.cell (by simp_all) (by simp;omega),hF3.cell (by simp_all) (by simp;omega),hF3.cell (by simp_all) (by simp;omega)⟩))
   (first
     | (go_at_call 198;refine HC1.out.mono ?_;rintro e w3 ⟨rfl,hL3,hF3⟩))
 have hlt3:=HN.out.2;have hpf3:Blk w3 pf _ _:=hF3.blk ((Fr.refl [] _).drew.blk (HB.out.1.blk H.out.hd (by simp)) (by simp)) (by have N:=HN.out;simp;omega);have hbx3:Blk w3 w.heap.size _ _:=hF3.blk ((Fr.refl [] _).drew.blk HB.out.2 (by simp)) (by simp;omega);have hF3' :Fr [pl,g] w w3:=(HB.out.1.drew.mono (S' :=[pl,g]) (by simp)).trans' hF3;have HC2:=qA (aKE (show LM w3.drew pl g (S+V) (iN (TE S G T) m (S+ma)) key from LG.fr hL3 (Fr.refl [] _).drew (by simp) (by simp)) (a:=m) (b:=S+mz) (by omega) (by omega) E2.out ((S:Int)+mz) (by omega));have d1:=hpf3.cell 1;have d2:=hpf3.cell 2;have y1:=hbx3.cell 1;simp only[zI,zJ]at d1 d2 y1;have HF3:=qA (zH hF3' (zH hpf3 hbx3));clear hF3' hpf3 hbx3 hF3 hL3 HC1 c1 c2 x0 x1;go_wp2
 go_region_held3 (fun w' => w'.cell? ⟨pf, 1, none⟩ = some (.int .i64 S) /\ w'.cell? ⟨pf, 2, none⟩ = some (eM pl) /\ w'.cell? ⟨w.heap.size, 1, none⟩ = some (.int .i64 mz))
   (first
     | go_keep
     | (have N:=HN.out;exact⟨hF4.cell (by simp_all) (by simp;omega),hF4.cell (by simp_all) (by simp;omega),hF4.cell (by simp_all) (by simp;omega)⟩))
   (first
     | (go_at_call 198;refine HC2.out.mono ?_;rintro e w4 ⟨rfl,hL4,hF4⟩))
 have hpf4:Blk w4 pf _ _:=hF4.blk ((Fr.refl [] _).drew.blk HF3.out.2.1 (by simp)) (by have N:=HN.out;simp;omega);have hbx4:Blk w4 w.heap.size _ _:=hF4.blk ((Fr.refl [] _).drew.blk HF3.out.2.2 (by simp)) (by simp;omega);have hF4' :Fr [pl,g] w w4:=(HF3.out.1.drew).trans' hF4;rw[aQG H.out.gw.slot hg]at hL4;have y3:=hbx4.cell 3;have z3:=hbx4.frozen 3;simp only[zI,zJ]at y3;have hbx5:=hbx4.set 3 (.bool false);have hpf5:=hpf4.other ⟨w.heap.size,3,none⟩ (.bool false) (by show pf≠w.heap.size;omega);have HL4:=qA (zH hL4 hF4');have HX5:=qA (zH hpf5 hbx5);clear hL4 hF4' hpf4 hbx4 hpf5 hbx5 hF4 HC2 d1 d2 y1;go_wp2
 have HS5:=qA (show Fr [w.heap.size] w4 (w4.setCell ⟨w.heap.size,3,none⟩ (.bool false)) from(Fr.refl _ _).setCell _ _ (.inl (by simp)));generalize w4.setCell ⟨w.heap.size,3,none⟩ (.bool false)=w5 at *;clear y3 z3;have hI5:cV Tryz.prog 3 .i64 okA w5 mb (fX G T) n:=H.out.edges.same (by
   rw[HS5.out.keep mb (by have:=HL4.out.2.size;omega) (by simp;omega),HL4.out.2.keep mb (by omega) (by have N:=HN.out;simp;omega)])
 have f4:=HX5.out.1.cell 4;have y0:=HX5.out.2.cell 0;have y1:=HX5.out.2.cell 1;have y2:=HX5.out.2.cell 2;have y3:=HX5.out.2.cell 3;simp only[qT,qX,zI,zJ]at f4 y0 y1 y2 y3;have HI5:=qA hI5;clear hI5;refine bE 6 (fun w' =>cV Tryz.prog 3 .i64 okA w' mb (fX G (fun t=>T t/\t≠m)) n/\Fr [mb] w5 w') (by kernel_rfl) (by kernel_rfl) (by kernel_rfl) ?_;iterate 6 (refine bN (by decide) (fun K hK=>?_);go_simp;refine hK _ ?_;clear hK K)
 refine aW rfl undef (fun w' hw' =>?_) ?_
 {
 obtain⟨nq,rfl⟩:=hw';obtain⟨w6,hrun,hI6,hF6⟩:=(HI5.out.same (w' :=w5.drewN nq) rfl).put (t:=150) (e:=184) Tryz.underlying3 Tryz.underlying150 (by rw[H.out.cn];unfold maxLen;have:=oQ S (fun s=>(G s).isSome=true);omega) (gD (s:=m) (by omega)) (v:=.agg #[.int .i64 ma,.int .i64 mz,.int .i64 y,.bool false]) rfl;rw[cU,hg,aAO (T' :=fun t=>T t/\t≠m) hg (by simp[edV]) (fun t ht=>by simp[ht])]at hI6;go_simp;exact⟨hI6,(((Fr.refl [mb] w5).drewN nq)).trans' hF6⟩};refine bO ?_;rintro w6 ⟨hI6,hF6⟩;have hpf6:=hF6.blk HX5.out.1 (by have N:=HN.out;simp;omega);rw[<-hcT]at hpf6;generalize hz:gM S (fun t=>T t/\t≠m)=z at *;have f5:w6.cell? ⟨pf,5,none⟩=some (.int .i64 ((z:Int)+1)):=hpf6.cell 5;have q5:=hpf6.frozen 5;have hw5:IntKind.i64.wrap ((z:Int)+1-1)=(z:Int):=by rw[show(z:Int)+1-1=z by omega];exact zF _ (by omega)
 have hpf7:=hpf6.set 5 (.int .i64 (z:Int));have HP7:=qA hpf7;have HI6:=qA (zH hI6 hF6);have HZ:=qA hz;clear hpf6 hpf7 hI6 hF6 hz f4 y0 y1 y2 y3;go_wp2
 go_end0
 have e7:(z:Int)+1-1=z:=by omega
 have hF7:Fr [pf] w6 (w6.setCell ⟨pf,5,none⟩ (.int .i64 (z:Int))):=(Fr.refl _ _).setCell _ _ (.inl (by simp));have N:=HN.out;have s4:=HL4.out.2.size;have hF47:Fr [w.heap.size,mb,pf] w4 (w6.setCell ⟨pf,5,none⟩ (.int .i64 (z:Int))):=
   ((HS5.out.mono (fun q hq=>.inl (by simp at hq ⊢;exact .inl hq))).trans' (HI6.out.2.mono (fun q hq=>.inl (by simp at hq ⊢;exact .inr (.inl hq))))).trans' (hF7.mono (fun q hq=>.inl (by simp at hq ⊢;exact .inr (.inr hq))))
 try rw[e7]
 refine⟨rfl,⟨?_,LG.fr HL4.out.1 hF47 (by simp;omega) (by simp;omega),HI6.out.1.same (hF7.keep mb HI6.out.1.lt (by simp;omega)),H.out.gw,⟨fun t a b x h1 h2=>H.out.keys.slot t a b x h1 h2.1,H.out.keys.vert⟩,H.out.cn,H.out.leS,H.out.leV,H.out.ne1,H.out.ne2,H.out.ne3,H.out.ne4,H.out.ne5⟩,
   (HL4.out.2.mono (fun q hq=>.inl (by simp at hq ⊢;omega))).trans hF47 (fun q hq=>by simp at hq ⊢;omega)⟩
 rw[HZ.out];exact HP7.out
theorem aQL{w:World}{pl g N:Nat}{E:Nat->Nat->Prop}{key:Nat->Int}(h:LM w pl g N E key){a:Nat}(ha:a<N)(k:Int):
    Calls Tryz.prog 131 #[.pointer (some ⟨pl,0,none⟩),.int .i64 a,.int .i64 k] w fun e w' =>e=.returned (.int .i64 0)/\LM w' pl g N E (eH N key a k)/\Fr [pl,g] w w' :=by
 refine(aPH h a k).mono ?_;rintro e w' ⟨rfl,h1,h2⟩;exact⟨by unfold lZ;rw[lF ha];rfl,h1,h2.mono (fun q hq=>.inl (by simp at hq ⊢;exact .inr hq))⟩
theorem aAQ{N a:Nat}(ha:a<N)(key:Nat->Int)(k:Int):eH N key a k a=k:=by
 unfold eH;rw[qD ⟨lF ha,by simp⟩]
theorem oU{N a v:Nat}(key:Nat->Int)(k:Int)(hv:v≠a):eH N key a k v=key v:=by
 unfold eH;rw[qC (by simp;omega)]
theorem aAR(h:FB w pf pl g ph mb S V G T key n){m ma mz:Nat}{y:Int}(hg:G m=some (ma,mz,y))(ht:¬T m)(hc:¬Cx G T ma mz):
    Calls Tryz.prog 178 #[eM pf,.int .i64 m] w fun e w' =>e=.returned (.tuple #[])/\FB w' pf pl g ph mb S V G (fun t=>T t∨t=m) (eH (S+V) key m y) n/\Fr [pf,pl,g,mb] w w' :=by
 have hms:=h.gw.slot _ _ hg;have hen:=h.gw.ends _ _ _ _ hg;have hS:=h.leS;have hV:=h.leV;have hlt:=h.lt;have hcT:=aJT hms ht;have hcle:=oQ S T;have hne:=zH h.ne1 (zH h.ne2 (zH h.ne3 (zH h.ne4 h.ne5)));have hl0:=h.edges.run_get (t:=150) (e:=184) (z:=edZ) Tryz.underlying3 Tryz.underlying150 (by kernel_rfl) rfl (gD (s:=m) (by omega));rw[cU,hg]at hl0;simp only[Option.map_some,Option.getD_some,ht,decide_false,edV]at hl0;have hfr:=h.frs;have n1:¬bU (TE S G T) m (S+ma):=aAI ht hms (by omega) hfr;have n2:¬bU (TE S G T) m (S+mz):=aAI ht hms (by omega) hfr;have n3:¬bU (TE S G T) (S+ma) (S+mz):=fun e=>hc ((aQD h.gw.slot hfr).1 e);have e2:Frs (dV (TE S G T) m (S+ma))->¬bU (dV (TE S G T) m (S+ma)) m (S+mz):=by {
 intro h' e;rcases(aAB hfr h' _ _).1 e with e|⟨_,e⟩|⟨_,e⟩
 · exact n2 e
 · exact n3 e
 · exact n2 e};have c1:=(h.hd.alloc (.cells #[.int .i64 ma,.int .i64 mz,.int .i64 y,.bool false] 184)).cell 1;have c2:=(h.hd.alloc (.cells #[.int .i64 ma,.int .i64 mz,.int .i64 y,.bool false] 184)).cell 2;have c4:=h.hd.cell 4;simp only[zI,zJ]at c1 c2 c4;have hw1:IntKind.i64.wrap ((S:Int)+ma)=(S:Int)+ma:=zF _ (by omega);have hw2:IntKind.i64.wrap ((S:Int)+mz)=(S:Int)+mz:=zF _ (by omega);have hf0:Fr [] w (w.alloc (.cells #[.int .i64 ma,.int .i64 mz,.int .i64 y,.bool false] 184)):=(Fr.refl _ _).alloc _;have hb:=Blk.new w [.int .i64 ma,.int .i64 mz,.int .i64 y,.bool false] 184;have HC0:=qA (aQL (h.fr0 hf0.drew).lct (a:=m) (by omega) y);have H:=qA h;have E1:=qA n1;have E2:=qA e2;have HB:=qA (zH hf0 hb);have HN:=qA (zH hne hlt);clear h e2 n1 n2 n3 hf0 hb hne hlt hfr hc;have x2:=HB.out.2.cell 2;simp only[zI,zJ]at x2;go_enter Tryz.func178,Tryz.ntmps178
 go_wp2
 go_region_held3 (fun w' => w'.cell? ⟨pf, 2, none⟩ = some (eM pl) /\ w'.cell? ⟨w.heap.size, 2, none⟩ = some (.int .i64 y))
   (first
     | go_keep
     | (have N:=HN.out;exact⟨hF2.cell (by simp_all) (by simp;omega),hF2.cell (by simp_all) (by simp;omega)⟩))
   (first
     | (go_at_call 131;refine HC0.out.mono ?_;rintro e w2 ⟨rfl,hL2,hF2⟩))
 have hlt3:=HN.out.2;have hpf2:Blk w2 pf _ _:=hF2.blk ((Fr.refl [] _).drew.blk (HB.out.1.blk H.out.hd (by simp)) (by simp)) (by have N:=HN.out;simp;omega);have hbx2:Blk w2 w.heap.size _ _:=hF2.blk ((Fr.refl [] _).drew.blk HB.out.2 (by simp)) (by simp;omega);have hF2' :Fr [pl,g] w w2:=(HB.out.1.drew.mono (S' :=[pl,g]) (by simp)).trans' hF2;have HC1:=qA (link_ok' (show LM w2.drew pl g (S+V) (TE S G T) (eH (S+V) key m y) from LG.fr hL2 (Fr.refl [] _).drew (by simp) (by simp)) (a:=m) (b:=S+ma) (by omega) (by omega) (by omega) E1.out ((S:Int)+ma) (by omega));have d1:=hpf2.cell 1;have d2:=hpf2.cell 2;have y1:=hbx2.cell 0;simp only[zI,zJ]at d1 d2 y1;have HF2:=qA (zH hF2' (zH hpf2 hbx2));clear hF2' hpf2 hbx2 hF2 hL2 HC0 c1 c2 x2;go_wp2
 go_region_held3 (fun w' => w'.cell? ⟨pf, 1, none⟩ = some (.int .i64 S) /\ w'.cell? ⟨pf, 2, none⟩ = some (eM pl) /\ w'.cell? ⟨w.heap.size, 0, none⟩ = some (.int .i64 ma))
   (first
     | go_keep
     | (have N:=HN.out;exact⟨hF3.cell (by simp_all) (by simp;omega),hF3.cell (by simp_all) (by simp;omega),hF3.cell (by simp_all) (by simp;omega)⟩))
   (first
     | (go_at_call 214;refine HC1.out.mono ?_;rintro e w3 ⟨rfl,hL3,hF3⟩))
 have hpf3:Blk w3 pf _ _:=hF3.blk ((Fr.refl [] _).drew.blk HF2.out.2.1 (by simp)) (by have N:=HN.out;simp;omega);have hbx3:Blk w3 w.heap.size _ _:=hF3.blk ((Fr.refl [] _).drew.blk HF2.out.2.2 (by simp)) (by simp;omega);have hF3' :Fr [pl,g] w w3:=(HF2.out.1.drew).trans' hF3;have hL3' :LM w3.drew pl g (S+V) (dV (TE S G T) m (S+ma)) (eH (S+V) key m y):=LG.fr hL3 (Fr.refl [] _).drew (by simp) (by simp);have HC2:=qA (link_ok' hL3' (a:=m) (b:=S+mz) (by omega) (by omega) (by omega) (E2.out hL3'.frs) ((S:Int)+mz) (by omega));have d1:=hpf3.cell 1;have d2:=hpf3.cell 2;have y1:=hbx3.cell 1;simp only[zI,zJ]at d1 d2 y1;have HF3:=qA (zH hF3' (zH hpf3 hbx3));clear hF3' hpf3 hbx3 hF3 hL3 hL3' HC1;go_wp2
 go_region_held3 (fun w' => w'.cell? ⟨pf, 1, none⟩ = some (.int .i64 S) /\ w'.cell? ⟨pf, 2, none⟩ = some (eM pl) /\ w'.cell? ⟨w.heap.size, 1, none⟩ = some (.int .i64 mz))
   (first
     | go_keep
     | (have N:=HN.out;exact⟨hF4.cell (by simp_all) (by simp;omega),hF4.cell (by simp_all) (by simp;omega),hF4.cell (by simp_all) (by simp;omega)⟩))
   (first
     | (go_at_call 214;refine HC2.out.mono ?_;rintro e w4 ⟨rfl,hL4,hF4⟩))
 have hpf4:Blk w4 pf _ _:=hF4.blk ((Fr.refl [] _).drew.blk HF3.out.2.1 (by simp)) (by have N:=HN.out;simp;omega);have hbx4:Blk w4 w.heap.size _ _:=hF4.blk ((Fr.refl [] _).drew.blk HF3.out.2.2 (by simp)) (by simp;omega);have hF4' :Fr [pl,g] w w4:=(HF3.out.1.drew).trans' hF4;rw[aQF hg]at hL4;have y3:=hbx4.cell 3;have z3:=hbx4.frozen 3;simp only[zI,zJ]at y3;have hbx5:=hbx4.set 3 (.bool true);have hpf5:=hpf4.other ⟨w.heap.size,3,none⟩ (.bool true) (by show pf≠w.heap.size;omega);have HL4:=qA (zH hL4 hF4');have HX5:=qA (zH hpf5 hbx5);clear hL4 hF4' hpf4 hbx4 hpf5 hbx5 hF4 HC2 d1 d2 y1;go_wp2
 have HS5:=qA (show Fr [w.heap.size] w4 (w4.setCell ⟨w.heap.size,3,none⟩ (.bool true)) from(Fr.refl _ _).setCell _ _ (.inl (by simp)));generalize w4.setCell ⟨w.heap.size,3,none⟩ (.bool true)=w5 at *;clear y3 z3;have hI5:cV Tryz.prog 3 .i64 okA w5 mb (fX G T) n:=H.out.edges.same (by
   rw[HS5.out.keep mb (by have:=HL4.out.2.size;omega) (by simp;omega),HL4.out.2.keep mb (by omega) (by have N:=HN.out;simp;omega)])
 have f4:=HX5.out.1.cell 4;have y0:=HX5.out.2.cell 0;have y1:=HX5.out.2.cell 1;have y2:=HX5.out.2.cell 2;have y3:=HX5.out.2.cell 3;simp only[qT,qX,zI,zJ]at f4 y0 y1 y2 y3;have HI5:=qA hI5;clear hI5;refine bE 6 (fun w' =>cV Tryz.prog 3 .i64 okA w' mb (fX G (fun t=>T t∨t=m)) n/\Fr [mb] w5 w') (by kernel_rfl) (by kernel_rfl) (by kernel_rfl) ?_;iterate 6 (refine bN (by decide) (fun K hK=>?_);go_simp;refine hK _ ?_;clear hK K)
 refine aW rfl undef (fun w' hw' =>?_) ?_
 {
 obtain⟨nq,rfl⟩:=hw';obtain⟨w6,hrun,hI6,hF6⟩:=(HI5.out.same (w' :=w5.drewN nq) rfl).put (t:=150) (e:=184) Tryz.underlying3 Tryz.underlying150 (by rw[H.out.cn];unfold maxLen;have:=oQ S (fun s=>(G s).isSome=true);omega) (gD (s:=m) (by omega)) (v:=.agg #[.int .i64 ma,.int .i64 mz,.int .i64 y,.bool true]) rfl;rw[cU,hg,aAO (T' :=fun t=>T t∨t=m) hg (by simp[edV]) (fun t ht=>by simp[ht])]at hI6;go_simp;exact⟨hI6,(((Fr.refl [mb] w5).drewN nq)).trans' hF6⟩};refine bO ?_;rintro w6 ⟨hI6,hF6⟩;have hpf6:=hF6.blk HX5.out.1 (by have N:=HN.out;simp;omega);generalize hz:gM S T=z at *;have f5:w6.cell? ⟨pf,5,none⟩=some (.int .i64 (z:Int)):=hpf6.cell 5;have q5:=hpf6.frozen 5;have hw5:IntKind.i64.wrap ((z:Int)+1)=(z:Int)+1:=zF _ (by omega);have hpf7:=hpf6.set 5 (.int .i64 ((z:Int)+1));have HP7:=qA hpf7;have HI6:=qA (zH hI6 hF6);have HZ:=qA (zH hz hcT);clear hpf6 hpf7 hI6 hF6 hz hcT f4 y0 y1 y2 y3;go_wp2
 go_end0
 have hF7:Fr [pf] w6 (w6.setCell ⟨pf,5,none⟩ (.int .i64 ((z:Int)+1))):=(Fr.refl _ _).setCell _ _ (.inl (by simp));have N:=HN.out;have s4:=HL4.out.2.size;have hF47:Fr [w.heap.size,mb,pf] w4 (w6.setCell ⟨pf,5,none⟩ (.int .i64 ((z:Int)+1))):=
   ((HS5.out.mono (fun q hq=>.inl (by simp at hq ⊢;exact .inl hq))).trans' (HI6.out.2.mono (fun q hq=>.inl (by simp at hq ⊢;exact .inr (.inl hq))))).trans' (hF7.mono (fun q hq=>.inl (by simp at hq ⊢;exact .inr (.inr hq))))
 refine⟨rfl,⟨?_,LG.fr HL4.out.1 hF47 (by simp;omega) (by simp;omega),HI6.out.1.same (hF7.keep mb HI6.out.1.lt (by simp;omega)),H.out.gw,⟨fun t a b x h1 h2=>?_,fun v hv=>?_⟩,H.out.cn,H.out.leS,H.out.leV,H.out.ne1,H.out.ne2,H.out.ne3,H.out.ne4,H.out.ne5⟩,
   (HL4.out.2.mono (fun q hq=>.inl (by simp at hq ⊢;omega))).trans hF47 (fun q hq=>by simp at hq ⊢;omega)⟩
 {
 have e8:=HZ.out.2;rw[e8];exact HP7.out}
 {
 rcases h2 with h2|rfl
 {
 rw[oU _ _ (by rintro rfl;exact ht h2)];exact H.out.keys.slot t a b x h1 h2}
 {
 rw[aAQ (by omega)];rw[hg]at h1;simp only[qI,zD]at h1;exact h1.2.2}}
 {
 rw[oU _ _ (by omega)];exact H.out.keys.vert v hv}
end
def FAt(w:World)(pf S V:Nat)(G:cW)(L:List Nat):Prop:=
  ∃pl g ph mb l key n,FB w pf pl g ph mb S V G (aN G) key n/\dG w ph S (qOf G) n l/\(∀b∈l,b≠pf/\b≠pl/\b≠g/\b≠mb)/\L=pf::pl::g::mb::l
noncomputable def eB(S V:Nat)(G:cW)(slot a b:Int):Int:=
  if inV S slot=true/\inV V a=true/\inV V b=true then(if a=b then 9 else if (G slot.toNat).isSome=true then 6 else 0) else 3
noncomputable def rV(S V:Nat)(G:cW)(slot a b x:Int):cW:=if eB S V G slot a b=0 then bS G slot.toNat (some (a.toNat,b.toNat,x)) else G
section
variable {w w' :World} {pf pl g ph mb S V n:Nat} {G:cW} {T T' :Nat->Prop} {key:Nat->Int} {l L:List Nat}
theorem FAt.lt(h:FAt w pf S V G L):∀b∈L,b<w.heap.size:=by
 obtain⟨pl,g,ph,mb,l,key,n,h1,h2,h3,rfl⟩:=h;have:=h1.lt;intro b hb;simp only[qB]at hb;rcases hb with rfl|rfl|rfl|rfl|hb
 · exact this.1
 · exact this.2.1
 · exact this.2.2.1
 · exact this.2.2.2
 · exact h2.lt b hb
theorem FAt.fr{X:List Nat}(h:FAt w pf S V G L)(hf:Fr X w w')(hx:∀b∈L,b∉X):FAt w' pf S V G L:=by
 obtain⟨pl,g,ph,mb,l,key,n,h1,h2,h3,rfl⟩:=h;exact⟨pl,g,ph,mb,l,key,n,h1.fr hf (hx _ (by simp)) (hx _ (by simp)) (hx _ (by simp)) (hx _ (by simp)),h2.fr hf (fun b hb=>hx b (by simp[hb])),h3,rfl⟩
theorem FB.congrT(h:FB w pf pl g ph mb S V G T key n)(hT:∀t,T t↔T' t):FB w pf pl g ph mb S V G T' key n:=by
 have:T=T' :=funext fun t=>propext (hT t);rw[<-this];exact h
theorem aKF{s:Nat}{e:Nat×Nat×Int}(ht:¬T s):jM (fX G T) s (some (edV e false))=fX (bS G s (some e)) T:=by
 funext k
 by_cases hk:k=(s:Int)
 · subst hk;rw[cG,cU,bD];simp[ht]
 {
 rw[bK hk];unfold fX;by_cases h0:0<=k
 · rw[aJ (by omega)]
 · simp only[h0,if_false]}
theorem aNR{s:Nat}{e:Nat×Nat×Int}:mL (qOf G) s (some e.2.2)=qOf (bS G s (some e)):=by
 funext k
 by_cases hk:k=s
 · subst hk;rw[jD];simp[qOf,bD]
 · rw[fQ hk];simp[qOf,aJ hk]
theorem aNS{s:Nat}{e:Nat×Nat×Int}(hs:s<S)(h0:G s=none):gM S (fun t=>(G t).isSome=true)+1=gM S (fun t=>(bS G s (some e) t).isSome=true):=
  tX hs (by simp[bD]) (by simp[h0]) (fun x hx=>by rw[aJ hx])
theorem FB.new(h:FB w pf pl g ph mb S V G T key n){s a b:Nat}{x:Int}(h0:G s=none)(ht:¬T s)(hs:s<S)(ha:a<V)(hb:b<V)(hab:a≠b)(hx:-9223372036854775808<=x/\x<=9223372036854775807)
    {X:List Nat} (hf:Fr X w w') (h1:pf∉X) (h2:pl∉X) (h3:g∉X) (hI:cV Tryz.prog 3 .i64 okA w' mb (fX (bS G s (some (a,b,x))) T) (n+1)):
    FB w' pf pl g ph mb S V (bS G s (some (a,b,x))) T key (n+1):=by
 have e:TE S (bS G s (some (a,b,x))) T=TE S G T:=tW (fun _=>Iff.rfl) (fun t ht' =>by rw[aJ];rintro rfl;exact ht ht');refine⟨hf.blk h.hd h1,?_,hI,h.gw.put hs ha hb hab hx,⟨fun t c d y h4 h5=>?_,h.keys.vert⟩,?_,h.leS,h.leV,h.ne1,h.ne2,h.ne3,h.ne4,h.ne5⟩
 · rw[e];exact h.lct.fr hf h2 h3
 {
 rw[aJ (by rintro rfl;exact ht h5)]at h4;exact h.keys.slot t c d y h4 h5}
 · rw[h.cn,aNS hs h0]
end
section
variable {w w' :World} {pf pl g ph mb S V n:Nat} {G:cW} {T T' :Nat->Prop} {key:Nat->Int} {l L:List Nat}
theorem aKG(h:FB w pf pl g ph mb S V G T key n)(slot a b x:Int)(hn:¬(inV S slot=true/\inV V a=true/\inV V b=true)):
    Calls Tryz.prog 138 #[eM pf,.int .i64 slot,.int .i64 a,.int .i64 b,.int .i64 x] w fun e w' =>e=.returned (.int .i64 3)/\w' =w:=by
 have c1:=h.hd.cell 1;simp only[zI,zJ]at c1;have HV:=qA (lE h);by_cases s1:0<=slot
 {
 by_cases s2:slot<S
 {
 have s3:decide (slot≥(S:Int))=false:=qF (by omega);cases ha:inV V a with
 | false=>{
 have HA:=nN h a;rw[ha]at HA;have HA:=qA HA;clear h hn;go_enter Tryz.func138,Tryz.ntmps138
 go_wp2_with fail
 refine HV.out.mono ?_;rintro _ w1 ⟨rfl,rfl⟩;go_wp2_with fail
 refine HA.out.mono ?_;rintro _ w1 ⟨rfl,rfl⟩;go_wp2
 go_ret;exact⟨rfl,rfl⟩}
 | true=>{
 have hb:inV V b=false:=by {
 cases hb:inV V b with
 | false=>rfl
 | true=>exact absurd ⟨by simp[inV,s1,s2],ha,hb⟩ hn};have HA:=nN h a;rw[ha]at HA;have HA:=qA HA;have HB:=nN h b;rw[hb]at HB;have HB:=qA HB;clear h hn;go_enter Tryz.func138,Tryz.ntmps138
 go_wp2_with fail
 refine HV.out.mono ?_;rintro _ w1 ⟨rfl,rfl⟩;go_wp2_with fail
 refine HA.out.mono ?_;rintro _ w1 ⟨rfl,rfl⟩;go_wp2_with fail
 refine HB.out.mono ?_;rintro _ w1 ⟨rfl,rfl⟩;go_wp2
 go_ret;exact⟨rfl,rfl⟩}}
 {
 have s3:decide (slot≥(S:Int))=true:=qG (by omega);have s4:(S:Int)<=slot:=by omega
 clear h hn;go_enter Tryz.func138,Tryz.ntmps138
 go_wp2_with fail
 refine HV.out.mono ?_;rintro _ w1 ⟨rfl,rfl⟩;go_wp2
 go_ret;exact⟨rfl,rfl⟩}}
 {
 have s3:slot<0:=by omega
 clear h hn;go_enter Tryz.func138,Tryz.ntmps138
 go_wp2_with fail
 refine HV.out.mono ?_;rintro _ w1 ⟨rfl,rfl⟩;go_wp2
 go_ret;exact⟨rfl,rfl⟩}
theorem aET(h:FB w pf pl g ph mb S V G T key n){s a b:Nat}(hs:s<S)(ha:a<V)(hb:b<V)(x:Int)(hn:a=b∨(a≠b/\(G s).isSome=true)):
    Calls Tryz.prog 138 #[eM pf,.int .i64 s,.int .i64 a,.int .i64 b,.int .i64 x] w fun e w' =>e=.returned (.int .i64 (if a=b then 9 else 6))/\Fr [] w w' :=by
 have c1:=h.hd.cell 1;have c4:=h.hd.cell 4;simp only[zI,zJ]at c1 c4;have HV:=qA (lE h);have HA:=nN h a;rw[lF ha]at HA;have HA:=qA HA;have HB:=nN h b;rw[lF hb]at HB;have HB:=qA HB;have s1:(0:Int)<=s:=by omega
 have s2:(s:Int)<S:=by omega
 have s3:decide (S<=s)=false:=qF (by omega);by_cases hab:a=b
 {
 rw[qD hab];subst hab;clear h hn;go_enter Tryz.func138,Tryz.ntmps138
 go_wp2_with fail
 refine HV.out.mono ?_;rintro _ w1 ⟨rfl,rfl⟩;go_wp2_with fail
 refine HA.out.mono ?_;rintro _ w1 ⟨rfl,rfl⟩;go_wp2_with fail
 refine HB.out.mono ?_;rintro _ w1 ⟨rfl,rfl⟩;go_wp2
 go_ret;exact⟨rfl,Fr.refl _ _⟩}
 {
 rw[qC hab];obtain⟨_,hsome⟩:=hn.resolve_left hab;have t1:((a:Int) == (b:Int))=false:=by simp;omega
 have hl:=h.edges.run_ok (t:=150) (e:=184) (z:=edZ) Tryz.underlying3 Tryz.underlying150 (by kernel_rfl) rfl (gD (s:=s) (by have:=h.leS;omega));obtain⟨⟨e1,e2,e3⟩,he⟩:=qU.1 hsome;rw[cU,he]at hl;simp only[Option.map_some,Option.getD_some,edV,Option.isSome_some]at hl;generalize decide (T s)=tb at *;clear h hn;go_enter Tryz.func138,Tryz.ntmps138
 go_wp2_with fail
 refine HV.out.mono ?_;rintro _ w1 ⟨rfl,rfl⟩;go_wp2_with fail
 refine HA.out.mono ?_;rintro _ w1 ⟨rfl,rfl⟩;go_wp2_with fail
 refine HB.out.mono ?_;rintro _ w1 ⟨rfl,rfl⟩;go_wp2
 go_ret;exact⟨rfl,(Fr.refl _ _).alloc _⟩}
end
section
variable {w w' :World} {pf pl g ph mb S V n:Nat} {G:cW} {T:Nat->Prop} {key:Nat->Int}
theorem FB.asked(h:FB w pf pl g ph mb S V G T key n)(hL:LM w' pl g (S+V) (TE S G T) key)(hF:Fr [g] w w'):FB w' pf pl g ph mb S V G T key n:=
  ⟨hF.blk h.hd (by have:=h.ne2;simp;exact this),hL,h.edges.same (hF.keep mb h.edges.lt (by have:=h.ne5;simp;exact fun e=>this e.symm)),h.gw,h.keys,h.cn,h.leS,h.leV,h.ne1,h.ne2,h.ne3,h.ne4,h.ne5⟩
theorem aQM{s:Nat}(ht:¬T s)(e:Option (Nat×Nat×Int)):TE S (bS G s e) T=TE S G T:=
  tW (fun _=>Iff.rfl) (fun t ht' =>by rw[aJ];rintro rfl;exact ht ht')
theorem aKH{s a b:Nat}(ht:¬T s)(e:Option (Nat×Nat×Int)):Cx (bS G s e) T a b↔Cx G T a b:=by
 constructor
 {
 intro h;exact h.mono' fun u f h1 h2=>⟨h1,by rw[aJ (by rintro rfl;exact ht h1)]at h2;exact h2⟩}
 {
 intro h;exact h.mono' fun u f h1 h2=>⟨h1,by rw[aJ (by rintro rfl;exact ht h1)];exact h2⟩}
end
def aNT(n:Nat)(E:Nat->Nat->Prop)(key:Nat->Int)(a b r:Int)(ok:Bool):Prop:=
  (ok=false/\r=0/\¬mU n E a b)∨(ok=true/\∃(v u:Nat) (p:List Nat) (m:Nat),a=v/\b=u/\v<n/\u<n/\bQ E v u p/\(∀x∈p,x<n)/\sB key p m/\r=m)
theorem aSZ{w:World}{pf g n:Nat}{E:Nat->Nat->Prop}{key:Nat->Int}{ed:Int}(h:LG w pf g n E key ed)(a b:Int):Calls Tryz.prog 166 #[.pointer (some ⟨pf,0,none⟩),.int .i64 a,.int .i64 b] w fun e w' =>∃r ok,e=.returned (.tuple #[.int .i64 r,.bool ok])/\aNT n E key a b r ok/\LG w' pf g n E key ed/\Fr [g] w w' :=by
 refine(aSS h a b).mono ?_;rintro e w' ⟨⟨hn,rfl⟩|⟨v,u,p,m,h1,h2,h3,h4,h5,h6,h7,rfl⟩,hL,hF⟩
 · exact⟨0,false,rfl,.inl ⟨rfl,rfl,hn⟩,hL,hF⟩
 · exact⟨m,true,rfl,.inr ⟨rfl,v,u,p,m,h1,h2,h3,h4,h5,h6,h7,rfl⟩,hL,hF⟩
section
variable {w w' :World} {pf S V:Nat} {G:cW} {L:List Nat}
theorem aKI(h:FAt w pf S V G L){s a b:Nat}(hs:s<S)(ha:a<V)(hb:b<V)(hab:a≠b)(h0:G s=none)(x:Int)(hx:-9223372036854775808<=x/\x<=9223372036854775807):
    Calls Tryz.prog 138 #[eM pf,.int .i64 s,.int .i64 a,.int .i64 b,.int .i64 x] w fun e w' =>e=.returned (.int .i64 0)/\∃L', FAt w' pf S V (bS G s (some (a,b,x))) L' /\ Fr L w w' /\ ∀q∈L', q∈L∨w.heap.size<=q:=by
  obtain⟨pl,g,ph,mb,l,key,n,h1,hH,hD,rfl⟩:=h;have ht:¬aN G s:=by rintro⟨_,_,_,e,_⟩;rw[h0]at e;cases e
  have hlt:=h1.lt;have hllt:=hH.lt;have hS:=h1.leS;have hV:=h1.leV;have c1:=h1.hd.cell 1;have c4:=h1.hd.cell 4;have c3:=(h1.hd.alloc (.cells #[.int .i64 0,.int .i64 0,.int .i64 0,.bool false] 184)).cell 3;simp only[zI,zJ]at c1 c3 c4;have HV:=qA (lE h1);have HA:=nN h1 a;rw[lF ha]at HA;have HA:=qA HA;have HB:=nN h1 b;rw[lF hb]at HB;have HB:=qA HB;have s1:(0:Int)<=s:=by omega
  have s2:(s:Int)<S:=by omega
  have s3:decide (S<=s)=false:=qF (by omega);have t1:((a:Int) == (b:Int))=false:=by simp;omega
  have hl:=h1.edges.run_ok (t:=150) (e:=184) (z:=edZ) Tryz.underlying3 Tryz.underlying150 (by kernel_rfl) rfl (gD (s:=s) (by omega));rw[cU,h0]at hl;simp only[Option.map_none,Option.getD_none,edZ,Option.isSome_none]at hl;have hf0:Fr [] w (w.alloc (.cells #[.int .i64 0,.int .i64 0,.int .i64 0,.bool false] 184)):=(Fr.refl _ _).alloc _;have HP:=qA (aER (hH.fr hf0 (by simp)) hs (by simp[qOf,h0]) x);have H:=qA h1;have HH:=qA (zH hD (zH hllt hlt));have HF0:=qA hf0;clear h1 hH hD hllt hf0;go_enter Tryz.func138,Tryz.ntmps138
  go_wp2_with fail
  refine HV.out.mono ?_;rintro _ w ⟨rfl,rfl⟩;go_wp2_with fail
  refine HA.out.mono ?_;rintro _ w ⟨rfl,rfl⟩;go_wp2_with fail
  refine HB.out.mono ?_;rintro _ w ⟨rfl,rfl⟩;go_wp2_with fail
  refine HP.out.mono ?_;rintro _ w2 ⟨rfl,l', hH2,hF2,hN2⟩;have hpf2:Blk w2 pf _ _:=hF2.blk (HF0.out.blk H.out.hd (by simp)) (fun hm=>(HH.out.1 _ hm).1 rfl);have hI2:cV Tryz.prog 3 .i64 okA w2 mb (fX G (aN G)) n:=H.out.edges.same (by
    rw[hF2.keep mb (by have:=HF0.out.size;omega) (fun hm=>(HH.out.1 _ hm).2.2.2 rfl),HF0.out.keep mb (by omega) (by simp)])
  have d4:=hpf2.cell 4;simp only[zI,zJ]at d4;have HF2:=qA (zH hH2 (zH hF2 (zH hN2 hpf2)));have HI2:=qA hI2;clear hH2 hF2 hN2 hpf2 hI2 c1 c3 c4 hl HP;go_wp2_with (refine rT rfl _ _ _ _ rfl HI2.out Tryz.underlying3 Tryz.underlying150 (by rw[H.out.cn];unfold maxLen;have:=oQ S (fun s=>(G s).isSome=true);omega) rfl (s:Int) rfl (gD (s:=s) (by omega)) (.agg #[.int .i64 a,.int .i64 b,.int .i64 x,.bool false]) rfl rfl ?_;intro w3 hI3 hF3)
  rw[cU,h0]at hI3;simp only[Option.map_none,Option.isSome_none,Bool.false_eq_true,if_false]at hI3;have hI3' :cV Tryz.prog 3 .i64 okA w3 mb (fX (bS G s (some (a,b,x))) (aN G)) (n+1):=by rw[<-aKF ht];exact hI3
  have hF13:Fr (mb::l) w w3:=((HF0.out.mono (S' :=mb::l) (by simp)).trans' (HF2.out.2.1.mono (fun q hq=>.inl (by simp[hq])))).trans' (hF3.mono (fun q hq=>.inl (by simp at hq;simp[hq])));have hx1:pf∉mb::l:=by simp only[qB,not_or];exact⟨H.out.ne3,fun hm=>(HH.out.1 _ hm).1 rfl⟩
  have hx2:pl∉mb::l:=by simp only[qB,not_or];exact⟨H.out.ne4,fun hm=>(HH.out.1 _ hm).2.1 rfl⟩
  have hx3:g∉mb::l:=by simp only[qB,not_or];exact⟨H.out.ne5,fun hm=>(HH.out.1 _ hm).2.2.1 rfl⟩
  have hB3:=H.out.new h0 ht hs ha hb hab hx hF13 hx1 hx2 hx3 hI3';have hL3:LM w3 pl g (S+V) (TE S G (aN G)) key:=H.out.lct.fr hF13 hx2 hx3;have hH3:dG w3 ph S (qOf (bS G s (some (a,b,x)))) (n+1) l' :=by
    rw[<-aNR (e:=(a,b,x))];exact HF2.out.1.fr hF3 (fun q hq hm=>by
      simp at hm;subst hm;rcases HF2.out.2.2.1 _ hq with e|e
      · exact(HH.out.1 _ e).2.2.2 rfl
      · simp at e;omega)
  have e1:=hB3.hd.cell 1;have e2:=hB3.hd.cell 2;simp only[zI,zJ]at e1 e2;have hw1:IntKind.i64.wrap ((S:Int)+a)=(S:Int)+a:=zF _ (by omega);have hw2:IntKind.i64.wrap ((S:Int)+b)=(S:Int)+b:=zF _ (by omega);have HM:=qA (aSZ (show LG w3.drew pl g (S+V) (TE S G (aN G)) key _ from LG.fr hL3 (Fr.refl [] _).drew (by simp) (by simp)) ((S:Int)+a) ((S:Int)+b));have H3:=qA (zH hB3 (zH hH3 hF13));clear hI3 hI3' hF3 hF13 hB3 hL3 hH3 d4;have HN:=qA (zH H.out.ne1 (zH H.out.ne2 hlt))
  go_region_held3 (fun w' => w'.cell? ⟨pf, 1, none⟩ = some (.int .i64 S) /\ w'.cell? ⟨pf, 2, none⟩ = some (eM pl))
    (first
      | go_keep
      | (have N:=HN.out;exact⟨hF4.cell (by simp_all) (by simp;omega),hF4.cell (by simp_all) (by simp;omega)⟩))
    (first
      | (go_at_call 166;refine HM.out.mono ?_;rintro e w4 ⟨r,ok,rfl,hsay,hL4,hF4⟩))
  have hB4:=H3.out.1.asked (show LM w4 pl g (S+V) (TE S (bS G s (some (a,b,x))) (aN G)) key by rw[aQM ht];exact hL4) (((Fr.refl [g] w3).drew).trans' hF4);have hlen4:=hF4.size;have hH4:=H3.out.2.1.fr (((Fr.refl [g] w3).drew).trans' hF4) (fun q hq hm=>by
    simp at hm;subst hm;rcases HF2.out.2.2.1 _ hq with e|e
    · exact(HH.out.1 _ e).2.2.1 rfl
    · simp at e;omega)
  have hF04:Fr (pf::pl::g::mb::l) w w4:=(H3.out.2.2.mono (S' :=pf::pl::g::mb::l) (fun q hq=>.inl (by simp at hq ⊢;grind))).trans' ((((Fr.refl [g] w3).drew).trans' hF4).mono (fun q hq=>.inl (by simp at hq ⊢;grind)));have hdis:∀q∈l', q≠pf/\q≠pl/\q≠g/\q≠mb:=by
    intro q hq;rcases HF2.out.2.2.1 _ hq with e|e
    · exact HH.out.1 _ e
    · simp at e;omega
  have hnew:∀q∈pf::pl::g::mb::l', q∈pf::pl::g::mb::l∨w.heap.size<=q:=by
    intro q hq;simp only[qB]at hq ⊢;rcases hq with e|e|e|e|e
    · exact .inl (.inl e)
    · exact .inl (.inr (.inl e))
    · exact .inl (.inr (.inr (.inl e)))
    · exact .inl (.inr (.inr (.inr (.inl e))))
    · rcases HF2.out.2.2.1 _ e with e | e
      · exact .inl (.inr (.inr (.inr (.inr e))))
      · simp at e;exact .inr (by omega)
  have H4:=qA (zH hB4 (zH hH4 (zH hF04 (zH hdis hnew))));have HS:=qA (zH hsay hL4);clear hB4 hH4 hF04 hdis hnew hsay hL4 hF4 HM e1 e2;cases ok with
  | false=>
    have hc:¬Cx G (aN G) a b:=by
      rcases HS.out.1 with⟨_,_,hn⟩|⟨e,_⟩
      · intro hc
        exact hn ⟨by simp[inV];omega,by simp[inV];omega,by
          rw[show((S:Int)+a).toNat=S+a by omega,show((S:Int)+b).toNat=S+b by omega];exact xS (LG.frs HS.out.2) hc⟩
      · cases e
    have HFa:=qA (aAR H4.out.1 (bD _ _ _) ht (fun e=>hc ((aKH ht _).1 e)));have HC:=qA hc;clear hc;go_wp2_with fail
    refine HFa.out.mono ?_;rintro _ w5 ⟨rfl,hB5,hF5⟩;have H5:=qA (zH hB5 hF5);clear hB5 hF5;go_wp2
    go_ret;exact⟨rfl,_,⟨pl,g,ph,mb,l', _,n+1,H5.out.1.congrT (fun t=>(aMV H.out.gw.slot h0 HC.out t).symm),H4.out.2.1.fr H5.out.2 (fun q hq hm=>by have:=H4.out.2.2.2.1 q hq;simp at hm;grind),H4.out.2.2.2.1,rfl⟩,H4.out.2.2.1.trans' (H5.out.2.mono (fun q hq=>.inl (by simp at hq ⊢;grind))),H4.out.2.2.2.2⟩
  | true=>
    obtain⟨m,ma,mz,y,hr,hms,hgm,htm,hcx,hcut⟩:∃(m ma mz:Nat) (y:Int),r=m/\m<S/\G m=some (ma,mz,y)/\aN G m/\Cx G (fun t=>aN G t/\(t=m∨Aft G m y t)) a b/\¬Cx G (fun t=>aN G t/\t≠m) a b:=by
      rcases HS.out.1 with⟨e,_⟩|⟨_,v,u,p,m,e1,e2,h3,h4,hp,hin,hf,hr⟩
      · cases e
      · obtain rfl : v = S + a := by omega
        obtain rfl:u=S+b:=by omega
        obtain⟨ma,mz,y,h5,h6,h7,h8⟩:=aCT H.out.gw H.out.keys hp hab hf hin;exact⟨m,ma,mz,y,hr,h5,h6,h7,h8,aQE H.out.frs (aQI H.out.frs (fun _ h=>h.1)) hp hf.1 h5⟩
    subst hr;have hmne:m≠s:=by rintro rfl;rw[h0]at hgm;cases hgm
    have hgm' :bS G s (some (a,b,x)) m=some (ma,mz,y):=by rw[aJ hmne];exact hgm
    have hl4:=H4.out.1.edges.run_get (t:=150) (e:=184) (z:=edZ) Tryz.underlying3 Tryz.underlying150 (by kernel_rfl) rfl (gD (s:=m) (by omega));rw[cU,hgm']at hl4;simp only[Option.map_some,Option.getD_some,htm,decide_true,edV]at hl4;have c4:=H4.out.1.hd.cell 4;simp only[zI,zJ]at c4;have HG:=qA (zH hgm (zH htm (zH hcx (zH hcut hgm'))));clear hgm htm hcx hcut hgm';have hf45:Fr [] w4 (w4.alloc (.cells #[.int .i64 ma,.int .i64 mz,.int .i64 y,.bool true] 184)):=(Fr.refl _ _).alloc _;have HF45:=qA hf45;clear hf45;have HLo:=qA (aAP (H4.out.1.fr0 HF45.out) HG.out.2.2.2.2 HG.out.2.1);by_cases hb:bef x s y m
    · have HB' := qA hb
      have late:∀t,aN G t↔aN (bS G s (some (a,b,x))) t:=fun t=>(aJM h0 (HG.out.2.2.1.mono fun t _ ht _=>by
        rcases ht.2 with rfl|⟨c,d,z,h1,h2⟩
        · exact⟨_,_,_,HG.out.1,HB'.out⟩
        · exact⟨c,d,z,h1,fO HB'.out h2⟩) t).symm
      have HE:=qA (show ∃L', FAt (w4.alloc (.cells #[.int .i64 ma,.int .i64 mz,.int .i64 y,.bool true] 184)) pf S V (bS G s (some (a,b,x))) L' /\ Fr (pf::pl::g::mb::l) w (w4.alloc (.cells #[.int .i64 ma,.int .i64 mz,.int .i64 y,.bool true] 184))/\∀q∈L', q∈pf::pl::g::mb::l∨w.heap.size<=q from
        ⟨_,⟨pl,g,ph,mb,l', _,n+1,(H4.out.1.fr0 HF45.out).congrT late,H4.out.2.1.fr HF45.out (by simp),H4.out.2.2.2.1,rfl⟩,H4.out.2.2.1.trans' (HF45.out.mono (by simp)),H4.out.2.2.2.2⟩)
      clear late HLo;unfold bef at hb;by_cases h1:x<y
      · clear hb
        go_wp2_with fail
        go_ret;exact⟨rfl,HE.out⟩
      · have h2 : x = y := by omega
        have h3:s<m:=by omega
        subst h2;clear hb h1;go_wp2_with fail
        go_ret;exact⟨rfl,HE.out⟩
    · have hb' := aED (show s ≠ m from hmne.symm) hb
      have HB' :=qA hb';unfold bef at hb hb';have swp:∀t,(aN G t/\t≠m)∨t=s↔aN (bS G s (some (a,b,x))) t:=fun t=>(aJN H.out.gw.slot h0 HG.out.1 HG.out.2.2.1 HG.out.2.2.2.1 HB'.out t).symm;have HSw:=qA swp;have HNC:=qA (show ¬Cx (bS G s (some (a,b,x))) (fun t=>aN G t/\t≠m) a b from fun e=>HG.out.2.2.2.1 ((aKH (fun h=>ht h.1) _).1 e));have n1:decide (x<y)=false:=qF (by omega);have n2:¬(x<y):=by omega
      have hfa:Hid (∀w5:World,FB w5 pf pl g ph mb S V (bS G s (some (a,b,x))) (fun t=>aN G t/\t≠m) key (n+1)->Calls Tryz.prog 178 #[eM pf,.int .i64 s] w5 fun e w' =>e=.returned (.tuple #[])/\FB w' pf pl g ph mb S V (bS G s (some (a,b,x))) (fun t=>(aN G t/\t≠m)∨t=s) (eH (S+V) key s x) (n+1)/\Fr [pf,pl,g,mb] w5 w'):=
        qA (fun w5 hB5=>aAR hB5 (bD _ _ _) (fun h=>ht h.1) HNC.out)
      have fin:Hid (∀w5 w6:World,Fr [pf,pl,g,mb] (w4.alloc (.cells #[.int .i64 ma,.int .i64 mz,.int .i64 y,.bool true] 184)) w5->Fr [pf,pl,g,mb] w5 w6->FB w6 pf pl g ph mb S V (bS G s (some (a,b,x))) (fun t=>(aN G t/\t≠m)∨t=s) (eH (S+V) key s x) (n+1) ->
          ∃L', FAt w6 pf S V (bS G s (some (a,b,x))) L' /\ Fr (pf::pl::g::mb::l) w w6/\∀q∈L', q∈pf::pl::g::mb::l∨w.heap.size<=q):=qA (fun w5 w6 f5 f6 hB6=>by
        have f46:Fr [pf,pl,g,mb] w4 w6:=((HF45.out.mono (by simp)).trans' f5).trans' f6;exact⟨_,⟨pl,g,ph,mb,l', _,n+1,hB6.congrT HSw.out,H4.out.2.1.fr f46 (fun q hq hm=>by have:=H4.out.2.2.2.1 q hq;simp at hm;grind),H4.out.2.2.2.1,rfl⟩,H4.out.2.2.1.trans' (f46.mono (fun q hq=>.inl (by simp at hq ⊢;grind))),H4.out.2.2.2.2⟩)
      clear swp hb';by_cases e:x=y
      · have n3 : decide (s < m) = false := qF (by omega)
        subst e;clear hb;go_wp2_with fail
        refine HLo.out.mono ?_;rintro _ w5 ⟨rfl,hB5,hF5⟩;have HF5:=qA hF5;have HFa:=qA (hfa.out _ hB5);clear hB5 hF5;go_wp2_with fail
        refine HFa.out.mono ?_;rintro _ w6 ⟨rfl,hB6,hF6⟩;have HF6:=qA (fin.out w5 w6 HF5.out hF6 hB6);clear hB6 hF6;go_wp2_with fail
        go_ret;exact⟨rfl,HF6.out⟩
      · have n3 : (x == y) = false := by simp [e]
        have n4:(y == x)=false:=by simp;omega
        clear hb;go_wp2_with fail
        refine HLo.out.mono ?_;rintro _ w5 ⟨rfl,hB5,hF5⟩;have HF5:=qA hF5;have HFa:=qA (hfa.out _ hB5);clear hB5 hF5;go_wp2_with fail
        refine HFa.out.mono ?_;rintro _ w6 ⟨rfl,hB6,hF6⟩;have HF6:=qA (fin.out w5 w6 HF5.out hF6 hB6);clear hB6 hF6;go_wp2_with fail
        go_ret;exact⟨rfl,HF6.out⟩
end
section
variable {w w' :World} {pf pl g ph mb S V n:Nat} {G:cW} {key:Nat->Int}
@[go_sem] theorem aTF(e1 e2 e3:Int)(tb:Bool)(w:World):(Instr.field 184 (.agg #[.int .i64 e1,.int .i64 e2,.int .i64 e3,.bool tb]) 2).run Tryz.prog w=.ok (.int .i64 e3) w:=by kernel_rfl
@[go_sem] theorem aTA(e1 e2 e3:Int)(tb:Bool)(w:World):(Instr.field 184 (.agg #[.int .i64 e1,.int .i64 e2,.int .i64 e3,.bool tb]) 3).run Tryz.prog w=.ok (.bool tb) w:=by kernel_rfl
end
section
variable {w w' :World} {pf pl g ph mb S V n:Nat} {G:cW} {T T' :Nat->Prop} {key:Nat->Int} {l L:List Nat}
theorem aGW{m:Nat}(hT:∀t,t≠m->(T t↔T' t)):jM (fX G T) m none=fX (bS G m none) T' :=by
 funext k
 by_cases hk:k=(m:Int)
 · subst hk;rw[cG,cU,bD];rfl
 {
 rw[bK hk];unfold fX;by_cases h0:0<=k
 {
 have:k.toNat≠m:=by omega
 rw[aJ this];simp only[hT _ this]}
 · simp only[h0,if_false]}
theorem aKJ{m:Nat}:mL (qOf G) m none=qOf (bS G m none):=by
 funext k
 by_cases hk:k=m
 · subst hk;rw[jD];simp[qOf,bD]
 · rw[fQ hk];simp[qOf,aJ hk]
theorem FB.gone(h:FB w pf pl g ph mb S V G T key n){m:Nat}{e:Nat×Nat×Int}(hm:G m=some e)(ht:¬T m){X:List Nat}(hf:Fr X w w')(h1:pf∉X)(h2:pl∉X)(h3:g∉X)(hI:cV Tryz.prog 3 .i64 okA w' mb (fX (bS G m none) T) (n-1)):
    FB w' pf pl g ph mb S V (bS G m none) T key (n-1):=by
 have hms:=h.gw.slot _ _ hm;have e' :TE S (bS G m none) T=TE S G T:=tW (fun _=>Iff.rfl) (fun t ht' =>by rw[aJ];rintro rfl;exact ht ht');have hc:gM S (fun s=>(bS G m none s).isSome=true)+1=gM S (fun s=>(G s).isSome=true):=tX hms (by simp[hm]) (by simp[bD]) (fun x hx=>by rw[aJ hx]);refine⟨hf.blk h.hd h1,?_,hI,h.gw.del m,⟨fun t c d y h4 h5=>?_,h.keys.vert⟩,?_,h.leS,h.leV,h.ne1,h.ne2,h.ne3,h.ne4,h.ne5⟩
 · rw[e'];exact h.lct.fr hf h2 h3
 {
 rw[aJ (by rintro rfl;exact ht h5)]at h4;exact h.keys.slot t c d y h4 h5}
 · rw[h.cn,<-hc,Nat.add_sub_cancel]
theorem aQN(h:FAt w pf S V G L):Calls Tryz.prog 108 #[eM pf] w fun e w' =>e=.returned (.tuple #[.int .i64 ((oR G).getD 0:Nat),.bool (oR G).isSome])/\∃L', FAt w' pf S V (uZ G) L' /\ Fr L w w' /\ ∀q∈L', q∈L∨w.heap.size<=q:=by
  obtain⟨pl,g,ph,mb,l,key,n,h1,hH,hD,rfl⟩:=h;have hlt:=h1.lt;have hllt:=hH.lt;have hS:=h1.leS;have hV:=h1.leV;have c3:=h1.hd.cell 3;simp only[zI,zJ]at c3;have HV:=qA (lE h1);have HP:=qA (aPG hH);have H:=qA h1;have HH:=qA (zH hD (zH hllt (zH hlt hH)));clear h1 hH hD hllt;go_enter Tryz.func108,Tryz.ntmps108
  go_wp2_with fail
  refine HV.out.mono ?_;rintro _ w ⟨rfl,rfl⟩;go_wp2_with fail
  refine HP.out.mono ?_;rintro _ w2 (⟨hn,rfl,hF2⟩|⟨hn,i,k,hq,hmin,rfl,l', hH2,hF2,hN2⟩)
  · have hz:∀s,G s=none:=by
      intro s;cases hs:G s with
      | none=>rfl
      | some e=>
        have:=H.out.cn;exact absurd (show(G s).isSome=true by simp[hs]) (aJU (S:=S) (P:=fun s=>(G s).isSome=true) (by omega) s (H.out.gw.slot s e hs))
    have hfst:=aGT hz;have hpop:uZ G=G:=by unfold uZ;rw[hfst]
    have HE:=qA (zH hfst (zH hpop hF2));clear hz hfst hpop hF2;go_wp2
    go_ret2;refine⟨by rw[HE.out.1];rfl,_,⟨pl,g,ph,mb,l,key,n,?_,?_,HH.out.1,rfl⟩,(HE.out.2.2.mono (by simp)).alloc _,fun q hq=>.inl hq⟩
    · rw[HE.out.2.1];exact H.out.fr0 (HE.out.2.2.alloc _)
    · rw[HE.out.2.1];exact HH.out.2.2.2.fr (HE.out.2.2.alloc _) (by simp)
  · obtain⟨ma,mz,hg⟩:∃ma mz,G i=some (ma,mz,k):=by
      unfold qOf at hq;cases hs:G i with
      | none=>rw[hs]at hq;cases hq
      | some e=>rw[hs]at hq;simp at hq;subst hq;exact⟨e.1,e.2.1,rfl⟩
    have hall:∀t a b z,G t=some (a,b,z)->¬bef z t k i:=fun t a b z ht hb=>hmin t z (by simp[qOf,ht]) hb;have hfst:=aEJ (m:=i) ⟨ma,mz,k,hg,hall⟩;have hpop:uZ G=bS G i none:=by unfold uZ;rw[hfst]
    have hdel:=aGO hg hall;have his:=H.out.gw.slot _ _ hg;have hq4:=HH.out.1;have hx1:pf∉l:=fun hm=>(hq4 _ hm).1 rfl;have hx2:pl∉l:=fun hm=>(hq4 _ hm).2.1 rfl;have hx3:g∉l:=fun hm=>(hq4 _ hm).2.2.1 rfl;have hx4:mb∉l:=fun hm=>(hq4 _ hm).2.2.2 rfl;have hF3:Fr l w (w2.alloc (.cells #[.int .i64 i,.int .i64 k] 223)):=hF2.alloc _;have hB3:=H.out.fr hF3 hx1 hx2 hx3 hx4;have hH3:=hH2.fr ((Fr.refl [] w2).alloc (.cells #[.int .i64 i,.int .i64 k] 223)) (by simp);have hbx:=Blk.new w2 [.int .i64 i,.int .i64 k] 223;have hsz:=hF2.size;rw[aKJ]at hH3;have c4:=hB3.hd.cell 4;have x0:=hbx.cell 0;simp only[zI,zJ]at c4 x0;have hl0:=hB3.edges.run_get (t:=150) (e:=184) (z:=edZ) Tryz.underlying3 Tryz.underlying150 (by kernel_rfl) rfl (gD (s:=i) (by omega));rw[cU,hg]at hl0
    have fin:Hid (∀(T:Nat->Prop) (w4 w5:World),(∀t,T t↔aN (bS G i none) t)->FB w4 pf pl g ph mb S V G T key n->Fr [pf,pl,g,mb] (w2.alloc (.cells #[.int .i64 i,.int .i64 k] 223)) w4->Fr [mb] w4 w5->cV Tryz.prog 3 .i64 okA w5 mb (fX (bS G i none) T) (n-1) ->
        ∃L', FAt w5 pf S V (uZ G) L' /\ Fr (pf::pl::g::mb::l) w w5/\∀q∈L', q∈pf::pl::g::mb::l∨w.heap.size<=q):=qA (fun T w4 w5 hT hB4 hF4 hF5 hI=>by
      have hn:¬T i:=fun h=>by obtain⟨_,_,_,e,_⟩:=(hT i).1 h;rw[bD]at e;cases e
      have hB5:=(hB4.gone hg hn hF5 (by simp;exact hB4.ne3) (by simp;exact hB4.ne4) (by simp;exact hB4.ne5) hI).congrT hT;have hF35:Fr [pf,pl,g,mb] (w2.alloc (.cells #[.int .i64 i,.int .i64 k] 223)) w5:=hF4.trans' (hF5.mono (fun q hq=>.inl (by simp at hq ⊢;exact .inr (.inr (.inr hq)))));have hd:∀q∈l', q≠pf/\q≠pl/\q≠g/\q≠mb:=by
        intro q hq;rcases hN2 _ hq with e|e
        · exact hq4 _ e
        · have:=HH.out.2.2.1;omega
      rw[hpop];refine⟨_,⟨pl,g,ph,mb,l', key,n-1,hB5,hH3.fr hF35 (fun q hq hm=>by have:=hd q hq;simp at hm;omega),hd,rfl⟩,(hF3.mono (fun q hq=>.inl (by simp[hq]))).trans' (hF35.mono (fun q hq=>.inl (by simp at hq ⊢;omega))),fun q hq=>?_⟩;simp only[qB]at hq ⊢;rcases hq with e|e|e|e|e
      · exact .inl (.inl e)
      · exact .inl (.inr (.inl e))
      · exact .inl (.inr (.inr (.inl e)))
      · exact .inl (.inr (.inr (.inr (.inl e))))
      · exact(hN2 _ e).imp (fun e=>.inr (.inr (.inr (.inr e)))) id)
    have del:Hid (∀(T:Nat->Prop) (w4:World),FB w4 pf pl g ph mb S V G T key n->∃w5,(Builtin.delete_ #[150,3] 0 #[.map (some mb),.int .i64 i]).run Tryz.prog w4=.ok (.tuple #[]) w5/\cV Tryz.prog 3 .i64 okA w5 mb (fX (bS G i none) T) (n-1)/\Fr [mb] w4 w5):=qA (fun T w4 hB4=>by
      obtain⟨w5,hr,hI,hF⟩:=hB4.edges.del (t:=150) (e:=184) Tryz.underlying3 Tryz.underlying150 (gD (s:=i) (by omega)) 0;rw[cU,hg,aGW (fun _ _=>Iff.rfl)]at hI;exact⟨w5,hr,hI,hF⟩)
    have HE:=qA (zH hfst (zH hdel (zH hB3 (zH hbx hsz))));have HF3:=qA hF3;have HH3:=qA hH3;have HG:=qA hg;have HLo:=qA (fun(w' :World) (h:FB w' pf pl g ph mb S V G (aN G) key n) (ht:aN G i)=>aAP h hg ht);clear hfst hpop hdel hB3 hbx hF3 hH3 hH2 hF2 hN2 hq hmin hall hx1 hx2 hx3 hx4 hq4 c3 hg;by_cases ht:aN G i
    · have HT := qA ht; clear ht
      have HL:=qA (fun(nq:Nat)=>(show(Instr.lookup 150 (.map (some mb)) (.int .i64 i) false).run Tryz.prog ((w2.alloc (.cells #[.int .i64 i,.int .i64 k] 223)).drewN nq)=.ok (.agg #[.int .i64 ma,.int .i64 mz,.int .i64 k,.bool true]) ((w2.alloc (.cells #[.int .i64 i,.int .i64 k] 223)).drewN nq) by
        have:=(HE.out.2.2.1.fr0 ((Fr.refl [] _).drewN nq)).edges.run_get (t:=150) (e:=184) (z:=edZ) Tryz.underlying3 Tryz.underlying150 (by kernel_rfl) rfl (gD (s:=i) (by omega));rw[cU,HG.out]at this;have ht:=HT.out;simpa only[Option.map_some,Option.getD_some,ht,decide_true,decide_false,edV] using this))
      clear hl0;go_wp2_with fail
      refine cX (fun w' =>∃nq,w' =(w2.alloc (.cells #[.int .i64 i,.int .i64 k] 223)).drewN nq) (by kernel_rfl) (by kernel_rfl) ⟨1,rfl⟩ ?_;iterate 3 (refine aH (by kernel_rfl) (fun KK hK=>?_);go_simp;refine hK.out _ ?_;clear hK KK)
      refine aS (by kernel_rfl) (.map (some mb)) (fun w' hw' =>?_) ?_
      · obtain ⟨nq, rfl⟩ := hw'
        go_simp
      iterate 1 (refine aH (by kernel_rfl) (fun KK hK=>?_);go_simp;refine hK.out _ ?_;clear hK KK)
      refine aS (by kernel_rfl) (.int .i64 i) (fun w' hw' =>?_) ?_
      · obtain ⟨nq, rfl⟩ := hw'
        go_simp
      refine aS (by kernel_rfl) (.agg #[.int .i64 ma,.int .i64 mz,.int .i64 k,.bool true]) (fun w' hw' =>?_) ?_
      · obtain ⟨nq, rfl⟩ := hw'
        have hl:=HL.out nq;go_simp
      iterate 1 (refine aH (by kernel_rfl) (fun KK hK=>?_);go_simp;refine hK.out _ ?_;clear hK KK)
      refine fZ ?_;rintro w4 ⟨nq,rfl⟩;go_wp2_with fail
      refine(HLo.out _ (HE.out.2.2.1.fr0 ((Fr.refl [] _).drewN nq)) HT.out).mono ?_;rintro _ w4 ⟨rfl,hB4,hF4'⟩;have hF4:Fr [pf,pl,g,mb] (w2.alloc (.cells #[.int .i64 i,.int .i64 k] 223)) w4:=((Fr.refl _ _).drewN nq).trans' hF4';have hpf4:=hB4.hd;have hbx4:=hF4.blk HE.out.2.2.2.1 (by have N:=HH.out.2.2.1;have hsz:=HE.out.2.2.2.2;simp;omega);clear hF4' c4 x0;go_wp2_with fail
      have HX:=qA (zH hB4 (zH hF4 (zH hpf4 hbx4)));have x0:=hbx4.cell 0;have c4:=hpf4.cell 4;simp only[zI,zJ]at x0 c4;clear hB4 hF4 hpf4 hbx4;refine bE 6 (fun w' =>cV Tryz.prog 3 .i64 okA w' mb (fX (bS G i none) (fun t=>aN G t/\t≠i)) (n-1)/\Fr [mb] w4 w') (by kernel_rfl) (by kernel_rfl) (by kernel_rfl) ?_;iterate 6 (refine bN (by decide) (fun K hK=>?_);go_simp;refine hK _ ?_;clear hK K)
      refine aW rfl (.tuple #[]) (fun w' hw' =>?_) ?_
      · obtain ⟨nq, rfl⟩ := hw'
        obtain⟨w6,hrun,hI6,hF6⟩:=del.out _ _ (HX.out.1.fr0 ((Fr.refl [] _).drewN nq));go_simp
        first
          | exact⟨hI6,(((Fr.refl [mb] w4).drewN nq)).trans' hF6⟩
          | exact(((Fr.refl [mb] w4).drewN nq)).trans' hF6
      refine bO ?_;rintro w6 ⟨hI6,hF6⟩;have N:=HH.out.2.2.1;have hsz:=HE.out.2.2.2.2;have hbx6:=hF6.blk HX.out.2.2.2 (by simp;omega);have x0:=hbx6.cell 0;simp only[zI]at x0;have HI6:=qA (zH hI6 hF6);clear hI6 hF6 hbx6 c4;go_wp2
      go_ret2;exact⟨by rw[HE.out.1];rfl,fin.out _ _ _ (fun t=>(HE.out.2.1 t).symm) HX.out.1 HX.out.2.1 HI6.out.2 HI6.out.1⟩
    · have HT := qA ht; clear ht
      have HL:=qA (fun(nq:Nat)=>(show(Instr.lookup 150 (.map (some mb)) (.int .i64 i) false).run Tryz.prog ((w2.alloc (.cells #[.int .i64 i,.int .i64 k] 223)).drewN nq)=.ok (.agg #[.int .i64 ma,.int .i64 mz,.int .i64 k,.bool false]) ((w2.alloc (.cells #[.int .i64 i,.int .i64 k] 223)).drewN nq) by
        have:=(HE.out.2.2.1.fr0 ((Fr.refl [] _).drewN nq)).edges.run_get (t:=150) (e:=184) (z:=edZ) Tryz.underlying3 Tryz.underlying150 (by kernel_rfl) rfl (gD (s:=i) (by omega));rw[cU,HG.out]at this;have ht:=HT.out;simpa only[Option.map_some,Option.getD_some,ht,decide_true,decide_false,edV] using this))
      clear hl0;go_wp2_with fail
      refine cX (fun w' =>∃nq,w' =(w2.alloc (.cells #[.int .i64 i,.int .i64 k] 223)).drewN nq) (by kernel_rfl) (by kernel_rfl) ⟨1,rfl⟩ ?_;iterate 3 (refine aH (by kernel_rfl) (fun KK hK=>?_);go_simp;refine hK.out _ ?_;clear hK KK)
      refine aS (by kernel_rfl) (.map (some mb)) (fun w' hw' =>?_) ?_
      · obtain ⟨nq, rfl⟩ := hw'
        go_simp
      iterate 1 (refine aH (by kernel_rfl) (fun KK hK=>?_);go_simp;refine hK.out _ ?_;clear hK KK)
      refine aS (by kernel_rfl) (.int .i64 i) (fun w' hw' =>?_) ?_
      · obtain ⟨nq, rfl⟩ := hw'
        go_simp
      refine aS (by kernel_rfl) (.agg #[.int .i64 ma,.int .i64 mz,.int .i64 k,.bool false]) (fun w' hw' =>?_) ?_
      · obtain ⟨nq, rfl⟩ := hw'
        have hl:=HL.out nq;go_simp
      iterate 1 (refine aH (by kernel_rfl) (fun KK hK=>?_);go_simp;refine hK.out _ ?_;clear hK KK)
      refine fZ ?_;rintro w4 ⟨nq,rfl⟩;go_wp2_with fail
      have hF4:Fr [pf,pl,g,mb] (w2.alloc (.cells #[.int .i64 i,.int .i64 k] 223)) ((w2.alloc (.cells #[.int .i64 i,.int .i64 k] 223)).drewN nq):=(Fr.refl _ _).drewN nq;have hB4:=HE.out.2.2.1.fr0 ((Fr.refl [] _).drewN nq);have hbx4:=(Fr.refl [] _).drewN nq |>.blk HE.out.2.2.2.1 (by simp)
      generalize (w2.alloc (.cells #[.int .i64 i,.int .i64 k] 223)).drewN nq=w4 at *;have hpf4:=hB4.hd;clear c4 x0;have HX:=qA (zH hB4 (zH hF4 (zH hpf4 hbx4)));have x0:=hbx4.cell 0;have c4:=hpf4.cell 4;simp only[zI,zJ]at x0 c4;clear hB4 hF4 hpf4 hbx4;refine bE 6 (fun w' =>cV Tryz.prog 3 .i64 okA w' mb (fX (bS G i none) (aN G)) (n-1)/\Fr [mb] w4 w') (by kernel_rfl) (by kernel_rfl) (by kernel_rfl) ?_;iterate 6 (refine bN (by decide) (fun K hK=>?_);go_simp;refine hK _ ?_;clear hK K)
      refine aW rfl (.tuple #[]) (fun w' hw' =>?_) ?_
      · obtain ⟨nq, rfl⟩ := hw'
        obtain⟨w6,hrun,hI6,hF6⟩:=del.out _ _ (HX.out.1.fr0 ((Fr.refl [] _).drewN nq));go_simp
        first
          | exact⟨hI6,(((Fr.refl [mb] w4).drewN nq)).trans' hF6⟩
          | exact(((Fr.refl [mb] w4).drewN nq)).trans' hF6
      refine bO ?_;rintro w6 ⟨hI6,hF6⟩;have N:=HH.out.2.2.1;have hsz:=HE.out.2.2.2.2;have hbx6:=hF6.blk HX.out.2.2.2 (by simp;omega);have x0:=hbx6.cell 0;simp only[zI]at x0;have HI6:=qA (zH hI6 hF6);clear hI6 hF6 hbx6 c4;go_wp2
      go_ret2;exact⟨by rw[HE.out.1];rfl,fin.out _ _ _ (fun t=>((HE.out.2.1 t).trans ⟨fun h=>h.1,fun h=>⟨h,by rintro rfl;exact HT.out h⟩⟩).symm) HX.out.1 HX.out.2.1 HI6.out.2 HI6.out.1⟩
end
end Go.Proofs.YtjdgpcjbgjnahaaGreatDoor
namespace Go.Proofs.YtjdgpcjbgjnahaaGreatDoor
open Go.RowKit Go.Maps
def jZ(P:Program)(k:TypeId)(q:IntKind)(ok:Value->Bool)(w:World)(b r:Nat)(m:Int->Option Value)(n:Nat)(done:List Int)(cnt:Nat):Prop:=
  ∃(D:DataW Value) (left:Lit->Bool),w.ranges P k (sV ok) b r n D left cnt/\Tidy D/\Maps.size D=n /\
    (∀a:Int,(Lit.int q a).wf=true->(Maps.has D (.int q a)=(m a).isSome/\∀v,m a=some v->ok v=true/\∀z,D.atKey (.int q a) z=.held v)) /\
    done.Nodup/\(∀x∈done,(Lit.int q x).wf=true/\(m x).isSome=true)/\(∀x,(Lit.int q x).wf=true->(left (.int q x)=true↔(m x).isSome=true/\x∉done))
section
variable {P:Program} {k t e:TypeId} {q:IntKind} {ok:Value->Bool} {w w' :World} {b r n cnt:Nat} {m:Int->Option Value} {done:List Int}
theorem jZ.fr{S:List Nat}(h:jZ P k q ok w b r m n done cnt)(hf:Fr S w w')(hb:b∉S)(hr:r∉S):jZ P k q ok w' b r m n done cnt:=by
 obtain⟨D,left,h1,h2⟩:=h;refine⟨D,left,?_,h2⟩;have l1:=h1.owns.lt;have l2:=h1.lt;obtain⟨es,clock,since,seen,c0,hb', F,hs,hD,hr', rest⟩:=h1;exact⟨es,clock,since,seen,c0,(hf.keep b l1 hb).trans hb', F,hs,hD,(hf.keep r l2 hr).trans hr', rest⟩
theorem jZ.left_eq(h:jZ P k q ok w b r m n done cnt):w.rangeLeft b r=cnt:=by
 obtain⟨D,left,h1,_⟩:=h;exact h1.left_eq
variable {ops:Array Oper} {rest:List Oper} {o:Oper} {a:Act} {Q:Exit->Act->World->Prop}
theorem vA(hg:o.guard=none)(mo:Operand)(hop:o.op=Op.range t mo)(h:cV P k q ok w b m n)(hk:P.underlying k=some (.int q))(ht:P.underlying t=some (.map k e))
    (hm:a.eval mo=.map (some b)) (hK:∀w' cnt,jZ P k q ok w' b w.heap.size m n [] cnt->cnt<=n->Fr [] w w' -> w'.heap.size=w.heap.size+1->wpList P ops Q rest (a.put o.dst (.pointer (some ⟨w.heap.size,0,none⟩))) w'):
    wpList P ops Q (o::rest) a w:=by
 obtain⟨D,h1,h2,h3,h4⟩:=h;refine wpList_range_own w hg mo t hop k e (int_keyed hk) ht (sV ok) b n D hm h1 fun w' hr hgw hs=>?_;refine hK w' _ ⟨D,Maps.has D,hr,h2,h3,h4,.nil,(fun x hx=>by cases hx),fun x hx=>?_⟩ (by rw[h3];exact qJ _) ((Fr.refl _ _).grown hgw (fun k e=>by cases e)) hs;rw[(h4 x hx).1];simp
theorem xZ(hg:o.guard=none)(it:Operand)(hop:o.op=Op.next it false)(hk:P.underlying k=some (.int q))(hit:a.eval it=.pointer (some ⟨r,0,none⟩))(h:jZ P k q ok w b r m n done cnt)
    (hDone:(∀x,(Lit.int q x).wf=true->(m x).isSome=true->x∈done)->wpList P ops Q rest (a.put o.dst (.tuple #[.bool false])) w)
    (hMore:∀(x:Int) (c:Value) (w' :World) (cnt' :Nat),(Lit.int q x).wf=true->m x=some c->x∉done->jZ P k q ok w' b r m n (done++[x]) cnt' -> cnt' < cnt->Fr [r] w w' -> w'.heap.size=w.heap.size ->
      (Instr.entry (.pointer (some ⟨r,0,none⟩))).run P w' =.ok (.tuple #[.int q x,c]) w' -> wpList P ops Q rest (a.put o.dst (.tuple #[.bool true,.int q x,c])) w'):
    wpList P ops Q (o::rest) a w:=by
 obtain⟨D,left,h1,h2,h3,h4,h5,h6,h7⟩:=h
 refine wpList_next_ranges w hg it hop k (int_keyed hk) (sV ok) (Value.int q) (fun (c : Value) => c) (fun key kl hkey => by obtain ⟨x, rfl, _⟩ := Maps.keyOf_int_inv hk hkey; exact ⟨x, rfl⟩) (fun v y _ => ⟨v, rfl⟩) b r n D left cnt hit h1
   (fun _ hl=>hDone fun x hx hs=>qP fun hn=>by have:=(h7 x hx).2 ⟨hs,hn⟩;rw[hl]at this;cases this) ?_
 intro x c kl y w' cnt' hkey hlk hv hat hrg hlt hgr hsz hen;obtain⟨x', ex,rfl,hw⟩:=Maps.keyOf_int_inv hk hkey;cases ex;obtain⟨hsome,hnd⟩:=(h7 x hw).1 hlk;obtain⟨u,hu⟩:=qU.1 hsome;have hcu:c=u:=by {
 have e1:=hat (.held undef);rw[((h4 x hw).2 u hu).2]at e1;unfold sV at hv;split at hv
 · cases hv;simpa using e1.symm
 · cases hv};subst hcu;refine hMore x c w' cnt' hw hu hnd ⟨D,_,hrg,h2,h3,h4,?_,fun z hz=>?_,fun z hz=>?_⟩ hlt ((Fr.refl _ _).grown hgr (fun k e=>.inl (by simp at e;simp[e]))) hsz hen
 · exact qM.2 ⟨h5,by simp,by rintro a ha b hb rfl;simp at hb;subst hb;exact hnd ha⟩
 {
 rcases qE.1 hz with hz|hz
 · exact h6 z hz
 · simp at hz;subst hz;exact⟨hw,hsome⟩}
 {
 have e:(Lit.int q z).sameKey (.int q x)=decide (z=x):=by simp[Lit.sameKey]
 show(left (.int q z)&&!(Lit.int q z).sameKey (.int q x))=true↔_
 rw[e,qW,h7 z hz];simp only[qE,qH,not_or,Bool.not_eq_true', decide_eq_false_iff_not,and_assoc]}
end
end Go.Proofs.YtjdgpcjbgjnahaaGreatDoor
namespace Go.Proofs.YtjdgpcjbgjnahaaGreatDoor
open Go.RowKit Go.Sort
end Go.Proofs.YtjdgpcjbgjnahaaGreatDoor
namespace Go.Proofs.YtjdgpcjbgjnahaaGreatDoor
open Go.RowKit Classical
section
variable {w w' :World} {pf pl g ph mb S V n:Nat} {G:cW} {key:Nat->Int}
end
def aAS(S v:Nat):Nat->Int:=fun u=>if S<=u/\u<S+v then 9223372036854775807 else 0
theorem aGX(S:Nat):aAS S 0=fun _=>0:=by funext u;unfold aAS;rw[qC (by omega)]
theorem aGY{S V v:Nat}(h:v<V):eH (S+V) (aAS S v) ((S:Int)+v) 9223372036854775807=aAS S (v+1):=by
 funext u
 unfold eH aAS;by_cases hu:u=((S:Int)+v).toNat
 · rw[qD ⟨by simp[inV];omega,hu⟩,qD (by omega)]
 {
 rw[qC (fun h=>hu h.2)];by_cases h2:S<=u/\u<S+v
 · rw[qD h2,qD (by omega)]
 · rw[qC h2,qC (by omega)]}
theorem aQO(V S:Nat)(w:World)(hV:V<=4096)(hS:S<=16384):
    Calls Tryz.prog 86 #[.int .i64 V,.int .i64 S] w fun r w' =>∃pf,r=.returned (.tuple #[eM pf,.int .i64 0])/\∃L,FAt w' pf S V (fun _=>none) L/\Fr [] w w' /\ ∀q∈L,w.heap.size<=q:=by
 have d1:decide ((V:Int)<0)=false:=qF (by omega);have d2:decide ((V:Int)>4096)=false:=qF (by omega);have d3:decide ((S:Int)<0)=false:=qF (by omega);have d4:decide ((S:Int)>16384)=false:=qF (by omega);have d2' :¬4096<V:=by omega
 have d4' :¬16384<S:=by omega
 have hw1:IntKind.i64.wrap ((S:Int)+V)=((S+V:Nat):Int):=by rw[show(S:Int)+V=((S+V:Nat):Int) by omega];exact zF _ (by omega)
 have hmk:∀W:World,(Instr.makeMap 150 none).run Tryz.prog W=.ok (.map (some W.heap.size)) (W.alloc (.map #[] 0)):=fun W=>by kernel_rfl
 have HL:=qA (aST (S+V) w (by omega));have HHn:=qA (fun(w' :World)=>aKD S w' (by omega));go_enter Tryz.func86,Tryz.ntmps86
 go_wp2_with (go_at_call 130;refine HL.out.mono ?_;rintro _ w1 ⟨pl,g,rfl,hL1,hF1,hp1,hg1⟩)
 have H1:=qA (zH hL1 (zH hF1 (zH hp1 hg1)));clear hL1 hF1 hp1 hg1 HL;go_loopw [35] (fun x wr=>∃v:Nat,v<=V/\x=.int .i64 v/\Hid (LM wr pl g (S+V) (fun _ _=>False) (aAS S v)/\Fr [] w wr)) (fun x _=>V-(intOf x).toNat)
 case atStart=>exact⟨0,qR _,rfl,qA ⟨by rw[aGX];exact H1.out.1,H1.out.2.1⟩⟩
 case round=>
  obtain⟨v,hv,rfl,HR⟩:=hrel;by_cases hlt:v<V
  {
  have hlt' :(v:Int)<V:=by omega
  have SW:=aPH HR.out.1 ((S:Int)+v) 9223372036854775807;rw[aGY hlt]at SW;have HS:=qA SW;clear SW;have hw2:IntKind.i64.wrap ((S:Int)+v)=(S:Int)+v:=zF _ (by omega);have hw3:IntKind.i64.wrap ((v:Int)+1)=((v+1:Nat):Int):=by rw[show(v:Int)+1=((v+1:Nat):Int) by omega];exact zF _ (by omega)
  go_wp2_with (go_at_call 131;refine HS.out.mono ?_;rintro _ w2 ⟨rfl,hL2,hF2⟩)
  go_roundw
  case rel=>exact⟨v+1,by omega,rfl,qA ⟨hL2,HR.out.2.trans hF2 (fun q hq=>.inr (by simp at hq;subst hq;exact H1.out.2.2.2))⟩⟩
  case measure=>simp[intOf];omega}
  {
  obtain rfl:v=V:=by omega
  have HN:=qA (HHn.out wr);go_wp2_with (go_at_call 129;refine HN.out.mono ?_;rintro _ w3 ⟨ph,rfl,l,hH3,hF3,hN3⟩)
  go_ret2;have hn:∀t,¬aN (fun _=>none) t:=by rintro t ⟨_,_,_,e,_⟩;cases e
  have hc0:gM S (aN fun _=>none)=0:=by rw[nL (T' :=fun _=>False) (fun t=>⟨hn t,False.elim⟩),vX]
  have hb:=Blk.new (w3.alloc (.map #[] 0)) [.int .i64 v,.int .i64 S,eM pl,aR ph,.map (some w3.heap.size),.int .i64 0] 152;have hm:=cV.made w3 Tryz.prog 3 .i64 okA;have hf:Fr [] wr ((w3.alloc (.map #[] 0)).alloc (.cells [.int .i64 v,.int .i64 S,eM pl,aR ph,.map (some w3.heap.size),.int .i64 0].toArray 152)):=(hF3.alloc _).alloc _;have hl:=(LG.lts HR.out.1);have hsz:=hF3.size;have hsr:=HR.out.2.size;have hw1s:=H1.out.2.1.size;have hf2:Fr [] w3 ((w3.alloc (.map #[] 0)).alloc (.cells [.int .i64 v,.int .i64 S,eM pl,aR ph,.map (some w3.heap.size),.int .i64 0].toArray 152)):=((Fr.refl _ _).alloc _).alloc _;refine⟨w3.heap.size+1,rfl,_,⟨pl,g,ph,w3.heap.size,l,aAS S v,0,⟨?_,?_,?_,GW.no S v,⟨fun _ _ _ _ h=>(by cases h),fun u hu=>?_⟩,?_,hS,hV,?_,?_,?_,?_,?_⟩,?_,?_,rfl⟩,HR.out.2.trans hf (by simp),?_⟩
  · rw[hc0];simpa using hb
  · rw[aNC];exact LG.fr HR.out.1 hf (by simp) (by simp)
  {
  have e:fX (fun _=>none) (aN fun _=>none)=fun _=>none:=by funext k;unfold fX;split<;>rfl
  rw[e];exact(hm.same (Below.heap_alloc _ _ _ (by simp)))}
  · unfold aAS;rw[qD (by omega)]
  · rw[nL (T' :=fun _=>False) (fun t=>by simp),vX]
  · have:=hl.1;omega
  · have:=hl.2.1;omega
  · omega
  · have:=hl.1;omega
  · have:=hl.2.1;omega
  · exact hH3.fr hf2 (by simp)
  {
  intro b hb;have h1:=hN3 b hb;have h2:=hH3.lt b hb;have:=hl.1;have:=hl.2.1;omega}
  {
  intro q hq;simp only[qB]at hq;have h1:=H1.out.2.2;rcases hq with rfl|rfl|rfl|rfl|hq
  · omega
  · exact h1.1
  · exact h1.2
  · omega
  · have:=hN3 q hq;omega}}
structure FO (w wr:World) (pf S V:Nat) (G:cW) (L:List Nat):Prop where
  f:FAt wr pf S V G L
  fr:Fr [] w wr
  new:∀q∈L,w.heap.size<=q
def FM(w wr w' :World)(pf S V:Nat)(G:cW)(L:List Nat):Prop:=∃L', FO w w' pf S V G L' /\ Fr L wr w' /\ ∀q∈L', q∈L∨wr.heap.size<=q
section
variable {w wr w' :World} {pf S V:Nat} {G G' :cW} {L L' :List Nat}
theorem FO.next(h:FO w wr pf S V G L)(h1:FAt w' pf S V G' L')(h2:Fr L wr w')(h3:∀q∈L', q∈L∨wr.heap.size<=q):FM w wr w' pf S V G' L:=
  ⟨L', ⟨h1,h.fr.trans h2 (fun q hq=>.inr (h.new q hq)),fun q hq=>(h3 q hq).elim (h.new q) (fun e=>zG h.fr.size e)⟩,h2,h3⟩
theorem FO.keep(h:FO w wr pf S V G L){X:List Nat}(hf:Fr X wr w')(hx:∀b∈L,b∉X)(hw:∀b∈X,w.heap.size<=b):FO w w' pf S V G L:=
  ⟨h.f.fr hf hx,h.fr.trans hf (fun q hq=>.inr (hw q hq)),h.new⟩
theorem FO.keep0(h:FO w wr pf S V G L)(hf:Fr [] wr w'):FO w w' pf S V G L:=h.keep hf (by simp) (by simp)
theorem FO.self(h:FO w wr pf S V G L)(h2:Fr [] wr w'):FM w wr w' pf S V G L:=⟨L,h.keep0 h2,h2.mono (by simp),fun _ hq=>.inl hq⟩
theorem aQP(h:FO w wr pf S V G L)(s a b x:Int)(hx:-9223372036854775808<=x/\x<=9223372036854775807):
    Calls Tryz.prog 138 #[eM pf,.int .i64 s,.int .i64 a,.int .i64 b,.int .i64 x] wr fun e w' =>e=.returned (.int .i64 (eB S V G s a b))/\FM w wr w' pf S V (rV S V G s a b x) L:=by
 by_cases h1:inV S s=true/\inV V a=true/\inV V b=true
 {
 obtain⟨s,rfl,hs⟩:=dU h1.1;obtain⟨a,rfl,ha⟩:=dU h1.2.1;obtain⟨b,rfl,hb⟩:=dU h1.2.2;by_cases hab:a=b
 {
 have e1:eB S V G s a b=9:=by unfold eB;rw[qD h1,qD (by omega)]
 have e2:rV S V G s a b x=G:=by unfold rV;rw[e1,qC (by omega)]
 rw[e1,e2];obtain⟨pl,g,ph,mb,l,key,n,hB,_⟩:=id h.f;refine(aET hB hs ha hb x (.inl hab)).mono ?_;rintro e w' ⟨rfl,hf⟩;exact⟨by rw[qD hab],h.self hf⟩}
 {
 cases hg:G s with
 | some e=>{
 have e1:eB S V G s a b=6:=by unfold eB;rw[qD h1,qC (by omega),zC,hg];rfl
 have e2:rV S V G s a b x=G:=by unfold rV;rw[e1,qC (by omega)]
 rw[e1,e2];obtain⟨pl,g,ph,mb,l,key,n,hB,_⟩:=id h.f;refine(aET hB hs ha hb x (.inr ⟨hab,by rw[hg];rfl⟩)).mono ?_;rintro e w' ⟨rfl,hf⟩;exact⟨by rw[qC hab],h.self hf⟩}
 | none=>{
 have e1:eB S V G s a b=0:=by unfold eB;rw[qD h1,qC (by omega),zC,hg];rfl
 have e2:rV S V G s a b x=bS G s (some (a,b,x)):=by unfold rV;rw[e1,qD rfl];simp
 rw[e1,e2];refine(aKI h.f hs ha hb hab hg x hx).mono ?_;rintro e w' ⟨rfl,L', h2,h3,h4⟩;exact⟨rfl,h.next h2 h3 h4⟩}}}
 {
 have e1:eB S V G s a b=3:=by unfold eB;rw[qC h1]
 have e2:rV S V G s a b x=G:=by unfold rV;rw[e1,qC (by omega)]
 rw[e1,e2];obtain⟨pl,g,ph,mb,l,key,n,hB,_⟩:=id h.f;refine(aKG hB s a b x h1).mono ?_;rintro e w' ⟨rfl,rfl⟩;exact⟨rfl,h.self (Fr.refl _ _)⟩}
theorem aQQ(h:FO w wr pf S V G L):Calls Tryz.prog 108 #[eM pf] wr fun e w' =>e=.returned (.tuple #[.int .i64 ((oR G).getD 0:Nat),.bool (oR G).isSome])/\FM w wr w' pf S V (uZ G) L:=by
 refine(aQN h.f).mono ?_;rintro e w' ⟨rfl,L', h2,h3,h4⟩;exact⟨rfl,h.next h2 h3 h4⟩
end
end Go.Proofs.YtjdgpcjbgjnahaaGreatDoor
namespace Go.Proofs.YtjdgpcjbgjnahaaGreatDoor
open Go.RowKit
theorem aEU{M:Md}(hok:M.Ok){id:Nat}(hid:id<18446744073709551616)(hf:aCG M id){iv:Int->Option Value}{f:List Nat}(h1:(iv id).isSome=true↔f≠[])(h2:(M.find id).isSome=true↔f≠[]):
    (if (iv id).isSome=true then M.L.length else M.L.length+1)=(M.put id).M.L.length:=by
 rw[(kN hok hid hf).2.2.1];by_cases e:f=[]
 · rw[qC (fun h=>h1.1 h e),qC (fun h=>h2.1 h e)]
 · rw[qD (h1.2 e),qD (h2.2 e)];rfl
theorem wC(p:List Nat)(i:Nat):fK (p++[i])=fK p++[.int .i64 i]:=by simp[fK]
theorem aKK{w w7 wo:World}{ps pa pt mb n n' sl q1 u v:Nat}{wt t x:Int}{vl vb:Value}{s:Sm}{la la' lT lb:List Nat}{c c7:Nat->Nat}(HB:StB w ps pa pt mb n vl s la lT lb c)(hck:s.chk u v=0)(hu:u<18446744073709551616)(hv:v<18446744073709551616)
    (hll:s.last+1<18446744073709551616) (hsl:sl=s.slot) (hq1:q1=s.last+1)
    (HS2:mI w7 ps pt mb vb la' lT lb (uT s.M u v 2) (mJ (bT s.L) u v sl 2) (uT s.M u v 2).L.length wo)
    (HD7:Blk w7 ps 145 [.int .i64 s.V,.int .i64 s.E,.int .u64 q1,ptr pa,ptr pt,vb,.map (some mb)])
    (hA7:aU w7 pa s.A.alloc la') (hr7:dA w7 vb ((List.range n').map (aG (s.L++[⟨sl,q1,u,v,wt,t,x⟩])))) (hF7:Fr (ps::(la++vl.ownBlock.toList)) w w7) (HCL:Cls c7 ps mb vb la' lT lb)
    (hA1:∀q∈la', q∈la∨w.heap.size+2<=q) (hV1:∀q,vb.ownBlock=some q->vl.ownBlock=some q∨w.heap.size+2<=q) (hs7:w.heap.size+2<=w7.heap.size) (hnn:n<=n') (hgt:sl<n') (hn' :n' <= s.E):
    ∃K', bF (Go.Proofs.YtjdgpcjbgjnahaaGreatDoor.put7 wo (w.heap.size+1) 0 ⟨sl,q1,u,v,wt,t,x⟩) ps (s.ins u v wt t x) K' /\ Fr (stK ps mb vl la lT lb) w (Go.Proofs.YtjdgpcjbgjnahaaGreatDoor.put7 wo (w.heap.size+1) 0 ⟨sl,q1,u,v,wt,t,x⟩)/\∀q∈K', q∈stK ps mb vl la lT lb∨w.heap.size<=q:=by
 subst hsl hq1;have HLT:=HB.lt;have hput:Fr [w.heap.size+1] wo (Go.Proofs.YtjdgpcjbgjnahaaGreatDoor.put7 wo (w.heap.size+1) 0 ⟨s.slot,s.last+1,u,v,wt,t,x⟩):=(Fr.refl _ _).put7 _ _ _ (.inl (by simp));have hE:(⟨s.slot,s.last+1,u,v,wt,t,x⟩:Lv)=s.edge u v wt t x:=rfl;have hUV:=(Sm.chk_ok HB.ok hck).1;have hFr:=HS2.fr;obtain⟨lT', lb', c', hc', hT', hI', hF', h5', h6'⟩:=HS2;have hs1:=hFr.size;have hpsw' :ps<w.heap.size:=HLT ps (by simp[stK]);have hmbw:mb<w.heap.size:=HLT mb (by simp[stK]);have hTw:∀q∈lT,q<w.heap.size:=fun q hq=>HLT q (by simp[stK,hq]);have hBw:∀q∈lb,q<w.heap.size:=fun q hq=>HLT q (by simp[stK,hq]);have hAn:∀q∈la', q∉mb::(lT++lb):=fun q hq hm=>by
   have a1:=HCL.a q hq;simp only[qB,qE]at hm;rcases hm with rfl|e|e
   · have:=HCL.m;omega
   · have:=HCL.t q e;omega
   · have:=HCL.b q e;omega
 have hVn:∀q,vb.ownBlock=some q->q∉mb::(lT++lb):=fun q hq hm=>by
   have a1:=HCL.l q hq;simp only[qB,qE]at hm;rcases hm with rfl|e|e
   · have:=HCL.m;omega
   · have:=HCL.t q e;omega
   · have:=HCL.b q e;omega
 have hnx:∀q:Nat,(q<w.heap.size∨w.heap.size+2<=q)->q∉[w.heap.size+1]:=fun q hq hm=>by
   rw[qH]at hm;omega
 have hLa:∀q∈la,q<w.heap.size:=fun q hq=>HLT q (by simp[stK,hq]);have hLv:∀q,vl.ownBlock=some q->q<w.heap.size:=fun q hq=>HLT q (by simp[stK,hq]);have hPN:ps∉mb::(lT++lb):=fun hm=>by
   have a1:=HCL.p;simp only[qB,qE]at hm;rcases hm with e|e|e
   · have:=HCL.m;rw[<-e]at this;omega
   · have:=HCL.t ps e;omega
   · have:=HCL.b ps e;omega
 have hok:=Sm.ok_ins HB.ok hu hv hck hll wt t x;have hins:mJ (bT s.L) u v s.slot 2=bT (s.L++[s.edge u v wt t x]):=by exact aIQ (e:=s.edge u v wt t x) hUV
 refine⟨_,⟨pa,pt,mb,n', _,la', lT', lb', c', ⟨?_,?_,?_,?_,?_,?_,hn', hok,hc'⟩,rfl⟩,?_,?_⟩
 · exact hput.blk (hFr.blk HD7 hPN) (hnx ps (.inl hpsw'))
 · exact(hA7.fr hFr hAn).fr hput (fun q hq=>hnx q ((hA1 q hq).imp (hLa q) (fun e=>e)))
 · exact hT'.fr hput (fun q hq=>hnx q ((h5' q hq).imp (hTw q) (fun e=>by omega)))
 {
 have:=(hr7.fr hFr hVn).fr hput (fun q hq=>hnx q ((hV1 q hq).imp (hLv q) (fun e=>e)));exact this}
 {
 rw[hins]at hI';exact hI'.fr hput (hnx mb (.inl hmbw)) (fun q hq=>hnx q ((h6' q hq).imp (hBw q) (fun e=>by omega)))}
 {
 intro e he;rcases qE.1 he with he|he
 · have:=HB.sn e he;omega
 {
 rw[qH]at he;rw[he,<-hE];exact hgt}}
 {
 refine((hF7.mono (S' :=stK ps mb vl la lT lb) (fun q hq=>.inl ?_)).trans hFr (fun q hq=>.inl ?_)).put7 _ _ _ (.inr (by omega))
 {
 simp only[qB,qE,Option.mem_toList]at hq;rcases hq with e|e|e<;>simp[stK,e]}
 {
 simp only[qB,qE]at hq;rcases hq with e|e|e<;>simp[stK,e]}}
 {
 intro q hq;simp only[stK,qB,qE,Option.mem_toList]at hq;rcases hq with e|e|((e|e)|e)|e
 · exact .inl (by simp[stK,e])
 · exact .inl (by simp[stK,e])
 · exact(hA1 q e).imp (fun e=>by simp[stK,e]) (fun e=>by omega)
 · exact(h5' q e).imp (fun e=>by simp[stK,e]) (fun e=>by omega)
 · exact(hV1 q e).imp (fun e=>by simp[stK,e]) (fun e=>by omega)
 · exact(h6' q e).imp (fun e=>by simp[stK,e]) (fun e=>by omega)}
section
variable {w w' :World} {ps:Nat} {s:Sm} {K:List Nat}
theorem aCY(h:bF w ps s K)(u v:Nat)(hu:u<18446744073709551616)(hv:v<18446744073709551616)(wt t x:Int)(hc:s.chk u v=0)(hl:s.last+1<18446744073709551616):
    Calls Tryz.prog 135 #[iM ps,pN u v wt t,.int .i64 x] w fun e w' =>e=.returned (.tuple #[lvA (s.edge u v wt t x),.int .i64 0])/\∃K', bF w' ps (s.ins u v wt t x) K' /\ Fr K w w' /\ ∀q∈K', q∈K∨w.heap.size<=q:=by
 obtain⟨pa,pt,mb,n,vl,la,lT,lb,c,hB,rfl⟩:=id h;have H:=qA h;have HCK:=qA hc;have HLL:=qA hl;have hn:=Sm.slot_next hB.ok hc;obtain⟨hnu,hiff⟩:=Md.isUsed_alloc' hB.ok.ar hn;obtain⟨sl,hsl⟩:∃sl,sl=s.slot:=⟨_,rfl⟩;rw[<-hsl]at hn hnu hiff;have hslE:sl<s.E:=by rw[<-hB.ok.sl];exact sS hB.ok.ar hn
 have hE:=hB.ok.leE;have hltw:=hB.lt;have hlast:IntKind.u64.wrap ((s.last:Int)+1)=((s.last+1:Nat):Int):=by simp[IntKind.wrap,IntKind.bits,IntKind.signed];omega
 have HB:=qA hB;have HSL:=qA hsl;have HLT:=qA hltw;have HNU:=qA (zH hn (zH hnu hiff));clear h hc hB hn hnu hiff hsl hltw hl;go_enter Tryz.func135,Tryz.ntmps135
 go_wp2_with fail
 have hf0:Fr [] w ((w.alloc (.cells #[.int .u64 u,.int .u64 v,.int .i64 wt,.int .i64 t] 72)).alloc (.cells #[.int .i64 0,.int .u64 0,.int .u64 0,.int .u64 0,.int .i64 0,.int .i64 0,.int .i64 0] 74)):=((Fr.refl [] w).alloc _).alloc _;have hbx:Blk ((w.alloc (.cells #[.int .u64 u,.int .u64 v,.int .i64 wt,.int .i64 t] 72)).alloc (.cells #[.int .i64 0,.int .u64 0,.int .u64 0,.int .u64 0,.int .i64 0,.int .i64 0,.int .i64 0] 74)) (w.heap.size+1) 74 [.int .i64 0,.int .u64 0,.int .u64 0,.int .u64 0,.int .i64 0,.int .i64 0,.int .i64 0]:=by {
 have:=Blk.new (w.alloc (.cells #[.int .u64 u,.int .u64 v,.int .i64 wt,.int .i64 t] 72)) [.int .i64 0,.int .u64 0,.int .u64 0,.int .u64 0,.int .i64 0,.int .i64 0,.int .i64 0] 74;simpa using this};have hbr:Blk ((w.alloc (.cells #[.int .u64 u,.int .u64 v,.int .i64 wt,.int .i64 t] 72)).alloc (.cells #[.int .i64 0,.int .u64 0,.int .u64 0,.int .u64 0,.int .i64 0,.int .i64 0,.int .i64 0] 74)) w.heap.size 72 [.int .u64 u,.int .u64 v,.int .i64 wt,.int .i64 t]:=(Blk.new w _ _).alloc _;have hs1:((w.alloc (.cells #[.int .u64 u,.int .u64 v,.int .i64 wt,.int .i64 t] 72)).alloc (.cells #[.int .i64 0,.int .u64 0,.int .u64 0,.int .u64 0,.int .i64 0,.int .i64 0,.int .i64 0] 74)).heap.size=w.heap.size+2:=by simp
 have HC:=oG (H.out.fr0 hf0) u v hu hv wt t;rw[HCK.out]at HC;have HC:=qA HC;generalize (w.alloc (.cells #[.int .u64 u,.int .u64 v,.int .i64 wt,.int .i64 t] 72)).alloc (.cells #[.int .i64 0,.int .u64 0,.int .u64 0,.int .u64 0,.int .i64 0,.int .i64 0,.int .i64 0] 74)=w1 at *;refine HC.out.mono ?_;rintro _ w2 ⟨rfl,h2⟩;have hF2:=hf0.trans' h2;have c3:=(hF2.blk HB.out.hd (by simp)).cell 3;simp only[zI,zJ]at c3;have HX:=qA (zH hF2 (zH (h2.blk hbx (by simp)) (zH (h2.blk hbr (by simp)) (show w.heap.size+2<=w2.heap.size by have:=h2.size;omega))));have HA:=qA (iR (HB.out.fr hF2 (by simp)).ar HNU.out.1);clear hf0 h2 hbx hbr hs1 HC hF2;go_wp2_with fail
 refine HA.out.mono ?_;rintro _ w3 ⟨rfl,la', hA3,hF3,hn3⟩;clear HA c3;have hla:∀b∈la,b<w.heap.size:=fun b hb=>HLT.out b (by simp[stK,hb]);have hpl:ps∉la:=fun hm=>by have e1:=HB.out.cls.a ps hm;have e2:=HB.out.cls.p;omega
 have hd3:=hF3.blk (HX.out.1.blk HB.out.hd (by simp)) hpl;have hx3:=hF3.blk HX.out.2.1 (fun hm=>by have:=hla _ hm;omega);have hr3:=hF3.blk HX.out.2.2.1 (fun hm=>by have:=hla _ hm;omega);have hs3:w.heap.size+2<=w3.heap.size:=by have h1:=HX.out.2.2.2;have h2:=hF3.size;omega
 have c2:=hd3.cell 2;have z2:=hd3.frozen 2;simp only[zI,zJ]at c2;have HX3:=qA (zH hd3 (zH hx3 (zH hr3 (zH hA3 (zH hF3 hn3)))));clear hd3 hx3 hr3 hA3 hF3 hn3 hla hpl;have hpsw:ps<w.heap.size:=HLT.out ps (by simp[stK]);have HR3:=qA HX3.out.2.2.1;have p0:=HR3.out.cell 0;have p1:=HR3.out.cell 1;have p2:=HR3.out.cell 2;have p3:=HR3.out.cell 3;simp only[zI,zJ]at p0 p1 p2 p3;have hne:ps≠w.heap.size:=by omega
 go_wp2_with fail
 obtain⟨q1,hq1⟩:∃q1:Nat,q1=s.last+1:=⟨_,rfl⟩;rw[show(s.last:Int)+1=(q1:Nat) by omega];have HQ1:=qA hq1;clear hq1 hlast;have hF4:Fr (ps::la) w2 (w3.setCell ⟨ps,2,none⟩ (.int .u64 q1)):=(HX3.out.2.2.2.2.1.mono (by simp +contextual)).setCell _ _ (.inl (by simp));have hd4:=HX3.out.1.set 2 (.int .u64 q1);have hx4:=HX3.out.2.1.other ⟨ps,2,none⟩ (.int .u64 q1) (by show w.heap.size+1≠ps;omega);have hr4:=HX3.out.2.2.1.other ⟨ps,2,none⟩ (.int .u64 q1) (by show w.heap.size≠ps;omega);have hA4:=aU.same HX3.out.2.2.2.1 (w' :=w3.setCell ⟨ps,2,none⟩ (.int .u64 q1)) (fun b hb=>Below.heap_setCell _ _ _ _ (fun e=>by
   rcases HX3.out.2.2.2.2.2 b hb with e1|e1
   · have e2:=HB.out.cls.a b e1;have e3:=HB.out.cls.p;rw[e]at e2;simp at e2;omega
   · have:=HX.out.2.2.2;simp at e;omega))
 have hs4:(w3.setCell ⟨ps,2,none⟩ (.int .u64 q1)).heap.size=w3.heap.size:=by simp
 simp only[qX,qT]at hd4;have hn4:=HX3.out.2.2.2.2.2;rw[<-hs4]at hs3;clear HX3 c2 z2 p0 p1 p2 p3 HR3 hs4;generalize w3.setCell ⟨ps,2,none⟩ (.int .u64 q1)=w4 at *;have c2:=hd4.cell 2;have p0:=hr4.cell 0;have p1:=hr4.cell 1;have p2:=hr4.cell 2;have p3:=hr4.cell 3;simp only[zI,zJ]at c2 p0 p1 p2 p3;have HC4:=qA (fun(w' :World) (hf:Fr [] w4 w')=>zH (hf.cell c2 (by simp)) (zH (hf.cell p0 (by simp)) (zH (hf.cell p1 (by simp)) (zH (hf.cell p2 (by simp)) (hf.cell p3 (by simp))))));have HX4:=qA (zH hd4 (zH hx4 (zH hr4 (zH hA4 (zH hF4 hn4)))));clear hd4 hx4 hr4 hA4 hF4 hn4
 go_region_held3 (fun w' => w'.cell? ⟨ps, 2, none⟩ = some (.int .u64 q1) /\ w'.cell? ⟨w.heap.size, 0, none⟩ = some (.int .u64 u) /\ w'.cell? ⟨w.heap.size, 1, none⟩ = some (.int .u64 v) /\ w'.cell? ⟨w.heap.size, 2, none⟩ = some (.int .i64 wt) /\ w'.cell? ⟨w.heap.size, 3, none⟩ = some (.int .i64 t))
   (first
     | go_keep
     | (exact HC4.out _ ((Fr.refl [] w4).alloc _))
     | (exact HC4.out _ (((Fr.refl [] w4).alloc _).drew)))
   (fail)
 have hg5:Fr [] w4 (w4.alloc (.cells #[.int .i64 sl,.int .u64 q1,.int .u64 u,.int .u64 v,.int .i64 wt,.int .i64 t,.int .i64 x] 74)).drew:=((Fr.refl [] w4).alloc _).drew;have he5:Blk (w4.alloc (.cells #[.int .i64 sl,.int .u64 q1,.int .u64 u,.int .u64 v,.int .i64 wt,.int .i64 t,.int .i64 x] 74)).drew w4.heap.size 74 (lvC ⟨sl,q1,u,v,wt,t,x⟩):=(Blk.new w4 _ _).drew;generalize (w4.alloc (.cells #[.int .i64 sl,.int .u64 q1,.int .u64 u,.int .u64 v,.int .i64 wt,.int .i64 t,.int .i64 x] 74)).drew=w5 at *;have hs5:=hg5.size;have hlv:=HB.out.lv.fr ((HX.out.1.mono (S' :=ps::la) (by simp)).trans' (HX4.out.2.2.2.2.1.trans' (hg5.mono (by simp)))) (fun q hq hm=>by
   have e1:=HB.out.cls.l q hq;rcases qB.1 hm with rfl|hm
   · have:=HB.out.cls.p;omega
   · have:=HB.out.cls.a q hm;omega)
 have hd5:=hg5.blk HX4.out.1 (by simp);have hL0:Fr (ps::vl.ownBlock.toList) w5 w5:=Fr.refl _ _;have HW5:=qA (zH (hg5.blk HX4.out.2.1 (by simp)) (zH (hg5.blk HX4.out.2.2.1 (by simp)) (zH (HX4.out.2.2.2.1.fr hg5 (by simp)) (zH (HX4.out.2.2.2.2.1.trans' (hg5.mono (by simp))) (zH he5 hs5)))));have hvl5:∀q,vl.ownBlock=some q->q<w5.heap.size:=fun q hq=>by have:=HLT.out q (by simp[stK,hq]);omega
 have HV5:=qA hvl5;have HS0:=qA (zH hd5 (zH hlv (zH hL0 (show ∀q,vl.ownBlock=some q->vl.ownBlock=some q∨w5.heap.size<=q from fun q hq=>.inl hq))));clear hg5 he5 hlv hd5 hL0 hvl5 c2 p0 p1 p2 p3 HC4;have hnE:=HB.out.nE;go_wp2_with fail
 go_loopw [] (fun wr=>∃(n' :Nat) (v' :Value),n' <= s.E/\Hid (Blk wr ps 145 [.int .i64 s.V,.int .i64 s.E,.int .u64 q1,ptr pa,ptr pt,v', .map (some mb)]/\dA wr v' ((List.range n').map (aG s.L))/\Fr (ps::vl.ownBlock.toList) w5 wr/\∀q,v'.ownBlock=some q->vl.ownBlock=some q∨w5.heap.size<=q)/\n<=n') (fun wr=>sl+1-xG wr ps)
 case atStart=>exact⟨n,vl,hnE,HS0,qJ _⟩
 case round=>
  obtain⟨n', v', hn', HS,hnn⟩:=hrel;obtain⟨av,cv,rfl⟩:∃a cap,v' =.slice a n' cap:=by simpa using HS.out.2.1.slice
  have c5:=HS.out.1.cell 5;simp only[zI,zJ]at c5;have hmeas:=tD c5;have hpsv:∀q,(Value.slice av n' cv).ownBlock=some q->ps≠q:=fun q hq e=>by
    subst e;rcases HS.out.2.2.2 ps hq with h1|h1
    · have e1:=HB.out.cls.l ps h1;have e2:=HB.out.cls.p;omega
    · have:=HW5.out.2.2.2.2.2;omega
  have HPV:=qA hpsv;have HM:=qA hmeas;clear hpsv hmeas;by_cases hle:n' <= sl
  {
  have hle' :(n' :Int)<=sl:=by omega
  have hrow:(wr.alloc (.cells (lvC Lv.z).toArray 74)).ownsRow 0 74 7 (.slice av n' cv) n' (rowV ((List.range n').map (aG s.L))):=by {
  have:=HS.out.2.1.fr0 ((Fr.refl [] wr).alloc (.cells (lvC Lv.z).toArray 74));unfold dA at this;simpa using this};have HRW:=qA hrow;have HZ:=qA (Blk.new wr (lvC Lv.z) 74);have HD:=qA (HS.out.1.alloc (.cells (lvC Lv.z).toArray 74));have H7:=qA (show ∀u∈lvC Lv.z,u.oneCell' =true by decide);have HRZ:=qA (aGI HB.out.sn hnn);have hs6:=HS.out.2.2.1.size;clear hrow;go_wp2_with (first|(at_builtin;refine kS rfl _ _ 59 rfl 74 xE 7 56 Tryz.underlying59 Tryz.info74 rfl (by decide) (.slice av n' cv) n' _ rfl HRW.out wr.heap.size 74 (lvC Lv.z) rfl HZ.out rfl H7.out (by omega) (by decide) ?_;intro g' cap' w6 hown6 hgrow6 hg6;have hF6:Fr (Value.slice av n' cv).ownBlock.toList (wr.alloc (.cells (lvC Lv.z).toArray 74)) w6:=(Fr.refl _ _).grown hgrow6 (fun q e=>.inl (by simp[e]));have hd6:=hF6.blk HD.out (fun hm=>HPV.out _ (by simpa using hm) rfl);have c56:=hd6.cell 5;have z56:=hd6.frozen 5;simp only[zI,zJ]at c56)|fail)
  go_roundw
  case rel=>
   have hgne:ps≠g' :=fun e=>by
     rcases hg6 with h6|h6
     · exact HPV.out _ h6 e
     · simp only [World.size_alloc] at h6
       have:=HW5.out.2.2.2.2.2;omega
   refine⟨n' + 1,.slice (some ⟨g', 0,none⟩) (n' + 1) cap', by omega,qA ⟨hd6.set 5 _,?_,?_,?_⟩,by omega⟩
   {
   rw[HRZ.out];unfold dA;rw[vP];have:=bL hown6 ⟨ps,5,none⟩ (.slice (some ⟨g', 0,none⟩) (n' + 1) cap') (fun e=>hgne (by simp[Value.ownBlock]at e;exact e.symm));simpa using this}
   {
   refine((HS.out.2.2.1.alloc _).trans hF6 (fun q hq=>?_)).setCell _ _ (.inl (by simp));have hq' :(Value.slice av n' cv).ownBlock=some q:=by simpa using hq
   rcases HS.out.2.2.2 q hq' with e|e
   · exact .inl (by simp[e])
   · exact .inr e}
   {
   intro q hq;simp only[Value.ownBlock,qI]at hq;subst hq;rcases hg6 with h6|h6
   · exact HS.out.2.2.2 _ h6
   · simp only[World.size_alloc]at h6;exact .inr (by omega)}
  case measure=>
   have c5n:=(hd6.set 5 (.slice (some ⟨g', 0,none⟩) (n' + 1) cap')).cell 5;simp only[qX,qT,zI,zJ]at c5n;rw[tD c5n,HM.out];omega}
  {
  have d1:decide ((n' :Int)<=sl)=false:=qF (by omega);have d2:decide (n' <= sl)=false:=qF (by omega);have hgt:sl<n' :=by omega
  clear hle;go_wp2_with fail
  obtain⟨b,cap,ev,_,hb,hz,hat⟩:=HS.out.2.1.at (i:=sl) (by simp;omega);simp only[List.length_map,List.length_range,qO,true_and]at ev;obtain⟨rfl,rfl⟩:=ev;have hlti:(sl:Int)<n' :=by omega
  have heb:=HW5.out.2.2.2.2.1;have heK:w4.heap.size∉ps::vl.ownBlock.toList:=fun hm=>by
    have h1:=HW5.out.2.2.2.2.2;rcases qB.1 hm with e|e
    · omega
    · have:=HLT.out w4.heap.size (by simp only[stK,qB,qE];exact .inr (.inr (.inl (.inr e))));omega
  have he6:=HS.out.2.2.1.blk heb heK;obtain⟨e0,e1,e2,e3,e4,e5,e6⟩:=he6.lvAt;obtain⟨t0,t1,t2,t3,t4,t5,t6⟩:=hat;have z0:=hz (sl*7);have z1:=hz (sl*7+1);have z2:=hz (sl*7+2);have z3:=hz (sl*7+3);have z4:=hz (sl*7+4);have z5:=hz (sl*7+5);have z6:=hz (sl*7+6);simp only[Nat.zero_add]at e0 e1 e2 e3 e4 e5 e6;clear hz heb he6;have HEK:=qA heK;clear heK;have hnb1:ps≠b:=HPV.out b rfl;have hnb2:w4.heap.size≠b:=fun e=>by
    rcases HS.out.2.2.2 b rfl with h1|h1
    · have:=HLT.out b (by simp[stK,h1]);omega
    · have:=HW5.out.2.2.2.2.1.lt;omega
  have HKP:=qA (fun(w' :World) (hf:Fr [b] wr w')=>zH (hf.cell c5 (by simpa using hnb1)) (zH (hf.cell e0 (by simpa using hnb2)) (zH (hf.cell e1 (by simpa using hnb2)) (zH (hf.cell e2 (by simpa using hnb2)) (zH (hf.cell e3 (by simpa using hnb2)) (zH (hf.cell e4 (by simpa using hnb2)) (zH (hf.cell e5 (by simpa using hnb2)) (hf.cell e6 (by simpa using hnb2)))))))));have HKF:=qA (show ∀(a0 a1 a2 a3 a4 a5 a6:Value) (o0 o1 o2 o3 o4 o5 o6:Nat),Fr [b] wr (((((((wr.setCell ⟨b,o0,none⟩ a0).setCell ⟨b,o1,none⟩ a1).setCell ⟨b,o2,none⟩ a2).setCell ⟨b,o3,none⟩ a3).setCell ⟨b,o4,none⟩ a4).setCell ⟨b,o5,none⟩ a5).setCell ⟨b,o6,none⟩ a6).drew from
    fun _ _ _ _ _ _ _ _ _ _ _ _ _ _=>((((((((Fr.refl [b] wr).setCell _ _ (.inl (by simp))).setCell _ _ (.inl (by simp))).setCell _ _ (.inl (by simp))).setCell _ _ (.inl (by simp))).setCell _ _ (.inl (by simp))).setCell _ _ (.inl (by simp))).setCell _ _ (.inl (by simp))).drew)
  go_region_held3 (fun w' => w'.cell? ⟨ps, 5, none⟩ = some (.slice (some ⟨b, 0, none⟩) n' cv) /\ w'.cell? ⟨w4.heap.size, 0, none⟩ = some (.int .i64 sl) /\ w'.cell? ⟨w4.heap.size, 1, none⟩ = some (.int .u64 q1) /\ w'.cell? ⟨w4.heap.size, 2, none⟩ = some (.int .u64 u) /\ w'.cell? ⟨w4.heap.size, 3, none⟩ = some (.int .u64 v) /\ w'.cell? ⟨w4.heap.size, 4, none⟩ = some (.int .i64 wt) /\ w'.cell? ⟨w4.heap.size, 5, none⟩ = some (.int .i64 t) /\ w'.cell? ⟨w4.heap.size, 6, none⟩ = some (.int .i64 x))
    (first
      | with_reducible exact HKP.out _ (HKF.out _ _ _ _ _ _ _ _ _ _ _ _ _ _)
      | go_keep)
    (fail)
  have hg7:=HKF.out (.int .i64 sl) (.int .u64 q1) (.int .u64 u) (.int .u64 v) (.int .i64 wt) (.int .i64 t) (.int .i64 x) (sl*7) (sl*7+1) (sl*7+2) (sl*7+3) (sl*7+4) (sl*7+5) (sl*7+6);have hrv:dA wr (.slice (some ⟨b,0,none⟩) ((List.range n').map (aG s.L)).length cv) ((List.range n').map (aG s.L)):=by simpa using HS.out.2.1
  have hnew:∀y∈s.L,y.slot≠sl:=fun y hy e=>HNU.out.2.1 ((HB.out.ok.used _).2 ⟨y,hy,e⟩);have hr7:=(hrv.set (i:=sl) (by simp;omega) ⟨sl,q1,u,v,wt,t,x⟩).fr0 ((Fr.refl [] _).drew);rw[aIR (e:=⟨sl,q1,u,v,wt,t,x⟩) hnew hgt]at hr7;have hr7:dA (((((((wr.setCell ⟨b,sl*7,none⟩ (.int .i64 sl)).setCell ⟨b,sl*7+1,none⟩ (.int .u64 q1)).setCell ⟨b,sl*7+2,none⟩ (.int .u64 u)).setCell ⟨b,sl*7+3,none⟩ (.int .u64 v)).setCell ⟨b,sl*7+4,none⟩ (.int .i64 wt)).setCell ⟨b,sl*7+5,none⟩ (.int .i64 t)).setCell ⟨b,sl*7+6,none⟩ (.int .i64 x)).drew (.slice (some ⟨b,0,none⟩) n' cv) ((List.range n').map (aG (s.L++[⟨sl,q1,u,v,wt,t,x⟩]))):=by {
  rw[List.length_map,List.length_range]at hr7;exact hr7};generalize (((((((wr.setCell ⟨b,sl*7,none⟩ (.int .i64 sl)).setCell ⟨b,sl*7+1,none⟩ (.int .u64 q1)).setCell ⟨b,sl*7+2,none⟩ (.int .u64 u)).setCell ⟨b,sl*7+3,none⟩ (.int .u64 v)).setCell ⟨b,sl*7+4,none⟩ (.int .i64 wt)).setCell ⟨b,sl*7+5,none⟩ (.int .i64 t)).setCell ⟨b,sl*7+6,none⟩ (.int .i64 x)).drew=w7 at *;clear hrv hnew c5 e0 e1 e2 e3 e4 e5 e6 t0 t1 t2 t3 t4 t5 t6 z0 z1 z2 z3 z4 z5 z6 HKP HKF d1 d2;have hF57:Fr (ps::vl.ownBlock.toList) w5 w7:=HS.out.2.2.1.trans hg7 (fun q hq=>by
    simp at hq;subst hq;rcases HS.out.2.2.2 q rfl with h1|h1
    · exact .inl (by simp[h1])
    · exact .inr h1)
  have hw45:=HW5.out.2.2.2.2.1.lt;have hdn:∀y,y<w.heap.size+2->w.heap.size<=y->y∉ps::vl.ownBlock.toList:=fun y h1 h2 hm=>by
    rcases qB.1 hm with e|e
    · omega
    · have:=HLT.out y (by simp only[stK,qB,qE];exact .inr (.inr (.inl (.inr e))));omega
  have hd7:=hg7.blk HS.out.1 (by simpa using hnb1);have hx7:=hF57.blk HW5.out.1 (hdn _ (by omega) (by omega));have hrc7:=hF57.blk HW5.out.2.1 (hdn _ (by omega) (by omega));have hed7:=hF57.blk HW5.out.2.2.2.2.1 HEK.out;have hla4:=HX4.out.2.2.2.1.lt;have hA7:=HW5.out.2.2.1.fr hF57 (fun q hq hm=>by
    rcases HX4.out.2.2.2.2.2 q hq with e|e
    · have e1 := HB.out.cls.a q e
      rcases qB.1 hm with e2|e2
      · have:=HB.out.cls.p;rw[<-e2]at this;omega
      · have:=HB.out.cls.l q (by simpa using e2);omega
    · have := HX.out.2.2.2
      rcases qB.1 hm with e2|e2
      · omega
      · have:=HLT.out q (by simp only[stK,qB,qE];exact .inr (.inr (.inl (.inr e2))));omega)
  have hF07:Fr (ps::(la++vl.ownBlock.toList)) w w7:=((HX.out.1.mono (S' :=ps::(la++vl.ownBlock.toList)) (by simp)).trans HW5.out.2.2.2.1 (fun q hq=>.inl (by simp at hq ⊢;rcases hq with e|e<;>simp[e]))).trans hF57 (fun q hq=>.inl (by simp at hq ⊢;rcases hq with e|e<;>simp[e]));have hs7:=hF07.size;have hs57:=hF57.size;have hpsm:∀q,q∈mb::(lT++lb)->q∉ps::(la++vl.ownBlock.toList):=fun q hq hm=>by
    have hp:=HB.out.cls.p;have hm1:=HB.out.cls.m;have e1:c q=1∨c q=3∨c q=5:=by
      simp only[qB,qE]at hq;rcases hq with rfl|e|e
      · exact .inl hm1
      · exact .inr (.inl (HB.out.cls.t q e))
      · exact .inr (.inr (HB.out.cls.b q e))
    simp only[qB,qE,Option.mem_toList]at hm;rcases hm with rfl|e|e
    · omega
    · have:=HB.out.cls.a q e;omega
    · have:=HB.out.cls.l q e;omega
  have hcls:Cls (fun y=>if y<w.heap.size then c y else if y<w4.heap.size then 2 else 4) ps mb (.slice (some ⟨b,0,none⟩) n' cv) la' lT lb:=by {
  refine⟨?_,?_,fun y hy=>?_,fun y hy=>?_,fun q hq=>?_,fun y hy=>?_⟩
  · rw[qD hpsw];exact HB.out.cls.p
  · rw[qD (HLT.out mb (by simp[stK]))];exact HB.out.cls.m
  {
  rcases HX4.out.2.2.2.2.2 y hy with e|e
  · rw[qD (HLT.out y (by simp[stK,e]))];exact HB.out.cls.a y e
  {
  have:=HX.out.2.2.2;rw[qC (by omega),qD (hla4 y hy)]}}
  · rw[qD (HLT.out y (by simp[stK,hy]))];exact HB.out.cls.t y hy
  {
  rcases HS.out.2.2.2 q hq with e|e
  · rw[qD (HLT.out q (by simp[stK,e]))];exact HB.out.cls.l q e
  · rw[qC (by omega),qC (by omega)]}
  · rw[qD (HLT.out y (by simp[stK,hy]))];exact HB.out.cls.b y hy};have hIns:mI w7 ps pt mb (.slice (some ⟨b,0,none⟩) n' cv) la' lT lb s.M (bT s.L) s.M.L.length w7:=
    ⟨lT,lb,_,hcls,HB.out.tb.fr hF07 (fun q hq=>hpsm q (by simp[hq])),HB.out.inc.fr hF07 (hpsm mb (by simp)) (fun q hq=>hpsm q (by simp[hq])),Fr.refl _ _,fun q hq=>.inl hq,fun q hq=>.inl hq⟩
  have hpn:ps∉mb::(lT++lb):=fun hm=>hpsm ps hm (by simp);have hbn:∀y,w.heap.size<=y->y∉mb::(lT++lb):=fun y h1 hm=>by
    have:y∈stK ps mb vl la lT lb:=by
      simp only[qB,qE]at hm;simp only[stK,qB,qE];rcases hm with e|e|e
      · simp[e]
      · simp[e]
      · simp[e]
    have:=HLT.out y this;omega
  have r0:=hrc7.cell 0;have r1:=hrc7.cell 1;simp only[zI,zJ]at r0 r1;have HD7:=qA (zH hd7 (zH (show ps<w7.heap.size by omega) (zH hA7.lt (show ∀q,(Value.slice (some ⟨b,0,none⟩) n' cv).ownBlock=some q->q<w7.heap.size from fun q hq=>hr7.lt hq))));have HPN:=qA hpn;have HEnd:=qA (zH hbn (zH hx7 (zH hed7 (zH hA7 (zH hr7 hF07)))));have HIns:=qA hIns;have HCL:=qA hcls;have Hu:=qA (show u<U64 from hu);have Hv:=qA (show v<U64 from hv);clear hg7 hr7 hF57 hdn hd7 hx7 hrc7 hed7 hla4 hA7 hF07 hpsm hcls hIns hpn hbn;have hcap:=HB.out.ok.leE;have hLlen:s.L.length<=16384:=by {
  have h1:=Sm.len_used HB.out.ok;have h2:=HB.out.ok.ar.hb;have h3:=HB.out.ok.sl;unfold Ar.used at h1;omega};have huv:=(Sm.chk_ok HB.out.ok HCK.out).1;have HUV:=qA huv;clear huv;have HFT:=qA (Sm.fits_uv HB.out.ok hu HCK.out);go_wp2_with fail
  clear r0 r1;go_loopw [77] (fun y wr=>∃k:Nat,k<=2/\y=.int .i64 k/\Hid (mI w7 ps pt mb (.slice (some ⟨b,0,none⟩) n' cv) la' lT lb (uT s.M u v k) (mJ (bT s.L) u v sl k) (uT s.M u v k).L.length wr)) (fun y _=>2-(intOf y).toNat)
  case atStart=>exact⟨0,by omega,rfl,HIns⟩
  case round=>
   obtain⟨k,hk,rfl,HS2⟩:=hrel;by_cases hlt:k<2
   {
   have hk2:k=0∨k=1:=by omega
   clear hlt hk;rcases hk2 with rfl|rfl
   {
   have hFr:=HS2.out.fr;have hd:=hFr.blk HD7.out.1 HPN.out;have c4:=hd.cell 4;have c6:=hd.cell 6;simp only[zI,zJ]at c4 c6;have HP:=qA (aEA HD7.out.2.1 HD7.out.2.2.1 HD7.out.2.2.2 HS2.out Hu.out);have HMO:=qA HS2.out.mok;clear hFr hd;rename World=>wo
   go_wp2_with fail
   refine HP.out.mono ?_;rintro _ w8 ⟨r8,rfl,hS8,hF8⟩;clear HP c4 c6;obtain⟨lT', lb', c', hc', hT', ⟨iv,hI'⟩,hF', h5', h6'⟩:=hS8;have c6:=(hF8.blk HD7.out.1 HPN.out).cell 6;simp only[zI,zJ]at c6;obtain⟨av0,cv0,ev0⟩:=(hI'.row u Hu.out).2.1.slice;have hfl:(mJ (bT s.L) u v sl 0 u).length<=16384:=zG (kM s.L u) hLlen;have hml:(uT s.M u v 0).L.length<=65536:=by {
   have h1:=HMO.out.cnt;have h2:=HMO.out.ar.hb;have h3:=HMO.out.ar.hs;simp only[Md.ar]at h2 h3;omega};have hmx:(uT s.M u v 0).L.length<maxLen:=by unfold maxLen;omega
   have g1:=rF (w' :=w8.drew) hI' Hu.out ev0 rfl;have g2:=rF (w' :=(w8.alloc (.cells #[.int .i64 sl] 3)).drew) hI' Hu.out ev0 (Below.heap_alloc _ _ _ hI'.im.lt);have g3:=rF (w' :=w8.alloc (.cells #[.int .i64 sl] 3)) hI' Hu.out ev0 (Below.heap_alloc _ _ _ hI'.im.lt);have EV:=qA ev0;have hrow:=(hI'.row u Hu.out).2.1;rw[ev0]at hrow;have HRow:=qA hrow;clear hrow;have hvm:=(hI'.row u Hu.out).2.2;rw[ev0]at hvm;have HVM:=qA hvm;clear hvm;have HI:=qA hI';have HSet:=qA (fun(w8' w9' :World) (v1:Value) (l1:List Nat) (n2:Nat) a1 a2 a3 a4 a5 a6=>sA (M:=(uT s.M u v 1)) HD7.out.2.1 HD7.out.2.2.1 HD7.out.2.2.2 hc' hT' hI' hF' h5' h6' (id:=u) Hu.out (w8:=w8') (w9:=w9') (v1:=v1) (l1:=l1) (n2:=n2) a1 a2 a3 a4 a5 a6);have hmbn:mb∉lb' :=hI'.nm;have hmlt:=hI'.im.lt;have hHP:=qA hF8;have HPO:=qA (show ps∉(Value.slice av0 (mJ (bT s.L) u v sl 0 u).length cv0).ownBlock.toList from fun hm=>by
     have e1:=hc'.b ps (HVM.out ps (by simpa using hm));have e2:=hc'.p;omega)
   have HMO2:=qA (show mb∉(Value.slice av0 (mJ (bT s.L) u v sl 0 u).length cv0).ownBlock.toList from fun hm=>by
     have e1:=hc'.b mb (HVM.out mb (by simpa using hm));have e2:=hc'.m;omega)
   have hPM:=qA (show ps∉mb::(Value.slice av0 (mJ (bT s.L) u v sl 0 u).length cv0).ownBlock.toList from fun hm=>by
     rcases qB.1 hm with e|e
     · have e1:=hc'.p;have e2:=hc'.m;rw[e]at e1;omega
     · exact HPO.out e)
   have HNN:=qA (aEU (f:=bT s.L u) HMO.out Hu.out HFT.out.1 (hI'.row u Hu.out).1 (HB.out.ok.vert u));clear hc' hT' hI' hF' h5' h6' hF8;generalize hfle:mJ (bT s.L) u v sl 0 u=fl at *;have HFL:=qA hfle;clear hfle;have hFa:Fr [] w8 (w8.alloc (.cells #[.int .i64 sl] 3)).drew:=((Fr.refl [] w8).alloc _).drew;have HFa:=qA hFa;clear hFa;have HBa:=qA (show Blk (w8.alloc (.cells #[.int .i64 sl] 3)).drew w8.heap.size 3 [.int .i64 sl] from(Blk.new w8 _ _).drew);have HK8:=qA (fun(w' :World) (S:List Nat) (hf:Fr S w8 w') (hs:ps∉S)=>hf.cell c6 hs);go_wp2_with fail
   go_region_held3 (fun w' => w'.cell? ⟨ps, 6, none⟩ = some (.map (some mb)))
     (first
       | with_reducible exact HK8.out _ _ hF10 hPM.out
       | with_reducible exact HK8.out _ _ hF9 HPO.out
       | go_keep)
     (first
       | (refine vO (by rfl) _ _ _ (by rfl) 3 (.int .i64 0) 1 8 Tryz.underlying158 Tryz.info3 rfl (by decide) (.slice av0 fl.length cv0) fl.length (fK fl) (by rfl) (HRow.out.fr0 HFa.out) w8.heap.size 3 [.int .i64 sl] (by rfl) HBa.out rfl (by simp [Value.oneCell']) (by omega) (by decide) ?_; intro g9 cap9 w9 hown9 hgrow9 hg9
          have hF9:Fr (Value.slice av0 fl.length cv0).ownBlock.toList w8 w9:=(HFa.out.mono (by simp)).grown hgrow9 (fun q e=>.inl (by simp[e]));have hM9:=HI.out.im.same (hF9.keep mb hmlt HMO2.out);obtain⟨w10,hrun10,hM10,hG10⟩:=hM9.put Tryz.underlying36 Tryz.underlying143 hmx (jP Hu.out) (v:=.slice (some ⟨g9,0,none⟩) (fl.length+1) cap9) (by rfl);have hF10:Fr (mb::(Value.slice av0 fl.length cv0).ownBlock.toList) w8 w10:=(hF9.mono (fun b hb=>.inl (List.mem_cons_of_mem _ hb))).trans hG10 (fun b hb=>.inl (by simp at hb;simp[hb]))))
   all_goals
    go_wp2_with fail
    go_roundw
    case rel=>
     have hs9:=HFa.out.size;have h9:dI w9 (.slice (some ⟨g9,0,none⟩) (fl.length+1) cap9) (fl++[sl]):=by {
     unfold dI;rw[wC,zE];exact hown9};have:=HSet.out w9 w10 _ (fl++[sl]) _ h9 (by simp) (by rw[EV.out];exact hF9) (fun q hq=>by
       rw[EV.out];simp only[Value.ownBlock,qI]at hq;subst hq;exact hg9.imp (fun e=>e) (fun e=>by omega)) hM10 hG10
     rw[HNN.out]at this;refine⟨1,by omega,by go_num,qA ?_⟩;rw[<-HFL.out]at this;exact this
    case measure=>simp[intOf];try omega}
   {
   have hFr:=HS2.out.fr;have hd:=hFr.blk HD7.out.1 HPN.out;have c4:=hd.cell 4;have c6:=hd.cell 6;simp only[zI,zJ]at c4 c6;have HP:=qA (aEA HD7.out.2.1 HD7.out.2.2.1 HD7.out.2.2.2 HS2.out Hv.out);have HMO:=qA HS2.out.mok;clear hFr hd;rename World=>wo
   go_wp2_with fail
   refine HP.out.mono ?_;rintro _ w8 ⟨r8,rfl,hS8,hF8⟩;clear HP c4 c6;obtain⟨lT', lb', c', hc', hT', ⟨iv,hI'⟩,hF', h5', h6'⟩:=hS8;have c6:=(hF8.blk HD7.out.1 HPN.out).cell 6;simp only[zI,zJ]at c6;obtain⟨av0,cv0,ev0⟩:=(hI'.row v Hv.out).2.1.slice;have hfl:(mJ (bT s.L) u v sl 1 v).length<=16384:=by {
   have e9:mJ (bT s.L) u v sl 1 v=bT s.L v:=dY (fun e=>HUV.out e.symm);rw[e9];exact zG (kM s.L v) hLlen};have hml:(uT s.M u v 1).L.length<=65536:=by {
   have h1:=HMO.out.cnt;have h2:=HMO.out.ar.hb;have h3:=HMO.out.ar.hs;simp only[Md.ar]at h2 h3;omega};have hmx:(uT s.M u v 1).L.length<maxLen:=by unfold maxLen;omega
   have g1:=rF (w' :=w8.drew) hI' Hv.out ev0 rfl;have g2:=rF (w' :=(w8.alloc (.cells #[.int .i64 sl] 3)).drew) hI' Hv.out ev0 (Below.heap_alloc _ _ _ hI'.im.lt);have g3:=rF (w' :=w8.alloc (.cells #[.int .i64 sl] 3)) hI' Hv.out ev0 (Below.heap_alloc _ _ _ hI'.im.lt);have EV:=qA ev0;have hrow:=(hI'.row v Hv.out).2.1;rw[ev0]at hrow;have HRow:=qA hrow;clear hrow;have hvm:=(hI'.row v Hv.out).2.2;rw[ev0]at hvm;have HVM:=qA hvm;clear hvm;have HI:=qA hI';have HSet:=qA (fun(w8' w9' :World) (v1:Value) (l1:List Nat) (n2:Nat) a1 a2 a3 a4 a5 a6=>sA (M:=(uT s.M u v 2)) HD7.out.2.1 HD7.out.2.2.1 HD7.out.2.2.2 hc' hT' hI' hF' h5' h6' (id:=v) Hv.out (w8:=w8') (w9:=w9') (v1:=v1) (l1:=l1) (n2:=n2) a1 a2 a3 a4 a5 a6);have hmbn:mb∉lb' :=hI'.nm;have hmlt:=hI'.im.lt;have hHP:=qA hF8;have HPO:=qA (show ps∉(Value.slice av0 (mJ (bT s.L) u v sl 1 v).length cv0).ownBlock.toList from fun hm=>by
     have e1:=hc'.b ps (HVM.out ps (by simpa using hm));have e2:=hc'.p;omega)
   have HMO2:=qA (show mb∉(Value.slice av0 (mJ (bT s.L) u v sl 1 v).length cv0).ownBlock.toList from fun hm=>by
     have e1:=hc'.b mb (HVM.out mb (by simpa using hm));have e2:=hc'.m;omega)
   have hPM:=qA (show ps∉mb::(Value.slice av0 (mJ (bT s.L) u v sl 1 v).length cv0).ownBlock.toList from fun hm=>by
     rcases qB.1 hm with e|e
     · have e1:=hc'.p;have e2:=hc'.m;rw[e]at e1;omega
     · exact HPO.out e)
   have HNN:=qA (aEU (f:=bT s.L v) HMO.out Hv.out HFT.out.2 (by have:=(hI'.row v Hv.out).1;rwa[show mJ (bT s.L) u v sl 1 v=bT s.L v from dY (fun e=>HUV.out e.symm)]at this) (((kN HB.out.ok.md Hu.out HFT.out.1).2.1 v).trans ⟨fun h=>(HB.out.ok.vert v).1 (h.resolve_right (fun e=>HUV.out e.symm)),fun h=>.inl ((HB.out.ok.vert v).2 h)⟩));clear hc' hT' hI' hF' h5' h6' hF8;generalize hfle:mJ (bT s.L) u v sl 1 v=fl at *;have HFL:=qA hfle;clear hfle;have hFa:Fr [] w8 (w8.alloc (.cells #[.int .i64 sl] 3)).drew:=((Fr.refl [] w8).alloc _).drew;have HFa:=qA hFa;clear hFa;have HBa:=qA (show Blk (w8.alloc (.cells #[.int .i64 sl] 3)).drew w8.heap.size 3 [.int .i64 sl] from(Blk.new w8 _ _).drew);have HK8:=qA (fun(w' :World) (S:List Nat) (hf:Fr S w8 w') (hs:ps∉S)=>hf.cell c6 hs);go_wp2_with fail
   go_region_held3 (fun w' => w'.cell? ⟨ps, 6, none⟩ = some (.map (some mb)))
     (first
       | with_reducible exact HK8.out _ _ hF10 hPM.out
       | with_reducible exact HK8.out _ _ hF9 HPO.out
       | go_keep)
     (first
       | (refine vO (by rfl) _ _ _ (by rfl) 3 (.int .i64 0) 1 8 Tryz.underlying158 Tryz.info3 rfl (by decide) (.slice av0 fl.length cv0) fl.length (fK fl) (by rfl) (HRow.out.fr0 HFa.out) w8.heap.size 3 [.int .i64 sl] (by rfl) HBa.out rfl (by simp [Value.oneCell']) (by omega) (by decide) ?_; intro g9 cap9 w9 hown9 hgrow9 hg9
          have hF9:Fr (Value.slice av0 fl.length cv0).ownBlock.toList w8 w9:=(HFa.out.mono (by simp)).grown hgrow9 (fun q e=>.inl (by simp[e]));have hM9:=HI.out.im.same (hF9.keep mb hmlt HMO2.out);obtain⟨w10,hrun10,hM10,hG10⟩:=hM9.put Tryz.underlying36 Tryz.underlying143 hmx (jP Hv.out) (v:=.slice (some ⟨g9,0,none⟩) (fl.length+1) cap9) (by rfl);have hF10:Fr (mb::(Value.slice av0 fl.length cv0).ownBlock.toList) w8 w10:=(hF9.mono (fun b hb=>.inl (List.mem_cons_of_mem _ hb))).trans hG10 (fun b hb=>.inl (by simp at hb;simp[hb]))))
   all_goals
    go_wp2_with fail
    go_roundw
    case rel=>
     have hs9:=HFa.out.size;have h9:dI w9 (.slice (some ⟨g9,0,none⟩) (fl.length+1) cap9) (fl++[sl]):=by {
     unfold dI;rw[wC,zE];exact hown9};have:=HSet.out w9 w10 _ (fl++[sl]) _ h9 (by simp) (by rw[EV.out];exact hF9) (fun q hq=>by
       rw[EV.out];simp only[Value.ownBlock,qI]at hq;subst hq;exact hg9.imp (fun e=>e) (fun e=>by omega)) hM10 hG10
     rw[HNN.out]at this;refine⟨2,by omega,by go_num,qA ?_⟩;rw[<-HFL.out]at this;exact this
    case measure=>simp[intOf];try omega}}
   {
   obtain rfl:k=2:=by omega
   have hFr:=HS2.out.fr;have hxb:=hFr.blk HEnd.out.2.1 (HEnd.out.1 _ (by omega));have heb:=hFr.blk HEnd.out.2.2.1 (HEnd.out.1 _ (by omega));obtain⟨e0,e1,e2,e3,e4,e5,e6⟩:=heb.lvAt;simp only[Nat.zero_add]at e0 e1 e2 e3 e4 e5 e6;have z:=hxb.frozen;have t0:=hxb.cell 0;have t1:=hxb.cell 1;have t2:=hxb.cell 2;have t3:=hxb.cell 3;have t4:=hxb.cell 4;have t5:=hxb.cell 5;have t6:=hxb.cell 6;simp only[zI,zJ]at t0 t1 t2 t3 t4 t5 t6;have HXB:=qA (hxb.put7 ⟨sl,q1,u,v,wt,t,x⟩);clear hFr hxb heb hlt hk;rename World=>wo
   go_wp2_with fail
   have hrr:=HXB.out.lvAt;have hE:(⟨sl,q1,u,v,wt,t,x⟩:Lv)=s.edge u v wt t x:=by unfold Sm.edge;rw[HSL.out,HQ1.out]
   unfold aGF Go.Proofs.YtjdgpcjbgjnahaaGreatDoor.put7 at hrr;simp only[Nat.zero_add]at hrr;obtain⟨r0,r1,r2,r3,r4,r5,r6⟩:=hrr;refine bodyPost_ret (v:=.tuple #[lvA ⟨sl,q1,u,v,wt,t,x⟩,.int .i64 0]) (by simp[results,Tryz.results135,go_sem,r0,r1,r2,r3,r4,r5,r6]) rfl ⟨by rw[hE],?_⟩;have hx1:=HEnd.out.2.1.lt;have hsz2:=HX.out.2.2.2;have hw5:=HW5.out.2.2.2.2.2;have hw4:w2.heap.size<=w4.heap.size:=HX4.out.2.2.2.2.1.size;have hw45:=HW5.out.2.2.2.2.1.lt
   exact aKK HB.out HCK.out hu hv HLL.out HSL.out HQ1.out HS2.out HD7.out.1 HEnd.out.2.2.2.1 HEnd.out.2.2.2.2.1 HEnd.out.2.2.2.2.2 HCL.out
     (fun q hq=>(HX4.out.2.2.2.2.2 q hq).imp (fun e=>e) (fun e=>by omega)) (fun q hq=>(HS.out.2.2.2 q hq).imp (fun e=>e) (fun e=>by omega)) (by omega) hnn hgt hn'}}
end
end Go.Proofs.YtjdgpcjbgjnahaaGreatDoor
