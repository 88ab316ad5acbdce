/- The schedule: what is due. -/
import Derived.Test.YtgmnemndjjmgkaaGreatB23
import Derived.Test.YtgmnemndjjmgkaaGreatB21
import Derived.Test.YtgmnemndjjmgkaaGreatB8
import Derived.RangeFuncNested
import Derived.RangeFuncCalls
import Derived.Test.YtgmnemndjjmgkaaGreatB1
import Derived.RangeFuncBox
import Derived.RangeFuncLeaves
import Derived.Shelf.Abstract
import Derived.WalkKit
import Derived.OwnWalkIn
import Derived.TacticsInMore
import Derived.LoopNIn
import Derived.LoopIn
import Derived.Maps.AppendAt
import Derived.Test.YtgmnemndjjmgkaaGreatB22
import Derived.Test.YtgmnemndjjmgkaaGreatB10
import Derived.Test.YtgmnemndjjmgkaaGreatB9
set_option linter.unusedSimpArgs false
set_option linter.unusedVariables false
/- A window: an edge is put into its parts. -/
namespace Go.Proofs.YtgmnemndjjmgkaaGreat
open Go.RowKit
set_option maxRecDepth 10000
set_option maxHeartbeats 1600000
def IS (w0 : World) (K : List Nat) (wr : World) (pw pc ps px pf : Nat) (P : Wp) (Ks lx Lf : List Nat) (Z : List (Nat × TypeId × List Value)) : Prop :=
  (∃ cl, WinB wr pw pc ps px pf P Ks lx Lf cl) ∧ Fr K w0 wr ∧ (∀ q ∈ winK pw pc Ks lx Lf, q ∈ K ∨ w0.heap.size ≤ q) ∧ ∀ z ∈ Z, Blk wr z.1 z.2.1 z.2.2 ∧ z.1 ∉ winK pw pc Ks lx Lf
section
variable {w0 wr w' : World} {K Ks Ks' lx lx' Lf Lf' : List Nat} {pw pc ps px pf : Nat} {P P' : Wp} {Z : List (Nat × TypeId × List Value)}
theorem IS.start {cl : Nat → Nat} (h : WinB wr pw pc ps px pf P Ks lx Lf cl) : IS wr (winK pw pc Ks lx Lf) wr pw pc ps px pf P Ks lx Lf [] := ⟨⟨cl, h⟩, Fr.refl _ _, fun q hq => .inl hq, by simp⟩
theorem IS.sub (h : IS w0 K wr pw pc ps px pf P Ks lx Lf Z) {Y : List (Nat × TypeId × List Value)} (hy : ∀ y ∈ Y, y ∈ Z) : IS w0 K wr pw pc ps px pf P Ks lx Lf Y := ⟨h.1, h.2.1, h.2.2.1, fun y hm => h.2.2.2 y (hy y hm)⟩
theorem IS.step (h : IS w0 K wr pw pc ps px pf P Ks lx Lf Z) {X : List Nat} (hB : ∃ cl, WinB w' pw pc ps px pf P' Ks' lx' Lf' cl) (hF : Fr X wr w') (hX : ∀ q ∈ X, q ∈ winK pw pc Ks lx Lf) (hn : ∀ q ∈ winK pw pc Ks' lx' Lf', q ∈ winK pw pc Ks lx Lf ∨ wr.heap.size ≤ q) :
    IS w0 K w' pw pc ps px pf P' Ks' lx' Lf' Z := by
 obtain ⟨_, hF0, hn0, hZ⟩ := h
 have hs := hF0.size
 refine ⟨hB, hF0.trans hF (fun b hb => hn0 b (hX b hb)), fun q hq => ?_, fun z hz => ⟨hF.blk (hZ z hz).1 (fun hm => (hZ z hz).2 (hX _ hm)), fun hm => ?_⟩⟩
 {
 rcases hn q hq with e | e
 · exact hn0 q e
 · exact .inr (by omega)
 }
 {
 rcases hn _ hm with e | e
 · exact (hZ z hz).2 e
 · have := (hZ z hz).1.lt; omega
 }
theorem IS.fr0 (h : IS w0 K wr pw pc ps px pf P Ks lx Lf Z) (hf : Fr [] wr w') : IS w0 K w' pw pc ps px pf P Ks lx Lf Z := by
 obtain ⟨cl, hB⟩ := h.1
 exact h.step ⟨cl, hB.fr0 hf⟩ hf (by simp) (fun q hq => .inl hq)
theorem IS.box (h : IS w0 K wr pw pc ps px pf P Ks lx Lf Z) (l : List Value) (t : TypeId) : IS w0 K (wr.alloc (.cells l.toArray t)) pw pc ps px pf P Ks lx Lf ((wr.heap.size, t, l) :: Z) := by
 have h1 := h.fr0 ((Fr.refl [] wr).alloc (.cells l.toArray t))
 refine ⟨h1.1, h1.2.1, h1.2.2.1, fun z hz => ?_⟩
 rcases List.mem_cons.1 hz with rfl | hz
 {
 refine ⟨Blk.new wr l t, fun hm => ?_⟩
 obtain ⟨cl, hB⟩ := h.1
 have := hB.lt _ hm
 exact absurd this (Nat.lt_irrefl _)
 }
 · exact h1.2.2.2 z hz
theorem IS.other (h : IS w0 K wr pw pc ps px pf P Ks lx Lf Z) {X : List Nat} (hF : Fr X wr w') (hX : ∀ q ∈ X, w0.heap.size ≤ q ∧ q ∉ winK pw pc Ks lx Lf ∧ ∀ z ∈ Z, z.1 ≠ q) : IS w0 K w' pw pc ps px pf P Ks lx Lf Z := by
 obtain ⟨⟨cl, hB⟩, hF0, hn0, hZ⟩ := h
 exact ⟨⟨cl, hB.fr hF (fun q hq hm => (hX q hm).2.1 hq)⟩, hF0.trans hF (fun b hb => .inr (hX b hb).1), hn0, fun z hz => ⟨hF.blk (hZ z hz).1 (fun hm => (hX _ hm).2.2 z hz rfl), (hZ z hz).2⟩⟩
theorem IS.cons (h : IS w0 K wr pw pc ps px pf P Ks lx Lf Z) {b : Nat} {t : TypeId} {l : List Value} (hb : Blk wr b t l) (hn : b ∉ winK pw pc Ks lx Lf) : IS w0 K wr pw pc ps px pf P Ks lx Lf ((b, t, l) :: Z) :=
  ⟨h.1, h.2.1, h.2.2.1, fun z hz => by
 rcases List.mem_cons.1 hz with rfl | hz
 · exact ⟨hb, hn⟩
 · exact h.2.2.2 z hz⟩
theorem winK_st {q : Nat} (h : q ∈ Ks) : q ∈ winK pw pc Ks lx Lf := by simp [winK, h]
theorem winK_sch {q : Nat} (h : q ∈ lx) : q ∈ winK pw pc Ks lx Lf := by simp [winK, h]
theorem winK_fo {q : Nat} (h : q ∈ Lf) : q ∈ winK pw pc Ks lx Lf := by simp [winK, h]
theorem IS.st (h : IS w0 K wr pw pc ps px pf P Ks lx Lf Z) {s' : Sm} (hs : StoreAt w' ps s' Ks') (hF : Fr Ks wr w') (hq : ∀ q ∈ Ks', q ∈ Ks ∨ wr.heap.size ≤ q) : IS w0 K w' pw pc ps px pf { P with s := s' } Ks' lx Lf Z := by
 obtain ⟨cl, hB⟩ := h.1
 refine h.step (hB.setSt hs hF hq) hF (fun q hq => winK_st hq) (fun q hm => ?_)
 simp only [winK, List.mem_cons, List.mem_append] at hm ⊢
 rcases hm with e | e | e | e | e
 · simp [e]
 · simp [e]
 · exact (hq q e).imp (fun e => by simp [e]) id
 · simp [e]
 · simp [e]
theorem IS.sch (h : IS w0 K wr pw pc ps px pf P Ks lx Lf Z) {Q' : Nat → Option Int} {nq' : Nat} (hs : SchAt w' px P.E Q' nq' lx') (hF : Fr lx wr w') (hq : ∀ q ∈ lx', q ∈ lx ∨ wr.heap.size ≤ q) : IS w0 K w' pw pc ps px pf { P with Q := Q', nq := nq' } Ks lx' Lf Z := by
 obtain ⟨cl, hB⟩ := h.1
 refine h.step (hB.setSch hs hF hq) hF (fun q hq => winK_sch hq) (fun q hm => ?_)
 simp only [winK, List.mem_cons, List.mem_append] at hm ⊢
 rcases hm with e | e | e | e | e
 · simp [e]
 · simp [e]
 · simp [e]
 · exact (hq q e).imp (fun e => by simp [e]) id
 · simp [e]
theorem IS.fo (h : IS w0 K wr pw pc ps px pf P Ks lx Lf Z) {G' : Nat → Option (Nat × Nat × Int)} (hm : FMv wr w' pf P.E P.V G' Lf) : ∃ Lf', IS w0 K w' pw pc ps px pf { P with G := G' } Ks lx Lf' Z := by
 obtain ⟨cl, hB⟩ := h.1
 obtain ⟨Lf', h1, h2, h3⟩ := hm
 refine ⟨Lf', h.step (hB.setFo h1 h2 h3) h2 (fun q hq => winK_fo hq) (fun q hm => ?_)⟩
 simp only [winK, List.mem_cons, List.mem_append] at hm ⊢
 rcases hm with e | e | e | e | e
 · simp [e]
 · simp [e]
 · simp [e]
 · simp [e]
 · exact (h3 q e).imp (fun e => by simp [e]) id
theorem IS.n (h : IS w0 K wr pw pc ps px pf P Ks lx Lf Z) {a g : Nat} (hF : Fr [pw] wr w') (hb : Blk w' pw 83 [.int .i64 P.m, .int .i64 P.E, .int .i64 P.V, .int .i64 P.D, cptr pc, sptr ps, hptr px, fptr pf, .int .u64 a, .int .u64 g]) : IS w0 K w' pw pc ps px pf { P with added := a, gone := g } Ks lx Lf Z := by
 obtain ⟨cl, hB⟩ := h.1
 exact h.step ⟨cl, hB.setN hF hb⟩ hF (fun q hq => by simp at hq; simp [winK, hq]) (fun q hm => .inl hm)
theorem IS.blk (h : IS w0 K wr pw pc ps px pf P Ks lx Lf Z) {z : Nat × TypeId × List Value} (hz : z ∈ Z) : Blk wr z.1 z.2.1 z.2.2 := (h.2.2.2 z hz).1
end
theorem Sm.idx_lt {s : Sm} (h : s.Ok) {u i : Nat} (hf : s.M.find u = some i) : i < s.V := by
 have h1 := (h.md.used _ (Md.find_mem hf)).1
 have h2 := h.md.ar.hb
 have h3 : s.M.ar.slots = s.M.slots := rfl
 have h4 := h.ms
 simp only at h1
 omega
section
variable {w w' : World} {pw pc ps px pf : Nat} {P : Wp} {Ks lx Lf : List Nat} {cl : Nat → Nat}
theorem winsert_w (h : WinB w pw pc ps px pf P Ks lx Lf cl) (hl : Lk P.s P.Q P.G) (hok : P.s.Ok) (hV : P.s.V = P.V) (hE : P.s.E = P.E) (u v : Nat) (hu : u < 18446744073709551616) (hv : v < 18446744073709551616) (wt t : Int) (ht : 0 ≤ t) (htm : t + P.m ≤ 9223372036854775807) (hc : P.s.chk u v = 0) (hla : P.s.last + 1 ≤ 9223372036854775807) (had : P.added + 1 ≤ 9223372036854775807) :
    Calls Tryz.prog 57 #[wptr pw, recA u v wt t] w fun e w' => e = .returned (.tuple #[]) ∧ ∃ a b Ks' lx' Lf', (P.s.ins u v wt t (t + P.m)).M.find u = some a ∧ (P.s.ins u v wt t (t + P.m)).M.find v = some b ∧
      IS w (winK pw pc Ks lx Lf) w' pw pc ps px pf { P with s := P.s.ins u v wt t (t + P.m), Q := fun j => if j = P.s.slot then some (t + P.m) else P.Q j, nq := P.nq + 1, G := fun j => if j = P.s.slot then some (a, b, t + P.m) else P.G j, added := P.added + 1 } Ks' lx' Lf' [] := by
 have hm1 := h.clk.m1
 have hm2 := h.clk.m2
 have hI := (IS.start h).box [.int .u64 u, .int .u64 v, .int .i64 wt, .int .i64 t] 42
 obtain ⟨w1, hw1⟩ : ∃ w1, w1 = w.alloc (.cells #[.int .u64 u, .int .u64 v, .int .i64 wt, .int .i64 t] 42) := ⟨_, rfl⟩
 obtain ⟨x, hx⟩ : ∃ x, x = t + P.m := ⟨_, rfl⟩
 obtain ⟨xb, hxb⟩ : ∃ xb, xb = w.heap.size := ⟨_, rfl⟩
 have hok1 := Sm.ok_ins hok hu hv hc (by omega) wt t x
 have hne : u ≠ v := (Sm.chk_ok hok hc).1
 have hsn := Sm.slot_next hok hc
 have hslt := ar_next_lt hok.ar hsn
 rw [hok.sl, hE] at hslt
 obtain ⟨hfq, hfg⟩ := hl.free hok (Md.isUsed_alloc' hok.ar hsn).1
 have hmem : P.s.edge u v wt t x ∈ (P.s.ins u v wt t x).L := by simp [Sm.ins]
 obtain ⟨a, ha⟩ := Option.isSome_iff_exists.1 (vert_mem hok1 hmem (x := u) (by simp [Lv.at, Sm.edge]))
 obtain ⟨b, hb⟩ := Option.isSome_iff_exists.1 (vert_mem hok1 hmem (x := v) (by simp [Lv.at, Sm.edge]))
 have hal := Sm.idx_lt hok1 ha
 have hbl := Sm.idx_lt hok1 hb
 have hab : a ≠ b := fun e => hne (find_inj hok1.md ha (by rw [e]; exact hb))
 have hcode : addCode P.E P.V P.G P.s.slot a b = 0 := by {
 have e1 : inV P.E P.s.slot = true := by simp [inV]; omega
 have hV' : (P.s.ins u v wt t x).V = P.V := hV
 have e2 : inV P.V a = true := by simp [inV]; omega
 have e3 : inV P.V b = true := by simp [inV]; omega
 unfold addCode
 rw [if_pos ⟨e1, e2, e3⟩, if_neg (by omega), if_neg (by simp [hfg])]
 }
 have haddG : addG P.E P.V P.G P.s.slot a b x = fun j => if j = P.s.slot then some (a, b, x) else P.G j := by {
 unfold addG
 rw [if_pos hcode]
 funext j
 simp [updG]
 }
 rw [← hw1, ← hxb] at hI
 have hsx : sumV t P.m = x := by unfold sumV; rw [if_pos htm, hx]
 have hcx : sumC t P.m = 0 := by unfold sumC; rw [if_pos htm]
 rw [← hx]
 have HI := Lib.hid hI
 obtain ⟨cl1, hB1⟩ := hI.1
 have HA := Lib.hid (fun (nq : Nat) => cexp_w (hB1.clk.fr0 ((Fr.refl [] w1).drewN nq)) t (by omega) (by omega))
 rw [hsx, hcx] at HA
 have c4 := hB1.hd.cell 4
 have hbx : Blk w1 xb 42 [.int .u64 u, .int .u64 v, .int .i64 wt, .int .i64 t] := hI.blk (z := (xb, 42, [.int .u64 u, .int .u64 v, .int .i64 wt, .int .i64 t])) (by simp)
 have r0 := hbx.cell 0; have r1 := hbx.cell 1; have r2 := hbx.cell 2; have r3 := hbx.cell 3
 simp only [List.getElem?_cons_zero, List.getElem?_cons_succ] at c4 r0 r1 r2 r3
 have HXR := Lib.hid (show -9223372036854775808 ≤ x ∧ x ≤ 9223372036854775807 by omega)
 have HP := Lib.hid (And.intro hok (And.intro hc (And.intro hla (And.intro hslt (And.intro hfq (And.intro ha (And.intro hb (And.intro hcode (And.intro haddG had)))))))))
 clear hI hbx hB1 hl hok hV hE hc hla hok1 hne hsn hslt hfq hfg hmem ha hb hal hbl hab hcode haddG hsx hcx h had
 rw [hw1, hxb] at r0 r1 r2 r3
 rw [hw1] at c4
 go_enter Tryz.func57, Tryz.ntmps57
 go_wp2_with fail
 rw [← hw1]
 rw [← hw1, ← hxb] at r0 r1 r2 r3
 rw [← hw1] at c4
 rw [← hxb]
 clear hw1 hxb hx
 refine region_one 6 (fun w' => ∃ nq, w' = w1.drewN nq) (by kernel_rfl) (by kernel_rfl) (by kernel_rfl) ?_
 iterate 6 (refine gWalk_pre (by decide) (fun K hK => ?_); go_simp; refine hK _ ?_; clear hK K)
 refine gWalk_write rfl (.tuple #[.int .i64 x, .int .i64 0]) (fun w' hw' => ?_) ?_
 {
 obtain ⟨nq, rfl⟩ := hw'
 go_simp
 refine (HA.out nq).mono ?_
 rintro _ w1 ⟨rfl, rfl⟩
 exact ⟨rfl, nq, rfl⟩
 }
 iterate 5 (refine gWalk_post (by decide) (fun K hK => ?_); go_simp; refine hK _ ?_; clear hK K)
 refine gWalk_nil ?_
 rintro _ ⟨nq, rfl⟩
 have hI2 := HI.out.fr0 ((Fr.refl [] w1).drewN nq)
 clear c4 r0 r1 r2 r3 HA HI
 generalize w1.drewN nq = wz at *
 obtain ⟨cl2, hB2⟩ := hI2.1
 have hbx : Blk wz xb 42 [.int .u64 u, .int .u64 v, .int .i64 wt, .int .i64 t] := hI2.blk (z := (xb, 42, [.int .u64 u, .int .u64 v, .int .i64 wt, .int .i64 t])) (by simp)
 have c5 := hB2.hd.cell 5
 have r0 := hbx.cell 0; have r1 := hbx.cell 1; have r2 := hbx.cell 2; have r3 := hbx.cell 3
 simp only [List.getElem?_cons_zero, List.getElem?_cons_succ] at c5 r0 r1 r2 r3
 obtain ⟨y, hy⟩ : ∃ y, y = P.s.edge u v wt t x := ⟨_, rfl⟩
 have HI := Lib.hid (show ∀ w', Fr [] wz w' → Calls Tryz.prog 112 #[sptr ps, recA u v wt t, .int .i64 x] w' fun e w'' => e = .returned (.tuple #[lvA y, .int .i64 0]) ∧ ∃ K', StoreAt w'' ps (P.s.ins u v wt t x) K' ∧ Fr Ks w' w'' ∧ ∀ q ∈ K', q ∈ Ks ∨ w'.heap.size ≤ q from fun w' hf => by
   rw [hy]; exact st_ins_yes (hB2.st.fr0 hf) u v hu hv wt t x HP.out.2.1 (by have := HP.out.2.2.1; omega))
 have HI2 := Lib.hid hI2
 have hkx : xb ∉ Ks := fun hm => (hI2.2.2.2 (xb, _, _) (List.mem_cons_self ..)).2 (winK_st hm)
 have hkp : pw ∉ Ks := fun hm => by have := hB2.ks _ hm; have := hB2.kw; omega
 have hkn : wz.heap.size ∉ Ks := fun hm => absurd (hB2.st.lt _ hm) (Nat.lt_irrefl _)
 have hxl := hbx.lt
 have hpl := hB2.hd.lt
 have hkx2 : xb ∉ wz.heap.size :: Ks := fun hm => (List.mem_cons.1 hm).elim (fun e => by omega) hkx
 have hkp2 : pw ∉ wz.heap.size :: Ks := fun hm => (List.mem_cons.1 hm).elim (fun e => by omega) hkp
 have HC := Lib.hid (fun (w' : World) (hf : Fr (wz.heap.size :: Ks) wz w') => And.intro (hf.cell c5 hkp2) (And.intro (hf.cell r0 hkx2) (And.intro (hf.cell r1 hkx2) (And.intro (hf.cell r2 hkx2) (hf.cell r3 hkx2)))))
 have HST := Lib.hid (show ∀ (w' : World) (a0 a1 a2 a3 a4 a5 a6 : Value), Fr (wz.heap.size :: Ks) wz w' → Fr (wz.heap.size :: Ks) wz (((((((w'.setCell ⟨wz.heap.size, 0, none⟩ a0).setCell ⟨wz.heap.size, 1, none⟩ a1).setCell ⟨wz.heap.size, 2, none⟩ a2).setCell ⟨wz.heap.size, 3, none⟩ a3).setCell ⟨wz.heap.size, 4, none⟩ a4).setCell ⟨wz.heap.size, 5, none⟩ a5).setCell ⟨wz.heap.size, 6, none⟩ a6) from fun w' _ _ _ _ _ _ _ hf =>
   (((((((hf).setCell _ _ (.inl (by simp))).setCell _ _ (.inl (by simp))).setCell _ _ (.inl (by simp))).setCell _ _ (.inl (by simp))).setCell _ _ (.inl (by simp))).setCell _ _ (.inl (by simp))).setCell _ _ (.inl (by simp)))
 have HB0 := Lib.hid (show ∀ (w5 : World) (S : List Nat), Fr Ks (wz.alloc (.cells #[.int .i64 0, .int .u64 0, .int .u64 0, .int .u64 0, .int .i64 0, .int .i64 0, .int .i64 0] 45)).drew w5 → Blk w5 wz.heap.size 45 [.int .i64 0, .int .u64 0, .int .u64 0, .int .u64 0, .int .i64 0, .int .i64 0, .int .i64 0] from fun w5 _ hf =>
   hf.blk ((Blk.new wz [.int .i64 0, .int .u64 0, .int .u64 0, .int .u64 0, .int .i64 0, .int .i64 0, .int .i64 0] 45).drew) hkn)
 have hpz : pw ≠ wz.heap.size := by omega
 have hxz : xb ≠ wz.heap.size := by omega
 have HY := Lib.hid hy
 clear hy hB2 hbx hI2 c5 r0 r1 r2 r3 hkx2 hkp2 hkx hkp hxl hpl
 go_wp2_with fail
 go_region_held3 (fun w' => w'.cell? ⟨pw, 5, none⟩ = some (sptr ps) ∧ w'.cell? ⟨xb, 0, none⟩ = some (.int .u64 u) ∧ w'.cell? ⟨xb, 1, none⟩ = some (.int .u64 v) ∧ w'.cell? ⟨xb, 2, none⟩ = some (.int .i64 wt) ∧ w'.cell? ⟨xb, 3, none⟩ = some (.int .i64 t))
   (first
     | with_reducible exact HC.out _ (HST.out w5 _ _ _ _ _ _ _ HF7.out)
     | with_reducible exact HC.out _ HF7.out
     | with_reducible exact HC.out _ (Fr.refl (wz.heap.size :: Ks) wz).drew
     | with_reducible exact HC.out _ (Fr.trans' (Fr.refl (wz.heap.size :: Ks) wz).drew hF6)
     | with_reducible exact HC.out _ ((Fr.trans' (Fr.refl (wz.heap.size :: Ks) wz).drew hF6).alloc _)
     | with_reducible exact HC.out _ ((Fr.refl (wz.heap.size :: Ks) wz).alloc _).drew
     )
   (first
     | (go_at_call 112; with_reducible refine Calls.mono (HI.out _ ((Fr.refl [] wz).drew)) ?_; rintro r w5 ⟨rfl, Ks5, hS5, hF5, hN5⟩; have hF6 := hF5.mono (S' := wz.heap.size :: Ks) (fun q hq => .inl (List.mem_cons_of_mem _ hq)))
     | (go_at_call 112; with_reducible refine Calls.mono (HI.out _ ((Fr.refl [] wz).alloc _).drew) ?_; rintro r w5 ⟨rfl, Ks5, hS5, hF5, hN5⟩
        go_loud (have hF6 := hF5.mono (S' := wz.heap.size :: Ks) (fun q hq => .inl (List.mem_cons_of_mem _ hq))); go_loud (have HF7 := Lib.hid (Fr.trans' ((Fr.refl (wz.heap.size :: Ks) wz).alloc _).drew hF6)); go_loud (have hB5 := HB0.out _ [] hF5); go_loud (have hz5 := hB5.frozen); go_loud (have t0 := hB5.cell 0; have t1 := hB5.cell 1; have t2 := hB5.cell 2; have t3 := hB5.cell 3; have t4 := hB5.cell 4; have t5 := hB5.cell 5; have t6 := hB5.cell 6; simp only [List.getElem?_cons_zero, List.getElem?_cons_succ] at t0 t1 t2 t3 t4 t5 t6)))
 focus
   have hX : IS w (winK pw pc Ks lx Lf) (w5.alloc (.cells #[.int .i64 y.slot, .int .u64 y.seq, .int .u64 y.u, .int .u64 y.v, .int .i64 y.wt, .int .i64 y.t, .int .i64 y.x] 45)) pw pc ps px pf { P with s := P.s.ins u v wt t x } Ks5 lx Lf [(w5.heap.size, 45, [.int .i64 y.slot, .int .u64 y.seq, .int .u64 y.u, .int .u64 y.v, .int .i64 y.wt, .int .i64 y.t, .int .i64 y.x]), (xb, 42, [.int .u64 u, .int .u64 v, .int .i64 wt, .int .i64 t])] :=
     ((HI2.out.fr0 (Fr.refl [] wz).drew).st hS5 hF5 hN5).box [.int .i64 y.slot, .int .u64 y.seq, .int .u64 y.u, .int .u64 y.v, .int .i64 y.wt, .int .i64 y.t, .int .i64 y.x] 45
   have HX := Lib.hid hX
   clear hX hS5 hF5 hN5 hF6 HI HC HST HB0 hpz hxz hkn HI2
   generalize (w5.alloc (.cells #[.int .i64 y.slot, .int .u64 y.seq, .int .u64 y.u, .int .u64 y.v, .int .i64 y.wt, .int .i64 y.t, .int .i64 y.x] 45)) = W6 at *
   generalize w5.heap.size = eb at *
   rename_i hHH
   clear hHH
 rotate_left
 focus
   have h5 := (((HI2.out.box [.int .i64 0, .int .u64 0, .int .u64 0, .int .u64 0, .int .i64 0, .int .i64 0, .int .i64 0] 45).fr0 (Fr.refl [] _).drew).st hS5 hF5 hN5)
   have hnz := (h5.2.2.2 _ (List.mem_cons_self ..)).2
   have hws := HI2.out.2.1.size
   have hxn := (HI2.out.2.2.2 _ (List.mem_cons_self ..)).1.lt
   simp only at hnz hxn
   have hfc : Fr [wz.heap.size] w5 (((((((w5.setCell ⟨wz.heap.size, 0, none⟩ (.int .i64 y.slot)).setCell ⟨wz.heap.size, 1, none⟩ (.int .u64 y.seq)).setCell ⟨wz.heap.size, 2, none⟩ (.int .u64 y.u)).setCell ⟨wz.heap.size, 3, none⟩ (.int .u64 y.v)).setCell ⟨wz.heap.size, 4, none⟩ (.int .i64 y.wt)).setCell ⟨wz.heap.size, 5, none⟩ (.int .i64 y.t)).setCell ⟨wz.heap.size, 6, none⟩ (.int .i64 y.x)) :=
     (((((((Fr.refl _ w5).setCell _ _ (.inl (by simp))).setCell _ _ (.inl (by simp))).setCell _ _ (.inl (by simp))).setCell _ _ (.inl (by simp))).setCell _ _ (.inl (by simp))).setCell _ _ (.inl (by simp))).setCell _ _ (.inl (by simp))
   have hb7 := ((((((hB5.set 0 (.int .i64 y.slot)).set 1 (.int .u64 y.seq)).set 2 (.int .u64 y.u)).set 3 (.int .u64 y.v)).set 4 (.int .i64 y.wt)).set 5 (.int .i64 y.t)).set 6 (.int .i64 y.x)
   simp only [List.set_cons_zero, List.set_cons_succ] at hb7
   have hX : IS w (winK pw pc Ks lx Lf) (((((((w5.setCell ⟨wz.heap.size, 0, none⟩ (.int .i64 y.slot)).setCell ⟨wz.heap.size, 1, none⟩ (.int .u64 y.seq)).setCell ⟨wz.heap.size, 2, none⟩ (.int .u64 y.u)).setCell ⟨wz.heap.size, 3, none⟩ (.int .u64 y.v)).setCell ⟨wz.heap.size, 4, none⟩ (.int .i64 y.wt)).setCell ⟨wz.heap.size, 5, none⟩ (.int .i64 y.t)).setCell ⟨wz.heap.size, 6, none⟩ (.int .i64 y.x)) pw pc ps px pf { P with s := P.s.ins u v wt t x } Ks5 lx Lf [(wz.heap.size, 45, [.int .i64 y.slot, .int .u64 y.seq, .int .u64 y.u, .int .u64 y.v, .int .i64 y.wt, .int .i64 y.t, .int .i64 y.x]), (xb, 42, [.int .u64 u, .int .u64 v, .int .i64 wt, .int .i64 t])] :=
     ((h5.sub (Y := [(xb, 42, [.int .u64 u, .int .u64 v, .int .i64 wt, .int .i64 t])]) (fun z hz => List.mem_cons_of_mem _ hz)).other hfc (fun q hq => by
       rw [List.mem_singleton] at hq; subst hq
       exact ⟨hws, hnz, fun z hz => by rw [List.mem_singleton] at hz; subst hz; simp only; omega⟩)).cons hb7 hnz
   have HX := Lib.hid hX
   clear hX hS5 hF5 hN5 hF6 HI HC HST HB0 hpz hxz hkn HI2 h5 hnz hws hxn hfc hb7 hB5 hz5 t0 t1 t2 t3 t4 t5 t6 HF7
   generalize (((((((w5.setCell ⟨wz.heap.size, 0, none⟩ (.int .i64 y.slot)).setCell ⟨wz.heap.size, 1, none⟩ (.int .u64 y.seq)).setCell ⟨wz.heap.size, 2, none⟩ (.int .u64 y.u)).setCell ⟨wz.heap.size, 3, none⟩ (.int .u64 y.v)).setCell ⟨wz.heap.size, 4, none⟩ (.int .i64 y.wt)).setCell ⟨wz.heap.size, 5, none⟩ (.int .i64 y.t)).setCell ⟨wz.heap.size, 6, none⟩ (.int .i64 y.x)) = W6 at *
   generalize wz.heap.size = eb at *
   rename_i hHH
   clear hHH
 all_goals
  have hys : y.slot = P.s.slot := by rw [HY.out]; rfl
  obtain ⟨cl6, hB6⟩ := HX.out.1
  have hbx : Blk W6 xb 42 [.int .u64 u, .int .u64 v, .int .i64 wt, .int .i64 t] := HX.out.blk (z := (xb, 42, [.int .u64 u, .int .u64 v, .int .i64 wt, .int .i64 t])) (by simp)
  have hcx : ∀ w', Fr [] W6 w' → w'.cell? ⟨pw, 5, none⟩ = some (sptr ps) ∧ w'.cell? ⟨xb, 0, none⟩ = some (.int .u64 u) ∧ w'.cell? ⟨xb, 1, none⟩ = some (.int .u64 v) := fun w' hf => ⟨(hf.blk hB6.hd (by simp)).cell 5, (hf.blk hbx (by simp)).cell 0, (hf.blk hbx (by simp)).cell 1⟩
  have HU := Lib.hid (fun (w' : World) (hf : Fr [] W6 w') => st_index (hB6.st.fr0 hf) u hu)
  have HW := Lib.hid (fun (w' : World) (hf : Fr [] W6 w') => st_index (hB6.st.fr0 hf) v hv)
  simp only [HP.out.2.2.2.2.2.1, HP.out.2.2.2.2.2.2.1, Option.getD_some, Option.isSome_some] at HU HW
  have HCX := Lib.hid hcx
  obtain ⟨c5, r0, r1⟩ := hcx W6 (Fr.refl _ _)
  clear hB6 hbx hcx
  have HYS := Lib.hid hys
  clear hys
  go_wp2_with fail
  refine region_one 6 (fun w' => Fr [] W6 w') (by kernel_rfl) (by kernel_rfl) (by kernel_rfl) ?_
  iterate 6 (refine gWalk_pre (by decide) (fun K hK => ?_); go_simp; refine hK _ ?_; clear hK K)
  refine gWalk_write rfl (.tuple #[.int .i64 a, .bool true]) (fun w' hw' => ?_) ?_
  {
  obtain ⟨nq, rfl⟩ := hw'
  go_simp
  refine (HU.out _ ((Fr.refl [] W6).drewN nq)).mono ?_
  rintro _ w1 ⟨rfl, hf⟩
  exact ⟨rfl, ((Fr.refl [] W6).drewN nq).trans' hf⟩
  }
  iterate 5 (refine gWalk_post (by decide) (fun K hK => ?_); go_simp; refine hK _ ?_; clear hK K)
  refine gWalk_nil ?_
  rintro W7 hF7
  clear c5 r0 r1
  obtain ⟨c5, r0, r1⟩ := HCX.out W7 hF7
  have HW7 := Lib.hid (fun (nq : Nat) => HW.out _ (hF7.trans' ((Fr.refl [] W7).drewN nq)))
  have HX7 := Lib.hid (HX.out.fr0 hF7)
  clear HX HU HW HCX hF7 r0
  go_wp2_with fail
  refine region_one 6 (fun w' => Fr [] W7 w') (by kernel_rfl) (by kernel_rfl) (by kernel_rfl) ?_
  iterate 6 (refine gWalk_pre (by decide) (fun K hK => ?_); go_simp; refine hK _ ?_; clear hK K)
  refine gWalk_write rfl (.tuple #[.int .i64 b, .bool true]) (fun w' hw' => ?_) ?_
  {
  obtain ⟨nq, rfl⟩ := hw'
  go_simp
  refine (HW7.out nq).mono ?_
  rintro _ w1 ⟨rfl, hf⟩
  exact ⟨rfl, ((Fr.refl [] W7).drewN nq).trans' hf⟩
  }
  iterate 5 (refine gWalk_post (by decide) (fun K hK => ?_); go_simp; refine hK _ ?_; clear hK K)
  refine gWalk_nil ?_
  rintro W8 hF8
  have hX8 := HX7.out.fr0 hF8
  obtain ⟨cl8, hB8⟩ := hX8.1
  have hbe : Blk W8 eb 45 [.int .i64 y.slot, .int .u64 y.seq, .int .u64 y.u, .int .u64 y.v, .int .i64 y.wt, .int .i64 y.t, .int .i64 y.x] := hX8.blk (z := (eb, 45, [.int .i64 y.slot, .int .u64 y.seq, .int .u64 y.u, .int .u64 y.v, .int .i64 y.wt, .int .i64 y.t, .int .i64 y.x])) (by simp)
  have c6 := hB8.hd.cell 6
  have e0 := hbe.cell 0
  simp only [List.getElem?_cons_zero, List.getElem?_cons_succ] at c6 e0
  rw [HYS.out] at e0
  have HS := Lib.hid (fun (nq : Nat) => xset_w (hB8.sch.fr0 ((Fr.refl [] W8).drewN nq)) (i := P.s.slot) HP.out.2.2.2.1 HP.out.2.2.2.2.1 x)
  have HX8 := Lib.hid hX8
  clear HX7 HW7 hF8 c5 r1 hX8 hB8 hbe
  go_wp2_with fail
  refine region_one 7 (fun w' => ∃ l', SchAt w' px P.E (updQ P.Q P.s.slot (some x)) (P.nq + 1) l' ∧ Fr lx W8 w' ∧ ∀ b ∈ l', b ∈ lx ∨ W8.heap.size ≤ b) (by kernel_rfl) (by kernel_rfl) (by kernel_rfl) ?_
  iterate 7 (refine gWalk_pre (by decide) (fun K hK => ?_); go_simp; refine hK _ ?_; clear hK K)
  refine gWalk_write rfl (.int .i64 0) (fun w' hw' => ?_) ?_
  {
  obtain ⟨nq, rfl⟩ := hw'
  go_simp
  refine (HS.out nq).mono ?_
  rintro _ w1 ⟨rfl, l', k1, k2, k3⟩
  exact ⟨rfl, l', k1, ((Fr.refl lx W8).drewN nq).trans' k2, k3⟩
  }
  refine gWalk_nil ?_
  rintro W9 ⟨lx9, k1, k2, k3⟩
  have hX9 := HX8.out.sch k1 k2 k3
  obtain ⟨cl9, hB9⟩ := hX9.1
  have hbe : Blk W9 eb 45 [.int .i64 y.slot, .int .u64 y.seq, .int .u64 y.u, .int .u64 y.v, .int .i64 y.wt, .int .i64 y.t, .int .i64 y.x] := hX9.blk (z := (eb, 45, [.int .i64 y.slot, .int .u64 y.seq, .int .u64 y.u, .int .u64 y.v, .int .i64 y.wt, .int .i64 y.t, .int .i64 y.x])) (by simp)
  clear c6 e0
  have c7 := hB9.hd.cell 7
  have e0 := hbe.cell 0
  simp only [List.getElem?_cons_zero, List.getElem?_cons_succ] at c7 e0
  rw [HYS.out] at e0
  have hxr : -9223372036854775808 ≤ x ∧ x ≤ 9223372036854775807 := HXR.out
  have hA := fun (nq : Nat) => fa_add (hB9.fo.fr ((Fr.refl [] W9).drewN nq) (by simp)) P.s.slot a b x hxr
  simp only [HP.out.2.2.2.2.2.2.2.1, HP.out.2.2.2.2.2.2.2.2.1] at hA
  have HA := Lib.hid hA
  have HX9 := Lib.hid hX9
  clear HX8 HS k1 k2 k3 hX9 hB9 hbe hA hxr
  go_wp2_with fail
  refine region_one 9 (fun w' => FMv W9 w' pf P.E P.V (fun j => if j = P.s.slot then some (a, b, x) else P.G j) Lf) (by kernel_rfl) (by kernel_rfl) (by kernel_rfl) ?_
  iterate 9 (refine gWalk_pre (by decide) (fun K hK => ?_); go_simp; refine hK _ ?_; clear hK K)
  refine gWalk_write rfl (.int .i64 0) (fun w' hw' => ?_) ?_
  {
  obtain ⟨nq, rfl⟩ := hw'
  go_simp
  refine (HA.out nq).mono ?_
  rintro _ w1 ⟨rfl, L', k1, k2, k3⟩
  exact ⟨rfl, L', k1, ((Fr.refl Lf W9).drewN nq).trans' k2, k3⟩
  }
  refine gWalk_nil ?_
  rintro W10 k1
  obtain ⟨Lf10, hX10⟩ := HX9.out.fo k1
  obtain ⟨cl10, hB10⟩ := hX10.1
  clear c7 e0
  have c8 := hB10.hd.cell 8
  have z8 := hB10.hd.frozen 8
  simp only [List.getElem?_cons_zero, List.getElem?_cons_succ] at c8
  have hb11 := hB10.hd.set 8 (.int .u64 ((P.added : Int) + 1))
  simp only [List.set_cons_zero, List.set_cons_succ] at hb11
  have hadd := HP.out.2.2.2.2.2.2.2.2.2
  have hw1 : IntKind.u64.wrap ((P.added : Int) + 1) = (P.added : Int) + 1 := by simp [IntKind.wrap, IntKind.bits, IntKind.signed]; omega
  have HX10 := Lib.hid (And.intro hX10 hb11)
  clear HX9 HA k1 hX10 hB10 hb11
  go_wp2_with fail
  go_end0
  have hF : Fr [pw] W10 (W10.setCell ⟨pw, 8, none⟩ (.int .u64 ((P.added : Int) + 1))) := (Fr.refl _ _).setCell _ _ (.inl (by simp))
  exact ⟨rfl, a, HP.out.2.2.2.2.2.1, b, HP.out.2.2.2.2.2.2.1, Ks5, lx9, Lf10, (HX10.out.1.n hF (a := P.added + 1) (g := P.gone) (by rw [Int.natCast_add]; exact HX10.out.2)).sub (by simp)⟩
end
end Go.Proofs.YtgmnemndjjmgkaaGreat

/- A range over a function whose body never leaves early: the function may change what the caller does not own. -/
namespace Go.Proofs.YtgmnemndjjmgkaaGreat
open Go.RowKit
theorem Fr.putObj {S : List Nat} {w w' : World} (h : Fr S w w') (l : Nat) (o : Obj) (hl : l ∈ S ∨ w.heap.size ≤ l) : Fr S w (w'.putObj l o) :=
  h.grown (grownBy_putObj' w' l o) (fun k e => by cases e; exact hl)
structure Owned {α : Type} (base : Nat) (I : List α → List Nat → World → Prop) : Prop where
  fr : ∀ {pre : List α} {K S : List Nat} {A B : World}, I pre K A → Fr S A B → (∀ b ∈ K, b ∉ S) → I pre K B
  lt : ∀ {pre : List α} {K : List Nat} {A : World}, I pre K A → ∀ b ∈ K, base ≤ b ∧ b < A.heap.size
def goesOn {α : Type} (I : List α → List Nat → World → Prop) (xs : List α) (K : List Nat) (W W' : World) : Prop := ∃ K', I xs K' W' ∧ Fr K W W' ∧ ∀ b ∈ K', b ∈ K ∨ W.heap.size ≤ b
section
variable {F : Fence} {n : Nat} {P : Program}
theorem rfun_goes {α : Type} {g : Operand} {ps : Array Tmp} {assign body : Code} {Q : Exit → Act → World → Prop} {a : Act} {w : World} (hro : F.round = none) (h1 : 1 ≤ n) {gf : Nat} {lb : Array Value}
    (hg : a.eval g = .func (.func gf) #[] lb) (hFg : F.fn gf) (eg : ∀ args w, (callFunc gf args).run P w = .ok (.enter gf args) w) {encs : α → Array Value} (hps : ∀ x, (encs x).size = ps.size) {base N : Nat} (hb : base ≤ w.heap.size)
    {T : List α → List Nat → World → Prop} (hT : ∀ {xs K A B}, T xs K A → Fr K A B → T xs K B) (I : List α → List Nat → World → Prop) (hI : Owned base I) (K0 : List Nat) (h0 : I [] K0 w)
    (hseq : ∀ (l : Nat) (J : List α → List Nat → World → Prop) (K : List Nat) (W : World), Owned base J → Fr [] w W → J [] K W → (∀ b ∈ K, b ∈ K0 ∨ w.heap.size ≤ b) →
      (∀ pre K x W1, J pre K W1 → pre.length < N → YieldAt F (n - 1 - 1) P l (encs x) W1 fun e W' => e = .returned (.bool true) ∧ goesOn J (pre ++ [x]) K W1 W') →
      CallsIn F (n - 1) P gf (#[.func (.yield l) #[] #[]] ++ lb) W fun e W' => (∃ v, e = .returned v) ∧ ∃ xs K', J xs K' W' ∧ T xs K' W')
    (a₁ : α → Act)
    (hassign : ∀ (l : Nat) (x : α) (W : World) (K : Act → World → Prop), K (a₁ x) W →
      assign.wpIn (F.inRound l) (n - 1 - 1) P (Exit.then K (fun _ _ _ => False)) { tmps := (ps.zip (encs x)).foldl (fun t (p, v) => t.setIfInBounds p v) a.tmps, defers := [] } W)
    (hbody : ∀ (l : Nat) (pre : List α) (K : List Nat) (x : α) (W : World), I pre K W → pre.length < N → body.wpIn (F.inRound l) (n - 1 - 1) P (fun e _ W' => e = .normal ∧ goesOn I (pre ++ [x]) K W W') (a₁ x) W)
    (hdone : ∀ (D : Nat) (xs : List α) (K K' : List Nat) (W : World), w.heap.size ≤ D → I xs K W → T xs K' W → D ∈ K' → D ∉ K → (∀ b ∈ K, b ∈ K') → W.heap[D]? = some (.deferred (some [])) → Q .normal { a with defers := { target := .collected D, args := #[] } :: a.defers } W) :
    (Code.rangeFunc g ps assign body).wpIn F n P Q a w := by
 refine wpIn_rangeFunc ?_
 intro fn hfn
 rw [hro]
 obtain ⟨D, hD⟩ : ∃ D, D = w.heap.size := ⟨_, rfl⟩
 obtain ⟨L, hL⟩ : ∃ L, L = D + 1 := ⟨_, rfl⟩
 obtain ⟨rc, hrc⟩ : ∃ rc : LoopState → Option Code → Loop, rc = fun st pe => { state := st, pending := pe, fn, tmps := a.tmps, params := ps, assign, body, defers := w.heap.size } := ⟨_, rfl⟩
 obtain ⟨W1, hW1⟩ : ∃ W1, W1 = (w.alloc (.deferred (some []))).alloc (.loop (rc .ready none)) := ⟨_, rfl⟩
 have hF1 : Fr [] w W1 := by rw [hW1]; exact ((Fr.refl _ _).alloc _).alloc _
 have hD1 : W1.heap[D]? = some (.deferred (some [])) := by rw [hW1, hD]; exact (Below.heap_alloc _ _ _ (by simp)).trans (World.alloc_heap_new w _)
 have hL1 : W1.heap[L]? = some (.loop (rc .ready none)) := by rw [hW1, hL, hD]; have := World.alloc_heap_new (w.alloc (.deferred (some []))) (.loop (rc .ready none)); rwa [World.size_alloc] at this
 let J : List α → List Nat → World → Prop := fun pre K W => ∃ K1, K = L :: D :: K1 ∧ I pre K1 W ∧ L ∉ K1 ∧ D ∉ K1 ∧ W.heap[L]? = some (.loop (rc .ready none)) ∧ W.heap[D]? = some (.deferred (some []))
 have hJ : Owned base J := by {
 constructor
 {
 rintro pre K S A B ⟨K1, rfl, h1, h2, h3, h4, h5⟩ hF hS
 have l1 := (Array.getElem?_eq_some_iff.1 h4).1
 have l2 := (Array.getElem?_eq_some_iff.1 h5).1
 exact ⟨K1, rfl, hI.fr h1 hF (fun b hb => hS b (by simp [hb])), h2, h3, (hF.keep _ l1 (hS _ (by simp))).trans h4, (hF.keep _ l2 (hS _ (by simp))).trans h5⟩
 }
 {
 rintro pre K A ⟨K1, rfl, h1, h2, h3, h4, h5⟩ b hb'
 have l1 := (Array.getElem?_eq_some_iff.1 h4).1
 have l2 := (Array.getElem?_eq_some_iff.1 h5).1
 simp only [List.mem_cons] at hb'
 rcases hb' with rfl | rfl | hb'
 · omega
 · omega
 · exact hI.lt h1 b hb'
 }
 }
 refine ⟨L, [{ target := .collected D, args := #[] }], W1, { target := .fn (.func gf) lb, args := #[.func (.yield L) #[] #[]] }, W1, gf, #[.func (.yield L) #[] #[]] ++ lb, W1, ?_, ?_, ?_, ?_, fun _ => h1, ?_⟩
 · rw [hW1, hrc, hL, hD]; exact run_enterLoop_outer _ _ _ _ _
 {
 simp only [resolve, hg]
 simp [go_sem]
 }
 · intro f' hf'; simp [Target.leads] at hf'; subst hf'; exact hFg
 · simp [invoke, go_sem, eg]
 {
 have h0' : ∀ b ∈ K0, b < D := fun b hb => by rw [hD]; exact (hI.lt h0 b hb).2
 refine (hseq L J (L :: D :: K0) W1 hJ hF1 ⟨K0, rfl, hI.fr h0 hF1 (by simp), fun hm => by have := h0' _ hm; omega, fun hm => by have := h0' _ hm; omega, hL1, hD1⟩ (fun b hb' => by
   simp only [List.mem_cons] at hb'
   rcases hb' with rfl | rfl | hb'
   · exact .inr (by omega)
   · exact .inr (by omega)
   · exact .inl hb') ?_).mono ?_
 {
 rintro pre K x W ⟨K1, rfl, hi, n1, n2, hl, hd⟩ hN
 have l1 := (Array.getElem?_eq_some_iff.1 hl).1
 have l2 := (Array.getElem?_eq_some_iff.1 hd).1
 have hy := run_yield (P := P) (args := encs x) hl (by rw [hrc]; exact hps x)
 rw [hrc] at hy
 refine ⟨fn, _, assign, body, hy, roundIn_of_wpIn hfn (hassign _ x W _ ⟨_, run_beginRound hl (by rw [hrc]), ?_⟩)⟩
 have hF2 : Fr [L] W (W.putObj L (.loop { rc .ready none with state := .busy })) := (Fr.refl _ _).putObj _ _ (.inl (by simp))
 have hl2 : (W.putObj L (.loop { rc .ready none with state := .busy })).heap[L]? = some (.loop { rc .ready none with state := .busy }) := World.putObj_heap_same l1
 have hd2 : (W.putObj L (.loop { rc .ready none with state := .busy })).heap[D]? = some (.deferred (some [])) := (World.putObj_heap_other (by omega)).trans hd
 refine wpIn_mono (hbody _ pre K1 x _ (hI.fr hi hF2 (fun b hb hm => by simp at hm; subst hm; exact n1 hb)) hN) ?_
 rintro e a3 W3 ⟨rfl, K3, hi3, hF3, hk3⟩
 have s2 := hF2.size
 have l2a := (Array.getElem?_eq_some_iff.1 hl2).1
 have l2b := (Array.getElem?_eq_some_iff.1 hd2).1
 have n1' : L ∉ K3 := fun hm => (hk3 _ hm).elim n1 (fun h => Nat.lt_irrefl _ (Nat.lt_of_lt_of_le l2a h))
 have n2' : D ∉ K3 := fun hm => (hk3 _ hm).elim n2 (fun h => Nat.lt_irrefl _ (Nat.lt_of_lt_of_le l2b h))
 have hl3 : W3.heap[L]? = some (.loop { rc .ready none with state := .busy }) := (hF3.keep _ l2a n1).trans hl2
 have hd3 : W3.heap[D]? = some (.deferred (some [])) := (hF3.keep _ l2b n2).trans hd2
 have l3 := (Array.getElem?_eq_some_iff.1 hl3).1
 have hr := run_endRound (P := P) none hl3
 have hF4 : Fr [L] W3 (W3.putObj L (.loop { { rc .ready none with state := .busy } with state := if (none : Option Code).isNone then .ready else .done, pending := none })) := (Fr.refl _ _).putObj _ _ (.inl (by simp))
 refine ⟨_, _, hr, rfl, L :: D :: K3, ⟨K3, rfl, hI.fr hi3 hF4 (fun b hb hm => by simp at hm; subst hm; exact n1' hb), n1', n2', ?_, (World.putObj_heap_other (by omega)).trans hd3⟩, ?_, fun b hb' => ?_⟩
 · rw [World.putObj_heap_same l3, hrc]; rfl
 · refine ((hF2.mono (S' := L :: D :: K1) (by simp)).trans (hF3.mono (S' := L :: D :: K1) (by simp +contextual)) (fun b hb => .inl hb)).trans' (hF4.mono (by simp))
 {
 simp only [List.mem_cons] at hb' ⊢
 rcases hb' with rfl | rfl | hb'
 · exact .inl (.inl rfl)
 · exact .inl (.inr (.inl rfl))
 {
 rcases hk3 b hb' with h | h
 · exact .inl (.inr (.inr h))
 · exact .inr (Nat.le_trans s2 h)
 }
 }
 }
 {
 rintro e W2 ⟨⟨v, rfl⟩, xs, K, ⟨K1, rfl, hi, n1, n2, hl, hd⟩, ht⟩
 have l1 := (Array.getElem?_eq_some_iff.1 hl).1
 have hF2 : Fr [L] W2 (W2.putObj L (.loop { rc .ready none with state := .exhausted })) := (Fr.refl _ _).putObj _ _ (.inl (by simp))
 have hr := run_endLoop (P := P) hl (by rw [hrc]; simp)
 refine ⟨none, _, by rw [hrc] at hr ⊢; exact hr, hdone D xs K1 (L :: D :: K1) _ (by omega) (hI.fr hi hF2 (fun b hb hm => by simp at hm; subst hm; exact n1 hb)) (hT ht (hF2.mono (by simp))) (by simp) n2 (by simp +contextual) ((World.putObj_heap_other (by omega)).trans hd)⟩
 }
 }
end
end Go.Proofs.YtgmnemndjjmgkaaGreat

namespace Go.Proofs.YtgmnemndjjmgkaaGreat
open Go.RowKit Go.Shelf
set_option maxRecDepth 10000
set_option maxHeartbeats 800000
attribute [local go_sem] Oper.semAt_some
theorem Mins.snoc {to : Int} {Q0 Q : Nat → Option Int} {pre : List Nat} (h : ∀ {ds Q'}, Mins to Q ds Q' → Mins to Q0 (pre ++ ds) Q') {i : Nat} {x : Int} (hq : Q i = some x) (hx : x ≤ to) (hm : ∀ j y, Q j = some y → ¬ (y < x ∨ (y = x ∧ j < i))) :
    ∀ {ds Q'}, Mins to (updQ Q i none) ds Q' → Mins to Q0 (pre ++ [i] ++ ds) Q' := by
 intro ds Q' hd
 rw [List.append_assoc]
 exact h (.more Q i x ds Q' hq hx hm hd)
theorem due_in (px : Nat) (now : Int) (w : World) :
    CallsIn Fence.wide 9 Tryz.prog 86 #[hptr px, .int .i64 now] w fun e w' => e = .returned (.func (.func 135) #[] #[.pointer (some ⟨w.heap.size, 0, none⟩), .pointer (some ⟨w.heap.size + 1, 0, none⟩)]) ∧ w' = (w.alloc (.cells #[hptr px] 80)).alloc (.cells #[.int .i64 now] 2) := by
 refine callsIn_of_wp Tryz.func86 rfl trivial ?_ rfl
 simp only [Tryz.ntmps86, List.size_toArray, List.length_cons, List.length_nil, Nat.reduceAdd, Nat.reduceSub, Array.replicate_succ, Array.replicate_zero, List.push_toArray, List.append_toArray, List.nil_append, List.cons_append]
 gi_wp2
 go_ret
 exact ⟨rfl, rfl⟩
theorem SchAt.one {w : World} {px slots n n' : Nat} {Q Q' : Nat → Option Int} {l l' : List Nat} (h : SchAt w px slots Q n l) (h' : SchAt w px slots Q' n' l') : n = n' := by
 obtain ⟨ph, lh, h1, ⟨e, pl, v, gp, cp, bs, hm, _⟩, _, _⟩ := h
 obtain ⟨ph', lh', h1', ⟨e', pl', v', gp', cp', bs', hm', _⟩, _, _⟩ := h'
 have e1 := h1.eq h1'
 simp only [List.cons.injEq, hptr, Value.pointer.injEq, Option.some.injEq, Addr.mk.injEq, and_true, true_and] at e1
 subst e1
 have e2 := hm.hd.eq hm'.hd
 obtain ⟨a, c, rfl⟩ := ownsRow_slice hm.items
 obtain ⟨a', c', rfl⟩ := ownsRow_slice hm'.items
 simp only [List.cons.injEq, Value.slice.injEq, true_and] at e2
 exact e2.1.2.1
open Classical in
noncomputable def schLeft (px slots : Nat) (W : World) : Nat := if h : ∃ n, ∃ Q l, SchAt W px slots Q n l then Classical.choose h else 0
theorem schLeft_eq {W : World} {px slots n : Nat} {Q : Nat → Option Int} {l : List Nat} (h : SchAt W px slots Q n l) : schLeft px slots W = n := by
 have hex : ∃ n, ∃ Q l, SchAt W px slots Q n l := ⟨n, Q, l, h⟩
 unfold schLeft
 rw [dif_pos hex]
 obtain ⟨Q', l', h'⟩ := Classical.choose_spec hex
 exact h'.one h
def DueT (px slots : Nat) (now : Int) (w0 : World) (Q : Nat → Option Int) (lx : List Nat) (ds K : List Nat) (W : World) : Prop :=
  ∃ Q' n' lx', Mins now Q ds Q' ∧ SchAt W px slots Q' n' lx' ∧ (∀ b ∈ lx', b ∉ K) ∧ (∀ b ∈ lx', b ∈ lx ∨ w0.heap.size ≤ b) ∧ Fr lx w0 W ∧ ∀ b ∈ K, w0.heap.size ≤ b
theorem due1_in (nf l Bs Bn px slots n : Nat) (now : Int) (Q : Nat → Option Int) (lx : List Nat) (w0 : World) (hnf : 2 ≤ nf) (J : List Nat → List Nat → World → Prop) (K : List Nat) (W : World) (hJ : Owned w0.heap.size J) (hF : Fr [] w0 W) (h0 : J [] K W)
    (hS : SchAt w0 px slots Q n lx) (hcs : W.cell? ⟨Bs, 0, none⟩ = some (hptr px)) (hcn : W.cell? ⟨Bn, 0, none⟩ = some (.int .i64 now)) (hBs : w0.heap.size ≤ Bs) (hBn : w0.heap.size ≤ Bn) (hKs : Bs ∉ K) (hKn : Bn ∉ K)
    (hY : ∀ pre K x W1, J pre K W1 → pre.length < n → YieldAt Fence.wide (nf - 1) Tryz.prog l #[.int .i64 (x : Nat)] W1 fun e W' => e = .returned (.bool true) ∧ goesOn J (pre ++ [x]) K W1 W') :
    CallsIn Fence.wide nf Tryz.prog 135 #[.func (.yield l) #[] #[], .pointer (some ⟨Bs, 0, none⟩), .pointer (some ⟨Bn, 0, none⟩)] W fun e W' => (∃ v, e = .returned v) ∧ ∃ xs K', J xs K' W' ∧ DueT px slots now w0 Q lx xs K' W' := by
  have HJ := Lib.hid hJ
  have hS1 := hS.fr0 hF
  have hlx := hS.lt
  have hbs := cell_lt hcs
  have hbn := cell_lt hcn
  simp only at hbs hbn
  refine callsIn_of_wp Tryz.func135 rfl trivial ?_ rfl
  simp only [Tryz.ntmps135, List.size_toArray, List.length_cons, List.length_nil, Nat.reduceAdd, Nat.reduceSub, Array.replicate_succ, Array.replicate_zero, List.push_toArray, List.append_toArray, List.nil_append, List.cons_append]
  gi_wp2
  gi_loopw [] (fun wr => ∃ pre K1 Q1 n1 lx1, J pre K1 wr ∧ pre.length + n1 = n ∧ Hid (∀ {ds Q'}, Mins now Q1 ds Q' → Mins now Q (pre ++ ds) Q') ∧ SchAt wr px slots Q1 n1 lx1 ∧ (∀ b ∈ lx1, b ∉ K1) ∧ (∀ b ∈ lx1, b ∈ lx ∨ w0.heap.size ≤ b) ∧ Fr lx w0 wr ∧ wr.cell? ⟨Bs, 0, none⟩ = some (hptr px) ∧ wr.cell? ⟨Bn, 0, none⟩ = some (.int .i64 now) ∧ Bs ∉ K1 ∧ Bn ∉ K1 ∧ Bs ∉ lx1 ∧ Bn ∉ lx1) (fun wr => schLeft px slots wr)
  case atStart =>
    exact ⟨[], K, Q, n, lx, h0, by simp, Lib.hid (fun h => h), hS1, fun b hb hm => by have := hlx b hb; have := (hJ.lt h0 b hm).1; omega, fun b hb => .inl hb, hF.mono (by simp), hcs, hcn, hKs, hKn, fun hm => by have := hlx _ hm; omega, fun hm => by have := hlx _ hm; omega⟩
  case round =>
    clear hcs hcn hKs hKn hS1 h0 hF hbs hbn
    obtain ⟨pre, K1, Q1, n1, lx1, hJ1, hlen, HMi, hS1, hk1, hl1, hF1, hcs, hcn, hbk1, hbk2, hbx1, hbx2⟩ := hrel
    have hbs := cell_lt hcs
    have hbn := cell_lt hcn
    simp only at hbs hbn
    have HS1 := Lib.hid hS1
    obtain ⟨ph, lh, hx1, hh1, hx2, rfl⟩ := hS1
    have c1 := hx1.cell 1
    simp only [List.getElem?_cons_zero, List.getElem?_cons_succ] at c1
    have HMn := Lib.hid (heap_min hh1)
    have HH := Lib.hid (And.intro hx1 (And.intro hh1 hx2))
    have HB := Lib.hid (And.intro hJ1 (And.intro hk1 (And.intro hl1 (And.intro hF1 (And.intro hbk1 (And.intro hbk2 (And.intro hbx1 hbx2)))))))
    clear hJ1 hk1 hl1 hF1 hbk1 hbk2 hbx1 hbx2 hx1 hh1 hx2
    gi_wp2_with fail
    refine ⟨trivial, fun _ => by omega, ?_⟩
    gi_at_call 136
    refine (callsIn_wide.2 HMn.out).mono ?_
    rintro r w1 ⟨f1, hr⟩
    have c1 := f1.cell c1 (by simp)
    have hcs := f1.cell hcs (by simp)
    have hcn := f1.cell hcn (by simp)
    have hs1 := f1.size
    have hbs1 : Bs < w1.heap.size := by omega
    have hbn1 : Bn < w1.heap.size := by omega
    have hpx1 := cell_lt c1
    simp only at hpx1
    have hFa : ∀ v : Value, ∀ u : Value, Fr [] wr (w1.alloc (.cells #[v, u] 136)) := fun v u => f1.alloc _
    have HFa := Lib.hid hFa; clear hFa
    have hfin : ∀ (v u : Value), Mins now Q1 [] Q1 → (∃ v, Ending.returned (Value.tuple #[]) = Ending.returned v) ∧ ∃ xs K', J xs K' (w1.alloc (.cells #[v, u] 136)) ∧ DueT px slots now w0 Q lx xs K' (w1.alloc (.cells #[v, u] 136)) := fun v u hd => by
      refine ⟨⟨_, rfl⟩, pre, K1, HJ.out.fr HB.out.1 (HFa.out v u) (by simp), Q1, n1, px :: lh, ?_, HS1.out.fr0 (HFa.out v u), HB.out.2.1, HB.out.2.2.1, HB.out.2.2.2.1.trans' ((HFa.out v u).mono (by simp)), fun b hb => (HJ.out.lt HB.out.1 b hb).1⟩
      have := HMi.out hd
      rwa [List.append_nil] at this
    have HFin := Lib.hid hfin; clear hfin
    rcases hr with ⟨hn, rfl⟩ | ⟨hn, i, k, hq, hm, rfl⟩
    · gi_wp2
      refine bodyPost_ret (results_none rfl _ _ _) rfl ?_
      refine HFin.out _ _ (.done _ fun j x hx => ?_)
      obtain ⟨ph', lh', _, ⟨e, pl, v, gp, cp, bs, _, _, _, hQ, _⟩, _, _⟩ := HS1.out
      obtain ⟨p, hp, _⟩ := (hQ j x).1 hx
      omega
    · have Hq := Lib.hid (And.intro hn (And.intro hq hm)); clear hn hq hm
      by_cases hk : now < k
      · have d1 : decide (k > now) = true := decide_eq_true hk
        gi_wp2
        refine bodyPost_ret (results_none rfl _ _ _) rfl ?_
        refine HFin.out _ _ (.done _ fun j x hx => ?_)
        have := Hq.out.2.2 j x hx
        unfold elt at this
        simp only at this
        omega
      · have d1 : decide (k > now) = false := decide_eq_false hk
        have Hk := Lib.hid hk; clear hk
        gi_wp2_with fail
        refine ⟨trivial, fun _ => by omega, ?_⟩
        gi_at_call 88
        have hFw := HFa.out (.int .i64 (i : Nat)) (.int .i64 k)
        have b2 := Blk.new w1 [.int .i64 (i : Nat), .int .i64 k] 136
        have hlh := HH.out.2.1.lt
        have HB2 := Lib.hid (And.intro hFw (And.intro b2 hlh)); clear hFw b2 hlh
        refine (callsIn_wide.2 (pop_w (HH.out.2.1.fr HB2.out.1 (by simp)))).mono ?_
        rintro r W3 (⟨hn0, _, _⟩ | ⟨_, i', k', hq', hm', rfl, l', h3, f3, k3⟩)
        · exact absurd Hq.out.1 (by omega)
        · have hik : i' = i ∧ k' = k := by
            have e1 := Hq.out.2.2 i' k' hq'
            have e2 := hm' i k Hq.out.2.1
            unfold elt at e1 e2
            simp only at e1 e2
            omega
          obtain ⟨rfl, rfl⟩ := hik
          have hbx := f3.blk HB2.out.2.1 (fun hm => by have := HB2.out.2.2 _ hm; omega)
          have hc0 := hbx.cell 0
          simp only [List.getElem?_cons_zero] at hc0
          have hfw : Fr lh wr W3 := (HB2.out.1.mono (by simp)).trans' f3
          have hnx : ∀ b ∈ K1, b ∉ lh := fun b hb hm => HB.out.2.1 b (by simp [hm]) hb
          have hJ3 := HJ.out.fr HB.out.1 hfw hnx
          have hs3 := hfw.size
          have hlt3 := HJ.out.lt HB.out.1
          have hcs3 : W3.cell? ⟨Bs, 0, none⟩ = some (hptr px) := f3.cell ((((Fr.refl [] w1).alloc _).cell hcs (by simp))) (fun hm => HB.out.2.2.2.2.2.2.1 (by simp [hm]))
          have hcn3 : W3.cell? ⟨Bn, 0, none⟩ = some (.int .i64 now) := f3.cell ((((Fr.refl [] w1).alloc _).cell hcn (by simp))) (fun hm => HB.out.2.2.2.2.2.2.2 (by simp [hm]))
          have hsch : SchAt W3 px slots (updQ Q1 i' none) (n1 - 1) (px :: l') := ⟨ph, l', hfw.blk HH.out.1 HH.out.2.2, h3, fun hm => by
            rcases k3 _ hm with h | h
            · exact HH.out.2.2 h
            · have := (HB2.out.1.blk HH.out.1 (by simp)).lt; omega, rfl⟩
          have HR := Lib.hid (And.intro hsch (And.intro hfw (And.intro k3 (And.intro hcs3 hcn3))))
          obtain ⟨fn, tmps, assign, body, hy, hRd⟩ := hY pre K1 i' W3 hJ3 (by have := Hq.out.1; omega)
          have HRd := Lib.hid hRd
          clear hsch hfw k3 hcs3 hcn3 f3 h3 hq' hm' hbx hJ3 hRd hnx hcs hcn c1 hY hlt3
          gi_wp2
          refine ⟨fun _ => by omega, ?_⟩
          refine HRd.out.mono ?_
          rintro e W4 ⟨rfl, K4, hJ4, hF4, hk4⟩
          have HJ4 := Lib.hid (And.intro hJ4 (And.intro hF4 hk4)); clear hJ4 hF4 hk4
          gi_wp2
          go_roundw
          case rel =>
            have hK1 := HJ.out.lt HB.out.1
            have hs0 := HB.out.2.2.2.1.size
            have hl3 := HR.out.1.lt
            have hnk : ∀ b ∈ px :: l', b ∉ K1 := fun b hb hm => by
              rcases List.mem_cons.1 hb with rfl | hb'
              · exact HB.out.2.1 _ (by simp) hm
              · rcases HR.out.2.2.1 b hb' with h | h
                · exact HB.out.2.1 b (by simp [h]) hm
                · have := (hK1 b hm).2; have := HB2.out.1.size; omega
            have hsub : ∀ b ∈ px :: l', b ∈ lx ∨ w0.heap.size ≤ b := fun b hb => by
              rcases List.mem_cons.1 hb with rfl | hb'
              · exact HB.out.2.2.1 _ (by simp)
              · rcases HR.out.2.2.1 b hb' with h | h
                · exact HB.out.2.2.1 b (by simp [h])
                · have := HB2.out.1.size; exact .inr (by omega)
            have hnk4 : ∀ b ∈ px :: l', b ∉ K4 := fun b hb hm => by
              rcases HJ4.out.2.2 b hm with h | h
              · exact hnk b hb h
              · have := hl3 b hb; omega
            have hnm : ∀ x, x < wr.heap.size → x ∉ K1 → x ∉ K4 := fun x hx hn hm => by
              rcases HJ4.out.2.2 x hm with h | h
              · exact hn h
              · omega
            have hnl : ∀ x, x < wr.heap.size → x ∉ px :: lh → x ∉ px :: l' := fun x hx hn hm => by
              rcases List.mem_cons.1 hm with rfl | hb'
              · exact hn (by simp)
              · rcases HR.out.2.2.1 x hb' with h | h
                · exact hn (by simp [h])
                · have := HB2.out.1.size; omega
            exact ⟨pre ++ [i'], K4, updQ Q1 i' none, n1 - 1, px :: l', HJ4.out.1, by have := Hq.out.1; simp; omega, Lib.hid (Mins.snoc HMi.out Hq.out.2.1 (by have := Hk.out; omega) (fun j y hy => by
                have := Hq.out.2.2 j y hy; unfold elt at this; simpa using this)), HR.out.1.fr HJ4.out.2.1 hnk, hnk4, hsub,
              (HB.out.2.2.2.1.trans (HR.out.2.1) (fun b hb => HB.out.2.2.1 b (by simp [hb]))).trans HJ4.out.2.1 (fun b hb => .inr (hK1 b hb).1),
              HJ4.out.2.1.cell HR.out.2.2.2.1 HB.out.2.2.2.2.1, HJ4.out.2.1.cell HR.out.2.2.2.2 HB.out.2.2.2.2.2.1, hnm Bs hbs HB.out.2.2.2.2.1, hnm Bn hbn HB.out.2.2.2.2.2.1, hnl Bs hbs HB.out.2.2.2.2.2.2.1, hnl Bn hbn HB.out.2.2.2.2.2.2.2⟩
          case measure =>
            have hK1 := HJ.out.lt HB.out.1
            have hnk : ∀ b ∈ px :: l', b ∉ K1 := fun b hb hm => by
              rcases List.mem_cons.1 hb with rfl | hb'
              · exact HB.out.2.1 _ (by simp) hm
              · rcases HR.out.2.2.1 b hb' with h | h
                · exact HB.out.2.1 b (by simp [h]) hm
                · have := (hK1 b hm).2; have := HB2.out.1.size; omega
            rw [schLeft_eq (HR.out.1.fr HJ4.out.2.1 hnk), schLeft_eq HS1.out]
            have := Hq.out.1
            omega
theorem wpListIn_app1 {F : Fence} {nf : Nat} {P : Program} {w : World} {ops : Array Oper} {rest : List Oper} {o : Oper} {a : Act} {Q : Exit → Act → World → Prop} (hgd : o.guard = none) (s x : Operand) (t : TypeId)
    (ho : o.op = .call { callee := .builtin .append, args := #[s, x], argTypes := #[t, t] })
    (e : TypeId) (z : Value) (bytes : Nat) (ht : P.underlying t = some (.slice e)) (hinfo : (P.info? e).map (fun i => (i.zero, i.size, i.bytes)) = some (some z, 1, bytes)) (hzs : z.cells.size = 1)
    (v : Value) (n : Nat) (xs : List Value) (hs : a.eval s = v) (hown : w.ownsRow 0 e 1 v n xs)
    (b : Nat) (u : Value) (hx : a.eval x = .slice (some ⟨b, 0, none⟩) 1 1) (hu : w.cell? ⟨b, 0, none⟩ = some u) (hu1 : u.oneCell' = true)
    (hn : n + 1 ≤ 4294967296) (hby : bytes ≤ 1024)
    (h : ∀ g cap w', w'.ownsRow 0 e 1 (.slice (some ⟨g, 0, none⟩) (n + 1) cap) (n + 1) (xs ++ [u]) → w.grownBy w' v.ownBlock → (v.ownBlock = some g ∨ w.heap.size ≤ g) →
      wpListIn F nf P ops Q rest (a.put o.dst (.slice (some ⟨g, 0, none⟩) (n + 1) cap)) w') : wpListIn F nf P ops Q (o :: rest) a w := by
 obtain ⟨i0, hi, hz0, hz1, hz2⟩ := info_parts hinfo
 have hb2 : (n + 1) * bytes ≤ 140737488355328 := by {
 have : (n + 1) * bytes ≤ 4294967296 * 1024 := Nat.mul_le_mul hn hby
 omega
 }
 have hne : ∀ j y, [u][j]? = some y → w.cell? ((⟨b, 0, none⟩ : Addr).add j) = some y := by {
 intro j y hj
 cases j with
 | zero => simp at hj; subst hj; exact hu
 | succ j => simp at hj
 }
 obtain ⟨g, cap, w', hr, h2, h3, h4⟩ := run_app (P := P) w t o.type e i0 z 1 bytes ht hi hz0 hz1 hz2 hzs (by decide) v n xs hown ⟨b, 0, none⟩ 1 1 [u] rfl hne (by simp [hu1]) (by decide) (by unfold maxLen; omega) hb2
 refine wpListIn_plain hgd fun K hK' => ?_
 unfold Oper.wpIn
 refine ⟨?_, ?_⟩
 · simp [Oper.about, ho, resolve, Target.leads, Sem.run_pure]
 {
 rw [Oper.semAt_plain F _ _ (by rw [ho]; intro c hc'; cases hc')]
 simp [execOp, ho, resolve, invoke, builtin, hs, hx, hr, Result.andThen]
 exact hK' _ _ (h g cap w' h2 h3 h4)
 }
def DueI (B : Nat) (pre K : List Nat) (W : World) : Prop := ∃ v, K = B :: v.ownBlock.toList ∧ Blk W B 94 [v] ∧ RowI W v pre ∧ ∀ q, v.ownBlock = some q → B < q
theorem dueI_owned (B : Nat) : Owned B (DueI B) := by
 constructor
 {
 rintro pre K S A C ⟨v, rfl, h1, h2, h3⟩ hF hS
 exact ⟨v, rfl, hF.blk h1 (hS _ (by simp)), h2.fr hF (fun q hq => hS _ (by simp [hq])), h3⟩
 }
 {
 rintro pre K A ⟨v, rfl, h1, h2, h3⟩ b hb
 simp only [List.mem_cons, Option.mem_toList] at hb
 rcases hb with rfl | hb
 · exact ⟨Nat.le_refl _, h1.lt⟩
 · exact ⟨Nat.le_of_lt (h3 b hb), h2.lt hb⟩
 }
theorem dueI_more {B : Nat} {pre K : List Nat} {W w1 : World} {x g cap : Nat} {v : Value} (hK : K = B :: v.ownBlock.toList) (h1 : Blk W B 94 [v]) (_h2 : RowI W v pre) (h3 : ∀ q, v.ownBlock = some q → B < q)
    (hown : w1.ownsRow 0 3 1 (.slice (some ⟨g, 0, none⟩) (pre.length + 1) cap) (pre.length + 1) (encN pre ++ [.int .i64 x])) (hgrow : (W.alloc (.cells #[.int .i64 x] 3)).grownBy w1 v.ownBlock) (hg : v.ownBlock = some g ∨ (W.alloc (.cells #[.int .i64 x] 3)).heap.size ≤ g) :
    Blk w1 B 94 [v] ∧ goesOn (DueI B) (pre ++ [x]) K W (w1.setCell ⟨B, 0, none⟩ (.slice (some ⟨g, 0, none⟩) (pre.length + 1) cap)) := by
 have hlt := h1.lt
 simp only [World.size_alloc] at hg
 have hF : Fr v.ownBlock.toList W w1 := ((Fr.refl _ _).alloc _).grown hgrow (fun q e => .inl (by simp [e]))
 have hb1 : Blk w1 B 94 [v] := hF.blk h1 (fun hm => by have := h3 B (by simpa using hm); omega)
 have hgB : B < g := by {
 rcases hg with e | e
 · exact h3 g e
 · omega
 }
 have e1 : (Value.slice (some ⟨g, 0, none⟩) (pre.length + 1) cap).ownBlock = some g := rfl
 subst hK
 refine ⟨hb1, B :: [g], ⟨_, by rw [e1]; rfl, hb1.set 0 _, ?_, fun q hq => by rw [e1] at hq; cases hq; exact hgB⟩, (hF.mono (by simp +contextual)).setCell _ _ (.inl (by simp)), fun b hb => ?_⟩
 {
 have : RowI w1 (.slice (some ⟨g, 0, none⟩) (pre.length + 1) cap) (pre ++ [x]) := by {
 unfold RowI encN
 unfold encN at hown
 simpa using hown
 }
 exact ownsRow_other this _ _ (by rw [e1]; simp; omega)
 }
 {
 simp only [List.mem_cons, List.not_mem_nil, or_false] at hb
 rcases hb with rfl | rfl
 · exact .inl (by simp)
 {
 rcases hg with e | e
 · exact .inl (by simp [e])
 · exact .inr (by omega)
 }
 }
theorem due_w {w : World} {px slots n : Nat} {Q : Nat → Option Int} {lx : List Nat} (h : SchAt w px slots Q n lx) (now : Int) :
    Calls Tryz.prog 44 #[hptr px, .int .i64 now] w fun e w' => ∃ v ds Q' n' lx', e = .returned v ∧ Mins now Q ds Q' ∧ SchAt w' px slots Q' n' lx' ∧ RowI w' v ds ∧ Fr lx w w' ∧ (∀ b ∈ lx', b ∈ lx ∨ w.heap.size ≤ b) ∧ (∀ q, v.ownBlock = some q → w.heap.size ≤ q ∧ q ∉ lx') := by
 refine (callsIn_wide (n := 9)).1 ?_
 refine callsIn_of_wp_marks Tryz.func44 rfl trivial ?_ rfl
 simp only [Tryz.ntmps44, List.size_toArray, List.length_cons, List.length_nil, Nat.reduceAdd, Nat.reduceSub, Array.replicate_succ, Array.replicate_zero, List.push_toArray, List.append_toArray, List.nil_append, List.cons_append]
 have HS := Lib.hid h; clear h
 gi_wp2_with fail
 refine ⟨trivial, ?_⟩
 gi_at_call 85
 refine (callsIn_wide.2 (xvalid_w HS.out)).mono ?_
 rintro _ w ⟨rfl, rfl⟩
 gi_wp2_with fail
 refine ⟨trivial, ?_⟩
 gi_at_call 86
 refine (callsIn_wide.2 (callsIn_wide.1 (due_in px now _))).mono ?_
 rintro _ _ ⟨rfl, rfl⟩
 have hs1 : (w.alloc (Obj.cells #[Value.slice none 0 0] 94)).heap.size = w.heap.size + 1 := by simp
 gi_wp2_with fail
 have b0 := Blk.new w [.slice none 0 0] 94
 have b1 := Blk.new (w.alloc (.cells #[.slice none 0 0] 94)) [hptr px] 80
 have b2 := Blk.new ((w.alloc (.cells #[.slice none 0 0] 94)).alloc (.cells #[hptr px] 80)) [.int .i64 now] 2
 simp only [World.size_alloc] at b1 b2
 have hF0 : Fr [] w (((w.alloc (.cells #[.slice none 0 0] 94)).alloc (.cells #[hptr px] 80)).alloc (.cells #[.int .i64 now] 2)) := (((Fr.refl _ _).alloc _).alloc _).alloc _
 have hb0 := (b0.alloc (.cells #[hptr px] 80)).alloc (.cells #[.int .i64 now] 2)
 have hb1 := b1.alloc (.cells #[.int .i64 now] 2)
 have hsz : (((w.alloc (.cells #[.slice none 0 0] 94)).alloc (.cells #[hptr px] 80)).alloc (.cells #[.int .i64 now] 2)).heap.size = w.heap.size + 3 := by simp
 clear b0 b1
 generalize (((w.alloc (.cells #[.slice none 0 0] 94)).alloc (.cells #[hptr px] 80)).alloc (.cells #[.int .i64 now] 2)) = W0 at *
 have hle : n ≤ 65536 := by {
 obtain ⟨ph, lh, _, hh, _, _⟩ := HS.out
 have := hh.le
 omega
 }
 refine rfun_goes (α := Nat) rfl (by decide) (gf := 135) (lb := #[.pointer (some ⟨w.heap.size + 1, 0, none⟩), .pointer (some ⟨w.heap.size + 1 + 1, 0, none⟩)]) rfl trivial (enters_of Tryz.func135 (by kernel_rfl) rfl)
   (encs := fun x => #[.int .i64 (x : Nat)]) (fun _ => rfl) (base := w.heap.size) (N := n) (by omega) (T := DueT px slots now w Q lx) ?hT (DueI w.heap.size) (dueI_owned w.heap.size) [w.heap.size] ⟨_, rfl, hb0, RowI.nil _, fun q hq => by cases hq⟩
   (fun l J K W hJ hF h0 hK hY => due1_in 8 l (w.heap.size + 1) (w.heap.size + 1 + 1) px slots n now Q lx w (by decide) J K W hJ (hF0.trans' hF) h0 HS.out (hF.cell (hb1.cell 0) (by simp)) (hF.cell (b2.cell 0) (by simp)) (by omega) (by omega)
     (fun hm => by have := hK _ hm; simp at this; omega) (fun hm => by have := hK _ hm; simp at this; omega) hY)
   (fun x => { tmps := #[hptr px, .int .i64 now, undef, undef, .slice none 0 0, .pointer (some ⟨w.heap.size, 0, none⟩), .int .i64 (x : Nat), hptr px, .bool true, .bool false, hptr px, .int .i64 now, .func (.func 135) #[] #[.pointer (some ⟨w.heap.size + 1, 0, none⟩), .pointer (some ⟨w.heap.size + 1 + 1, 0, none⟩)], .int .i64 (x : Nat), undef, undef, undef, undef, undef], defers := [] }) ?assign ?body ?done
 case hT =>
  rintro xs K A B ⟨Q', n', lx', h1, h2, h3, h4, h5, h6⟩ hF
  exact ⟨Q', n', lx', h1, h2.fr hF h3, h3, h4, h5.trans hF (fun b hb => .inr (h6 b hb)), h6⟩
 case assign =>
  intro l x W K hK
  gi_wp2
  exact hK
 case body =>
  rintro l pre K x W ⟨v, rfl, hv, hrow, hq⟩ hlt
  have hc := hv.cell 0
  simp only [List.getElem?_cons_zero] at hc
  obtain ⟨a0, c0, rfl⟩ := ownsRow_slice hrow
  gi_wp2_with (gi_at_builtin; go_loud (refine wpListIn_app1 rfl _ _ _ rfl 3 (.int .i64 0) 8 Tryz.underlying94 Tryz.info3 rfl (.slice a0 pre.length c0) pre.length (encN pre) rfl (hrow.alloc _) W.heap.size (.int .i64 x) rfl (cell_new1 _ _ _ _ rfl) rfl (by omega) (by decide) ?_; intro g cap w1 hown hgrow hg; obtain ⟨hb1, hgo⟩ := dueI_more rfl hv hrow hq hown hgrow hg; have hc1 := hb1.cell 0; have hf1 := hb1.frozen 0; simp only [List.getElem?_cons_zero] at hc1))
 case done =>
  rintro D xs K K' W hD ⟨v, rfl, hv, hrow, hq⟩ ⟨Q', n', lx', h1, h2, h3, h4, h5, h6⟩ hDK hDK' hKK hd
  have hc := hv.cell 0
  simp only [List.getElem?_cons_zero] at hc
  obtain ⟨a0, c0, rfl⟩ := ownsRow_slice hrow
  gi_wp2
  refine ⟨by simp, .inl ⟨_, _, rfl, run_takeDeferred hd, ?_⟩⟩
  have hF : Fr [D] W (W.putObj D (.deferred none)) := (Fr.refl _ _).putObj _ _ (.inl (by simp))
  refine ⟨.slice a0 xs.length c0, ?_, .slice a0 xs.length c0, xs, Q', n', lx', rfl, h1, h2.fr hF (fun b hb hm => h3 b hb (by rw [show b = D by simpa using hm]; exact hDK)), hrow.fr hF (fun q hq hm => hDK' (by rw [← show q = D by simpa using hm]; simp [hq])), h5.trans hF (fun b hb => .inr (by rw [show b = D by simpa using hb]; omega)), h4, fun q e => ⟨Nat.le_of_lt (hq q e), fun hm => h3 q hm (hKK q (by simp [e]))⟩⟩
  simp [results, Tryz.results44, go_sem]
end Go.Proofs.YtgmnemndjjmgkaaGreat
