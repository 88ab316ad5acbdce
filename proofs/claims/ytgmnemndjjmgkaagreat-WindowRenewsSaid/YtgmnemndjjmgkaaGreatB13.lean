/- A range over a function whose body never leaves early: the function may change what the caller does not own. -/
import Derived.Test.YtgmnemndjjmgkaaGreatB12
import Derived.Test.YtgmnemndjjmgkaaGreatB10
import Derived.Test.YtgmnemndjjmgkaaGreatB4
import Derived.Test.YtgmnemndjjmgkaaGreatB9
import Derived.Test.YtgmnemndjjmgkaaGreatB11
import Derived.Test.YtgmnemndjjmgkaaGreatB5
import Derived.Shelf.SlSortCmp.WholeK
import Derived.Shelf.Lay
import Derived.Ground.SlsfProg
import Derived.RangeFuncNested
import Derived.RangeFuncCalls
import Derived.Test.YtgmnemndjjmgkaaGreatB1
set_option linter.unusedSimpArgs false
set_option linter.unusedVariables false
/- The schedule of expiries: New, Next, Copy. -/
namespace Go.Proofs.YtgmnemndjjmgkaaGreat
open Go.RowKit
set_option maxRecDepth 10000
set_option maxHeartbeats 800000
def SchAt (w : World) (px slots : Nat) (Q : Nat → Option Int) (n : Nat) (l : List Nat) : Prop := ∃ ph lh, Blk w px 160 [.int .i64 slots, hptr ph] ∧ HeapAt w ph slots Q n lh ∧ px ∉ lh ∧ l = px :: lh
section
variable {w w' : World} {px slots n : Nat} {Q : Nat → Option Int} {l S : List Nat}
theorem SchAt.fr (h : SchAt w px slots Q n l) (hf : Fr S w w') (hs : ∀ b ∈ l, b ∉ S) : SchAt w' px slots Q n l := by
 obtain ⟨ph, lh, h1, h2, h3, rfl⟩ := h
 exact ⟨ph, lh, hf.blk h1 (hs _ (by simp)), h2.fr hf (fun b hb => hs b (by simp [hb])), h3, rfl⟩
theorem SchAt.fr0 (h : SchAt w px slots Q n l) (hf : Fr [] w w') : SchAt w' px slots Q n l := h.fr hf (by simp)
theorem SchAt.lt (h : SchAt w px slots Q n l) : ∀ b ∈ l, b < w.heap.size := by
 obtain ⟨ph, lh, h1, h2, h3, rfl⟩ := h
 intro b hb
 rcases List.mem_cons.1 hb with rfl | hb
 · exact h1.lt
 · exact h2.lt b hb
theorem xnew_w (slots : Nat) (w : World) (hs : slots ≤ 65536) :
    Calls Tryz.prog 122 #[.int .i64 slots] w fun e w' => ∃ px, e = .returned (.tuple #[hptr px, .int .i64 0]) ∧ ∃ l, SchAt w' px slots (fun _ => none) 0 l ∧ Fr [] w w' ∧ ∀ b ∈ l, w.heap.size ≤ b := by
 have HN := Lib.hid (hnew_w slots w hs)
 go_enter Tryz.func122, Tryz.ntmps122
 go_wp2_with fail
 refine HN.out.mono ?_
 rintro _ w1 ⟨ph, rfl, lh, h1, h2, h3⟩
 have H1 := Lib.hid (And.intro h1 (And.intro h2 h3)); clear h1 h2 h3
 go_wp2
 go_ret2
 have hs1 := H1.out.2.1.size
 have hb := Blk.new w1 [.int .i64 slots, hptr ph] 160
 have hF : Fr [] w1 (w1.alloc (.cells #[.int .i64 slots, hptr ph] 160)) := (Fr.refl [] w1).alloc _
 refine ⟨w1.heap.size, rfl, _, ⟨ph, lh, hb, H1.out.1.fr hF (by simp), fun hm => by have := H1.out.1.lt _ hm; omega, rfl⟩, H1.out.2.1.trans' hF, fun b hb => ?_⟩
 rcases List.mem_cons.1 hb with rfl | hb
 · exact hs1
 · exact H1.out.2.2 b hb
theorem xvalid_w (h : SchAt w px slots Q n l) : Calls Tryz.prog 85 #[hptr px] w fun e w' => e = .returned (.bool true) ∧ w' = w := by
 obtain ⟨ph, lh, h1, h2, h3, rfl⟩ := h
 have c1 := h1.cell 1
 simp only [List.getElem?_cons_zero, List.getElem?_cons_succ] at c1
 clear h1 h2 h3
 go_enter Tryz.func85, Tryz.ntmps85
 go_wp2
 go_ret
 exact ⟨rfl, rfl⟩
theorem xnext_w (h : SchAt w px slots Q n l) :
    Calls Tryz.prog 110 #[hptr px] w fun r w' => Fr [] w w' ∧ ((n = 0 ∧ r = .returned (.tuple #[.agg #[.int .i64 0, .int .i64 0], .bool false])) ∨
      (0 < n ∧ ∃ i k, Q i = some k ∧ (∀ j x, Q j = some x → ¬ elt (j, x) (i, k)) ∧ r = .returned (.tuple #[.agg #[.int .i64 (i : Nat), .int .i64 k], .bool true]))) := by
 have hf0 : Fr [] w (w.alloc (.cells #[.int .i64 0, .int .i64 0] 136)) := (Fr.refl _ _).alloc _
 have HBX := Lib.hid (Blk.new w [.int .i64 0, .int .i64 0] 136)
 have HV := Lib.hid (xvalid_w (h.fr0 hf0))
 obtain ⟨ph, lh, h1, h2, h3, rfl⟩ := h
 have HM := Lib.hid (heap_min (h2.fr hf0 (by simp)))
 have c1 := (hf0.blk h1 (by simp)).cell 1
 simp only [List.getElem?_cons_zero, List.getElem?_cons_succ] at c1
 clear h1 h2 h3 hf0
 go_enter Tryz.func110, Tryz.ntmps110
 go_wp2_with fail
 refine HV.out.mono ?_
 rintro _ w0 ⟨rfl, rfl⟩
 go_wp2_with fail
 refine HM.out.mono ?_
 rintro r w1 ⟨f1, hr⟩
 have k1 := f1.blk HBX.out (by simp)
 have z0 := k1.frozen 0
 have z1 := k1.frozen 1
 have x0 := k1.cell 0
 have x1 := k1.cell 1
 simp only [List.getElem?_cons_zero, List.getElem?_cons_succ] at x0 x1
 have HF1 := Lib.hid f1
 have HK1 := Lib.hid k1; clear f1 k1 HV HM
 rcases hr with ⟨hn, rfl⟩ | ⟨hn, i, k, h1, h2, rfl⟩
 {
 have Hn := Lib.hid hn; clear hn
 go_wp2
 have hK := ((HK1.out.set 0 (.int .i64 0)).set 1 (.int .i64 0))
 have r0 := hK.cell 0
 have r1 := hK.cell 1
 simp only [List.set_cons_zero, List.set_cons_succ, List.getElem?_cons_zero, List.getElem?_cons_succ] at r0 r1
 refine bodyPost_ret (v := .tuple #[.agg #[.int .i64 0, .int .i64 0], .bool false]) (by simp [results, Tryz.results110, go_sem, r0, r1]) rfl ?_
 exact ⟨((((Fr.refl [] w).alloc _).trans' HF1.out).setCell _ _ (.inr (Nat.le_refl _))).setCell _ _ (.inr (Nat.le_refl _)), .inl ⟨Hn.out, rfl⟩⟩
 }
 {
 have Hn := Lib.hid (And.intro hn (And.intro h1 h2)); clear hn h1 h2
 go_wp2
 have hK := ((HK1.out.set 0 (.int .i64 (i : Int))).set 1 (.int .i64 k))
 have r0 := hK.cell 0
 have r1 := hK.cell 1
 simp only [List.set_cons_zero, List.set_cons_succ, List.getElem?_cons_zero, List.getElem?_cons_succ] at r0 r1
 refine bodyPost_ret (v := .tuple #[.agg #[.int .i64 i, .int .i64 k], .bool true]) (by simp [results, Tryz.results110, go_sem, r0, r1]) rfl ?_
 exact ⟨((((Fr.refl [] w).alloc _).trans' HF1.out).setCell _ _ (.inr (Nat.le_refl _))).setCell _ _ (.inr (Nat.le_refl _)), .inr ⟨Hn.out.1, i, k, Hn.out.2.1, Hn.out.2.2, rfl⟩⟩
 }
end
abbrev cptr (p : Nat) : Value := .pointer (some ⟨p, 0, none⟩)
def sumC (a b : Int) : Int := if a + b ≤ 9223372036854775807 then 0 else 7
def sumV (a b : Int) : Int := if a + b ≤ 9223372036854775807 then a + b else 0
theorem add_w (a b : Int) (ha : -9223372036854775808 ≤ a) (ha2 : a ≤ 9223372036854775807) (hb : 0 ≤ b) (hb2 : b ≤ 9223372036854775807) (w : World) :
    Calls Tryz.prog 154 #[.int .i64 a, .int .i64 b] w fun e w' => e = .returned (.tuple #[.int .i64 (sumV a b), .int .i64 (sumC a b)]) ∧ w' = w := by
 have d2 : decide (b < 0) = false := decide_eq_false (by omega)
 by_cases hs : a + b ≤ 9223372036854775807
 {
 have hw : IntKind.i64.wrap (a + b) = a + b := IntWalk.i64_in _ (by omega)
 have e1 : sumV a b = a + b := if_pos hs
 have e2 : sumC a b = 0 := if_pos hs
 rw [e1, e2]
 by_cases h0 : a < 0
 {
 have d1 : decide (a < 0) = true := decide_eq_true h0
 clear hs e1 e2
 go_enter Tryz.func154, Tryz.ntmps154
 go_wp2
 go_ret2
 exact ⟨rfl, rfl⟩
 }
 {
 have d1 : decide (a < 0) = false := decide_eq_false h0
 have d3 : decide (a + b < 0) = false := decide_eq_false (by omega)
 clear hs e1 e2
 go_enter Tryz.func154, Tryz.ntmps154
 go_wp2
 go_ret2
 exact ⟨rfl, rfl⟩
 }
 }
 {
 have h0 : ¬ a < 0 := by omega
 have hw : IntKind.i64.wrap (a + b) = a + b - 18446744073709551616 := by simp [IntKind.wrap, IntKind.bits, IntKind.signed]; omega
 have d1 : decide (a < 0) = false := decide_eq_false h0
 have d3 : decide (a + b - 18446744073709551616 < 0) = true := decide_eq_true (by omega)
 have e1 : sumV a b = 0 := if_neg hs
 have e2 : sumC a b = 7 := if_neg hs
 rw [e1, e2]
 clear hs e1 e2
 go_enter Tryz.func154, Tryz.ntmps154
 go_wp2
 go_ret2
 exact ⟨rfl, rfl⟩
 }
structure Clk (w : World) (pc : Nat) (m now : Int) : Prop where
  hd : Blk w pc 131 [.int .i64 m, .int .i64 now]
  m1 : 1 ≤ m
  m2 : m ≤ 9223372036854775807
  n0 : 0 ≤ now
  n1 : now + m ≤ 9223372036854775807
section
variable {w w' : World} {pc : Nat} {m now : Int}
theorem Clk.fr {S : List Nat} (h : Clk w pc m now) (hf : Fr S w w') (hs : pc ∉ S) : Clk w' pc m now := ⟨hf.blk h.hd hs, h.m1, h.m2, h.n0, h.n1⟩
theorem Clk.fr0 (h : Clk w pc m now) (hf : Fr [] w w') : Clk w' pc m now := h.fr hf (by simp)
theorem cnew_w (m : Int) (h1 : 1 ≤ m) (h2 : m ≤ 9223372036854775807) (w : World) : Calls Tryz.prog 120 #[.int .i64 m] w fun e w' => ∃ pc, e = .returned (.tuple #[cptr pc, .int .i64 0]) ∧ Clk w' pc m 0 ∧ Fr [] w w' ∧ pc = w.heap.size := by
 have d1 : decide (m < 1) = false := decide_eq_false (by omega)
 go_enter Tryz.func120, Tryz.ntmps120
 go_wp2
 go_ret2
 exact ⟨w.heap.size, rfl, ⟨Blk.new w [.int .i64 m, .int .i64 0] _, h1, h2, Int.le_refl _, by omega⟩, (Fr.refl [] w).alloc _, rfl⟩
theorem cvalid_w (h : Clk w pc m now) : Calls Tryz.prog 84 #[cptr pc] w fun e w' => e = .returned (.bool true) ∧ w' = w := by
 have c0 := h.hd.cell 0
 simp only [List.getElem?_cons_zero] at c0
 have d1 : decide (m ≥ 1) = true := decide_eq_true h.m1
 clear h
 go_enter Tryz.func84, Tryz.ntmps84
 go_wp2
 go_ret
 exact ⟨rfl, rfl⟩
theorem cnow_w (h : Clk w pc m now) : Calls Tryz.prog 42 #[cptr pc] w fun e w' => e = .returned (.int .i64 now) ∧ w' = w := by
 have HV := Lib.hid (cvalid_w h)
 have c1 := h.hd.cell 1
 simp only [List.getElem?_cons_zero, List.getElem?_cons_succ] at c1
 clear h
 go_enter Tryz.func42, Tryz.ntmps42
 go_wp2_with fail
 refine HV.out.mono ?_
 rintro _ w ⟨rfl, rfl⟩
 go_wp2
 go_ret
 exact ⟨rfl, rfl⟩
theorem after_w (h1 : 1 ≤ m) (h2 : m ≤ 9223372036854775807) (t : Int) (ht : -9223372036854775808 ≤ t) (ht2 : t ≤ 9223372036854775807) (w : World) : Calls Tryz.prog 109 #[.int .i64 m, .int .i64 t] w fun e w' => e = .returned (.tuple #[.int .i64 (sumV t m), .int .i64 (sumC t m)]) ∧ w' = w := by
 have HA := Lib.hid (add_w t m ht ht2 (by omega) h2 w)
 clear h1 h2 ht ht2
 go_enter Tryz.func109, Tryz.ntmps109
 go_wp2_with fail
 refine HA.out.mono ?_
 rintro _ w ⟨rfl, rfl⟩
 go_wp2
 go_ret2
 exact ⟨rfl, rfl⟩
def chkT (m now t : Int) : Int := if t < now then 10 else sumC t m
theorem ccheck_w (h : Clk w pc m now) (t : Int) (ht : -9223372036854775808 ≤ t) (ht2 : t ≤ 9223372036854775807) : Calls Tryz.prog 55 #[cptr pc, .int .i64 t] w fun e w' => e = .returned (.int .i64 (chkT m now t)) ∧ w' = w := by
 have HV := Lib.hid (cvalid_w h)
 have HA := Lib.hid (after_w h.m1 h.m2 t ht ht2 w)
 have c0 := h.hd.cell 0
 have c1 := h.hd.cell 1
 simp only [List.getElem?_cons_zero, List.getElem?_cons_succ] at c0 c1
 clear h
 unfold chkT
 by_cases hlt : t < now
 {
 have d1 : decide (t < now) = true := decide_eq_true hlt
 rw [if_pos hlt]
 clear hlt
 go_enter Tryz.func55, Tryz.ntmps55
 go_wp2_with fail
 refine HV.out.mono ?_
 rintro _ w ⟨rfl, rfl⟩
 go_wp2
 go_ret
 exact ⟨rfl, rfl⟩
 }
 {
 have d1 : decide (t < now) = false := decide_eq_false hlt
 rw [if_neg hlt]
 clear hlt
 generalize sumC t m = cc at *
 generalize sumV t m = vv at *
 go_enter Tryz.func55, Tryz.ntmps55
 go_wp2_with fail
 refine HV.out.mono ?_
 rintro _ w ⟨rfl, rfl⟩
 go_wp2_with fail
 refine HA.out.mono ?_
 rintro _ w ⟨rfl, rfl⟩
 go_wp2
 go_ret
 exact ⟨rfl, rfl⟩
 }
theorem cadv_no (h : Clk w pc m now) (t : Int) (ht : -9223372036854775808 ≤ t) (ht2 : t ≤ 9223372036854775807) (hc : chkT m now t ≠ 0) : Calls Tryz.prog 43 #[cptr pc, .int .i64 t] w fun e w' => e = .returned (.int .i64 (chkT m now t)) ∧ w' = w := by
 have HC := Lib.hid (ccheck_w h t ht ht2)
 clear h
 generalize chkT m now t = cc at *
 have d1 : (cc == 0) = false := by simp [hc]
 clear hc
 go_enter Tryz.func43, Tryz.ntmps43
 go_wp2_with fail
 refine HC.out.mono ?_
 rintro _ w ⟨rfl, rfl⟩
 go_wp2
 go_ret
 exact ⟨rfl, rfl⟩
theorem chkT_ok {m now t : Int} (hc : chkT m now t = 0) : now ≤ t ∧ t + m ≤ 9223372036854775807 := by
 unfold chkT sumC at hc
 split at hc
 · cases hc
 {
 split at hc
 · omega
 · cases hc
 }
theorem cadv_yes (h : Clk w pc m now) (t : Int) (ht : -9223372036854775808 ≤ t) (ht2 : t ≤ 9223372036854775807) (hc : chkT m now t = 0) : Calls Tryz.prog 43 #[cptr pc, .int .i64 t] w fun e w' => e = .returned (.int .i64 0) ∧ Clk w' pc m t ∧ Fr [pc] w w' := by
 have hC := ccheck_w h t ht ht2
 have hk := chkT_ok hc
 rw [hc] at hC
 have HC := Lib.hid hC; clear hC
 have c1 := h.hd.cell 1
 have f1 := h.hd.frozen 1
 simp only [List.getElem?_cons_zero, List.getElem?_cons_succ] at c1
 have HR := Lib.hid (show Clk (w.setCell ⟨pc, 1, none⟩ (.int .i64 t)) pc m t from ⟨h.hd.set 1 _, h.m1, h.m2, by have := h.n0; omega, hk.2⟩)
 clear h hc hk
 go_enter Tryz.func43, Tryz.ntmps43
 go_wp2_with fail
 refine HC.out.mono ?_
 rintro _ w ⟨rfl, rfl⟩
 go_wp2
 go_ret
 exact ⟨rfl, HR.out, (Fr.refl _ _).setCell _ _ (.inl (by simp))⟩
theorem cexp_w (h : Clk w pc m now) (t : Int) (ht : -9223372036854775808 ≤ t) (ht2 : t ≤ 9223372036854775807) : Calls Tryz.prog 111 #[cptr pc, .int .i64 t] w fun e w' => e = .returned (.tuple #[.int .i64 (sumV t m), .int .i64 (sumC t m)]) ∧ w' = w := by
 have HV := Lib.hid (cvalid_w h)
 have HA := Lib.hid (after_w h.m1 h.m2 t ht ht2 w)
 have c0 := h.hd.cell 0
 simp only [List.getElem?_cons_zero] at c0
 clear h
 generalize sumC t m = cc at *
 generalize sumV t m = vv at *
 go_enter Tryz.func111, Tryz.ntmps111
 go_wp2_with fail
 refine HV.out.mono ?_
 rintro _ w ⟨rfl, rfl⟩
 go_wp2_with fail
 refine HA.out.mono ?_
 rintro _ w ⟨rfl, rfl⟩
 go_wp2
 go_ret2
 exact ⟨rfl, rfl⟩
end
structure Wp where
  m : Int
  E : Nat
  V : Nat
  D : Int
  now : Int
  s : Sm
  Q : Nat → Option Int
  nq : Nat
  G : Nat → Option (Nat × Nat × Int)
  added : Nat
  gone : Nat
def winK (pw pc : Nat) (Ks lx Lf : List Nat) : List Nat := pw :: pc :: (Ks ++ (lx ++ Lf))
structure WinB (w : World) (pw pc ps px pf : Nat) (P : Wp) (Ks lx Lf : List Nat) (cl : Nat → Nat) : Prop where
  hd : Blk w pw 83 [.int .i64 P.m, .int .i64 P.E, .int .i64 P.V, .int .i64 P.D, cptr pc, sptr ps, hptr px, fptr pf, .int .u64 P.added, .int .u64 P.gone]
  clk : Clk w pc P.m P.now
  st : StoreAt w ps P.s Ks
  sch : SchAt w px P.E P.Q P.nq lx
  fo : FAt w pf P.E P.V P.G Lf
  kw : cl pw = 0
  kc : cl pc = 1
  ks : ∀ q ∈ Ks, cl q = 2
  kx : ∀ q ∈ lx, cl q = 3
  kf : ∀ q ∈ Lf, cl q = 4
section
variable {w w' : World} {pw pc ps px pf : Nat} {P : Wp} {Ks Ks' lx lx' Lf Lf' S : List Nat} {cl : Nat → Nat}
theorem WinB.fr (h : WinB w pw pc ps px pf P Ks lx Lf cl) (hf : Fr S w w') (hs : ∀ q ∈ winK pw pc Ks lx Lf, q ∉ S) : WinB w' pw pc ps px pf P Ks lx Lf cl :=
  ⟨hf.blk h.hd (hs _ (by simp [winK])), h.clk.fr hf (hs _ (by simp [winK])), h.st.fr hf (fun q hq => hs q (by simp [winK, hq])), h.sch.fr hf (fun q hq => hs q (by simp [winK, hq])), h.fo.fr hf (fun q hq => hs q (by simp [winK, hq])), h.kw, h.kc, h.ks, h.kx, h.kf⟩
theorem WinB.fr0 (h : WinB w pw pc ps px pf P Ks lx Lf cl) (hf : Fr [] w w') : WinB w' pw pc ps px pf P Ks lx Lf cl := h.fr hf (by simp)
theorem WinB.lt (h : WinB w pw pc ps px pf P Ks lx Lf cl) : ∀ q ∈ winK pw pc Ks lx Lf, q < w.heap.size := by
 intro q hq
 simp only [winK, List.mem_cons, List.mem_append] at hq
 rcases hq with rfl | rfl | hq | hq | hq
 · exact h.hd.lt
 · exact h.clk.hd.lt
 · exact h.st.lt q hq
 · exact h.sch.lt q hq
 · exact h.fo.lt q hq
theorem cl_new {k n : Nat} {cl : Nat → Nat} {q j : Nat} (h1 : q < n) (h2 : cl q = j) : (if q < n then cl q else k) = j := by rw [if_pos h1]; exact h2
theorem cl_part {A A' : List Nat} {n k : Nat} {cl : Nat → Nat} (h : ∀ q ∈ A, cl q = k) (hl : ∀ q ∈ A, q < n) (hq : ∀ q ∈ A', q ∈ A ∨ n ≤ q) : ∀ q ∈ A', (if q < n then cl q else k) = k := by
 intro q hm
 rcases hq q hm with e | e
 · exact cl_new (hl q e) (h q e)
 · rw [if_neg (by omega)]
theorem WinB.setSt (h : WinB w pw pc ps px pf P Ks lx Lf cl) {s' : Sm} (hs : StoreAt w' ps s' Ks') (hF : Fr Ks w w') (hq : ∀ q ∈ Ks', q ∈ Ks ∨ w.heap.size ≤ q) : ∃ cl', WinB w' pw pc ps px pf { P with s := s' } Ks' lx Lf cl' := by
 refine ⟨fun q => if q < w.heap.size then cl q else 2, hF.blk h.hd (fun hm => by have := h.ks _ hm; have := h.kw; omega), h.clk.fr hF (fun hm => by have := h.ks _ hm; have := h.kc; omega), hs, h.sch.fr hF (fun q hq hm => by have := h.ks _ hm; have := h.kx q hq; omega), h.fo.fr hF (fun q hq hm => by have := h.ks _ hm; have := h.kf q hq; omega),
   cl_new h.hd.lt h.kw, cl_new h.clk.hd.lt h.kc, cl_part h.ks (fun q hq => h.st.lt q hq) hq, fun q hq => cl_new (h.sch.lt q hq) (h.kx q hq), fun q hq => cl_new (h.fo.lt q hq) (h.kf q hq)⟩
theorem WinB.setSch (h : WinB w pw pc ps px pf P Ks lx Lf cl) {Q' : Nat → Option Int} {nq' : Nat} (hs : SchAt w' px P.E Q' nq' lx') (hF : Fr lx w w') (hq : ∀ q ∈ lx', q ∈ lx ∨ w.heap.size ≤ q) : ∃ cl', WinB w' pw pc ps px pf { P with Q := Q', nq := nq' } Ks lx' Lf cl' := by
 refine ⟨fun q => if q < w.heap.size then cl q else 3, hF.blk h.hd (fun hm => by have := h.kx _ hm; have := h.kw; omega), h.clk.fr hF (fun hm => by have := h.kx _ hm; have := h.kc; omega), h.st.fr hF (fun q hq hm => by have := h.kx _ hm; have := h.ks q hq; omega), hs, h.fo.fr hF (fun q hq hm => by have := h.kx _ hm; have := h.kf q hq; omega),
   cl_new h.hd.lt h.kw, cl_new h.clk.hd.lt h.kc, fun q hq => cl_new (h.st.lt q hq) (h.ks q hq), cl_part h.kx (fun q hq => h.sch.lt q hq) hq, fun q hq => cl_new (h.fo.lt q hq) (h.kf q hq)⟩
theorem WinB.setFo (h : WinB w pw pc ps px pf P Ks lx Lf cl) {G' : Nat → Option (Nat × Nat × Int)} (hs : FAt w' pf P.E P.V G' Lf') (hF : Fr Lf w w') (hq : ∀ q ∈ Lf', q ∈ Lf ∨ w.heap.size ≤ q) : ∃ cl', WinB w' pw pc ps px pf { P with G := G' } Ks lx Lf' cl' := by
 refine ⟨fun q => if q < w.heap.size then cl q else 4, hF.blk h.hd (fun hm => by have := h.kf _ hm; have := h.kw; omega), h.clk.fr hF (fun hm => by have := h.kf _ hm; have := h.kc; omega), h.st.fr hF (fun q hq hm => by have := h.kf _ hm; have := h.ks q hq; omega), h.sch.fr hF (fun q hq hm => by have := h.kf _ hm; have := h.kx q hq; omega), hs,
   cl_new h.hd.lt h.kw, cl_new h.clk.hd.lt h.kc, fun q hq => cl_new (h.st.lt q hq) (h.ks q hq), fun q hq => cl_new (h.sch.lt q hq) (h.kx q hq), cl_part h.kf (fun q hq => h.fo.lt q hq) hq⟩
theorem WinB.setClk (h : WinB w pw pc ps px pf P Ks lx Lf cl) {now' : Int} (hs : Clk w' pc P.m now') (hF : Fr [pc] w w') : WinB w' pw pc ps px pf { P with now := now' } Ks lx Lf cl := by
 have hp : ∀ q, q ∈ [pc] → q = pc := fun q hq => by simpa using hq
 exact ⟨hF.blk h.hd (fun hm => by have := hp _ hm; have := h.kw; have := h.kc; subst_vars; omega), hs, h.st.fr hF (fun q hq hm => by have e := hp _ hm; have := h.ks q hq; have := h.kc; rw [e] at *; omega), h.sch.fr hF (fun q hq hm => by have e := hp _ hm; have := h.kx q hq; have := h.kc; rw [e] at *; omega), h.fo.fr hF (fun q hq hm => by have e := hp _ hm; have := h.kf q hq; have := h.kc; rw [e] at *; omega), h.kw, h.kc, h.ks, h.kx, h.kf⟩
theorem WinB.setN (h : WinB w pw pc ps px pf P Ks lx Lf cl) (hF : Fr [pw] w w') {a g : Nat} (hb : Blk w' pw 83 [.int .i64 P.m, .int .i64 P.E, .int .i64 P.V, .int .i64 P.D, cptr pc, sptr ps, hptr px, fptr pf, .int .u64 a, .int .u64 g]) : WinB w' pw pc ps px pf { P with added := a, gone := g } Ks lx Lf cl := by
 have hp : ∀ q, q ∈ [pw] → q = pw := fun q hq => by simpa using hq
 exact ⟨hb, h.clk.fr hF (fun hm => by have e := hp _ hm; have := h.kc; have := h.kw; rw [e] at *; omega), h.st.fr hF (fun q hq hm => by have e := hp _ hm; have := h.ks q hq; have := h.kw; rw [e] at *; omega), h.sch.fr hF (fun q hq hm => by have e := hp _ hm; have := h.kx q hq; have := h.kw; rw [e] at *; omega), h.fo.fr hF (fun q hq hm => by have e := hp _ hm; have := h.kf q hq; have := h.kw; rw [e] at *; omega), h.kw, h.kc, h.ks, h.kx, h.kf⟩
end
def Wm.wp (W : Wm) (nq : Nat) : Wp := { m := W.m, E := W.E, V := W.V, D := W.D, now := W.now, s := W.s, Q := W.Q, nq := nq, G := W.G, added := W.s.last, gone := W.gone }
def WinAt (w : World) (pw : Nat) (W : Wm) (K : List Nat) : Prop := W.Ok ∧ ∃ pc ps px pf nq Ks lx Lf cl, WinB w pw pc ps px pf (W.wp nq) Ks lx Lf cl ∧ K = winK pw pc Ks lx Lf
section
variable {w w' : World} {pw : Nat} {W : Wm} {K S : List Nat}
theorem WinAt.fr (h : WinAt w pw W K) (hf : Fr S w w') (hs : ∀ q ∈ K, q ∉ S) : WinAt w' pw W K := by
 obtain ⟨h0, pc, ps, px, pf, nq, Ks, lx, Lf, cl, h, rfl⟩ := h
 exact ⟨h0, pc, ps, px, pf, nq, Ks, lx, Lf, cl, h.fr hf hs, rfl⟩
theorem WinAt.fr0 (h : WinAt w pw W K) (hf : Fr [] w w') : WinAt w' pw W K := h.fr hf (by simp)
theorem WinAt.lt (h : WinAt w pw W K) : ∀ q ∈ K, q < w.heap.size := by
 obtain ⟨h0, pc, ps, px, pf, nq, Ks, lx, Lf, cl, h, rfl⟩ := h; exact h.lt
end
end Go.Proofs.YtgmnemndjjmgkaaGreat
namespace Go.Proofs.YtgmnemndjjmgkaaGreat
open Go.RowKit Go.Lib Go.Sort
set_option maxRecDepth 10000
set_option maxHeartbeats 1000000
instance : Inhabited Lv := ⟨Lv.z⟩
def Tryz.laysSortL_ren : Go.Shelf.Ren := ⟨fun | 6 => 98 | 15 => 146 | 14 => 145 | 28 => 190 | 29 => 191 | 20 => 182 | 21 => 183 | 22 => 184 | 23 => 185 | 24 => 186 | 25 => 187 | 26 => 188 | 27 => 189 | 46 => 208 | 47 => 209 | 48 => 210 | 49 => 211 | 50 => 212 | 57 => 225 | n => n, fun | 22 => 37 | 24 => 45 | 25 => 153 | 3 => 3 | 39 => 207 | 0 => 0 | 53 => 256 | 55 => 26 | 4 => 4 | 46 => 250 | 45 => 249 | 50 => 96 | 5 => 5 | 9 => 9 | 66 => 263 | 70 => 266 | 76 => 276 | 77 => 277 | n => n, fun | n => n⟩
theorem Tryz.laysSortL : Go.Proofs.SlLaysF0.n6 Tryz.prog Tryz.laysSortL_ren := {
  mixed := by kernel_rfl
  f6 := ⟨Tryz.f98.name, by decide, Tryz.func98.trans (congrArg some (by kernel_rfl))⟩
  f14 := ⟨Tryz.f145.name, by decide, Tryz.func145.trans (congrArg some (by kernel_rfl))⟩
  f15 := Tryz.func146.trans (congrArg some (by kernel_rfl))
  f20 := ⟨Tryz.f182.name, by decide, Tryz.func182.trans (congrArg some (by kernel_rfl))⟩
  f21 := ⟨Tryz.f183.name, by decide, Tryz.func183.trans (congrArg some (by kernel_rfl))⟩
  f22 := ⟨Tryz.f184.name, by decide, Tryz.func184.trans (congrArg some (by kernel_rfl))⟩
  f23 := ⟨Tryz.f185.name, by decide, Tryz.func185.trans (congrArg some (by kernel_rfl))⟩
  f24 := ⟨Tryz.f186.name, by decide, Tryz.func186.trans (congrArg some (by kernel_rfl))⟩
  f25 := ⟨Tryz.f187.name, by decide, Tryz.func187.trans (congrArg some (by kernel_rfl))⟩
  f26 := ⟨Tryz.f188.name, by decide, Tryz.func188.trans (congrArg some (by kernel_rfl))⟩
  f27 := ⟨Tryz.f189.name, by decide, Tryz.func189.trans (congrArg some (by kernel_rfl))⟩
  f28 := Tryz.func190.trans (congrArg some (by kernel_rfl))
  f29 := Tryz.func191.trans (congrArg some (by kernel_rfl))
  f46 := ⟨Tryz.f208.name, by decide, Tryz.func208.trans (congrArg some (by kernel_rfl))⟩
  f47 := Tryz.func209.trans (congrArg some (by kernel_rfl))
  f48 := Tryz.func210.trans (congrArg some (by kernel_rfl))
  f49 := ⟨Tryz.f211.name, by decide, Tryz.func211.trans (congrArg some (by kernel_rfl))⟩
  f50 := ⟨Tryz.f212.name, by decide, Tryz.func212.trans (congrArg some (by kernel_rfl))⟩
  f57 := ⟨Tryz.f225.name, by decide, Tryz.func225.trans (congrArg some (by kernel_rfl))⟩
  t0 := Tryz.underlying0
  a0 := Tryz.isAgg0
  z0 := Tryz.sizeOf0
  v0 := Tryz.zeroValue0
  t3 := Tryz.underlying3
  a3 := Tryz.isAgg3
  z3 := Tryz.sizeOf3
  v3 := Tryz.zeroValue3
  t4 := Tryz.underlying4
  a4 := Tryz.isAgg4
  z4 := Tryz.sizeOf4
  v4 := Tryz.zeroValue4
  t5 := Tryz.underlying5
  a5 := Tryz.isAgg5
  z5 := Tryz.sizeOf5
  v5 := Tryz.zeroValue5
  t9 := Tryz.underlying9
  a9 := Tryz.isAgg9
  z9 := Tryz.sizeOf9
  v9 := Tryz.zeroValue9
  t22 := Tryz.underlying37
  a22 := Tryz.isAgg37
  z22 := Tryz.sizeOf37
  v22 := Tryz.zeroValue37
  t25 := Tryz.underlying153
  a25 := Tryz.isAgg153
  z25 := Tryz.sizeOf153
  v25 := Tryz.zeroValue153
  t39 := Tryz.underlying207
  a39 := Tryz.isAgg207
  z39 := Tryz.sizeOf207
  v39 := Tryz.zeroValue207
  t45 := Tryz.underlying249
  a45 := Tryz.isAgg249
  z45 := Tryz.sizeOf249
  v45 := Tryz.zeroValue249
  t46 := Tryz.underlying250
  a46 := Tryz.isAgg250
  z46 := Tryz.sizeOf250
  v46 := Tryz.zeroValue250
  t50 := Tryz.underlying96
  a50 := Tryz.isAgg96
  z50 := Tryz.sizeOf96
  v50 := Tryz.zeroValue96
  t53 := Tryz.underlying256
  a53 := Tryz.isAgg256
  z53 := Tryz.sizeOf256
  v53 := Tryz.zeroValue256
  t55 := Tryz.underlying26
  a55 := Tryz.isAgg26
  z55 := Tryz.sizeOf26
  v55 := Tryz.zeroValue26
  t66 := Tryz.underlying263
  a66 := Tryz.isAgg263
  z66 := Tryz.sizeOf263
  v66 := Tryz.zeroValue263
  t70 := Tryz.underlying266
  a70 := Tryz.isAgg266
  z70 := Tryz.sizeOf266
  v70 := Tryz.zeroValue266
  t76 := Tryz.underlying276
  a76 := Tryz.isAgg276
  z76 := Tryz.sizeOf276
  v76 := Tryz.zeroValue276
  t77 := Tryz.underlying277
  a77 := Tryz.isAgg277
  z77 := Tryz.sizeOf277
  v77 := Tryz.zeroValue277 }
def seqLv (a b : Lv) : Int := if a.seq < b.seq then -1 else if b.seq < a.seq then 1 else 0
theorem seq_lt (a b : Lv) : ltOf seqLv a b = decide (a.seq < b.seq) := by
 unfold ltOf seqLv
 by_cases h1 : a.seq < b.seq
 · simp [h1]
 · by_cases h2 : b.seq < a.seq <;> simp [h1, h2]
theorem seq_swo : SWO (ltOf seqLv) where
  irrefl x := by rw [seq_lt]; simp
  trans x y z h1 h2 := by rw [seq_lt] at *; simp at *; omega
  ntrans x y z h1 h2 := by rw [seq_lt] at *; simp at *; omega
theorem flat_row (l : List Lv) : (flatK lvC 7 l.toArray).toList = rowV l := by
 refine List.ext_getElem? fun t => ?_
 by_cases ht : t < l.length * 7
 {
 have h7 : t / 7 < l.length := by omega
 have hm : t % 7 < 7 := Nat.mod_lt _ (by omega)
 have h1 := rowV_at h7 (t % 7) hm
 rw [show t / 7 * 7 + t % 7 = t by omega] at h1
 rw [h1, Array.getElem?_toList]
 have hc : t % 7 < (lvC l[t / 7]).length := by simp [lvC]; omega
 rw [List.getElem?_eq_getElem hc]
 simp only [flatK, List.size_toArray, Array.getElem?_map]
 rw [Array.getElem?_eq_getElem (by simpa using ht)]
 simp only [Array.getElem_range, Option.map_some]
 rw [getElem!_pos l.toArray (t / 7) (by simpa using h7)]
 simp only [List.getElem_toArray]
 rw [getElem!_pos (lvC (l[t / 7])) (t % 7) hc]
 }
 · rw [List.getElem?_eq_none (by simp; omega), List.getElem?_eq_none (by rw [rowV_len]; omega)]
theorem perm_sorted_eq : ∀ {L l : List Lv}, l.Perm L → L.Pairwise (fun a b => a.seq < b.seq) → l.Pairwise (fun a b => a.seq ≤ b.seq) → l = L
  | [], l, hp, _, _ => List.Perm.eq_nil hp
  | a :: r, [], hp, _, _ => by have := hp.length_eq; simp at this
  | a :: r, b :: t, hp, hL, hl => by
    rw [List.pairwise_cons] at hL hl
    have hb : b ∈ a :: r := hp.subset (List.mem_cons_self ..)
    have ha : a ∈ b :: t := hp.symm.subset (List.mem_cons_self ..)
    have e : b = a := by
      rcases List.mem_cons.1 hb with e | hb
      · exact e
      · rcases List.mem_cons.1 ha with e | ha
        · exact e.symm
        · have h1 := hL.1 b hb
          have h2 := hl.1 a ha
          omega
    subst e
    rw [perm_sorted_eq (List.Perm.cons_inv hp) hL.2 hl.2]
theorem isnan_u (x : Int) (w : World) : Calls Tryz.prog 147 #[.int .u64 x] w fun e w' => e = .returned (.bool false) ∧ w' = w := by
 go_enter Tryz.func147, Tryz.ntmps147
 go_wp2
 go_ret
 exact ⟨by simp, rfl⟩
theorem compare_u (x y : Nat) (w : World) : Calls Tryz.prog 100 #[.int .u64 x, .int .u64 y] w fun e w' => e = .returned (.int .i64 (if x < y then -1 else if y < x then 1 else 0)) ∧ w' = w := by
 go_enter Tryz.func100, Tryz.ntmps100
 by_cases h1 : x < y
 {
 have d1 : decide ((x : Int) < (y : Int)) = true := decide_eq_true (by omega)
 go_wp2_with (go_at_call 147; refine (isnan_u _ _).mono ?_; rintro e w' ⟨rfl, rfl⟩)
 go_ret
 exact ⟨by simp [h1], rfl⟩
 }
 {
 have d1 : decide ((x : Int) < (y : Int)) = false := decide_eq_false (by omega)
 by_cases h2 : y < x
 {
 have d2 : decide ((y : Int) < (x : Int)) = true := decide_eq_true (by omega)
 go_wp2_with (go_at_call 147; refine (isnan_u _ _).mono ?_; rintro e w' ⟨rfl, rfl⟩)
 go_ret
 exact ⟨by simp [h1], rfl⟩
 }
 {
 have d2 : decide ((y : Int) < (x : Int)) = false := decide_eq_false (by omega)
 go_wp2_with (go_at_call 147; refine (isnan_u _ _).mono ?_; rintro e w' ⟨rfl, rfl⟩)
 go_ret
 exact ⟨by simp [h1], rfl⟩
 }
 }
theorem seq_closure (a b : Lv) (w : World) : Calls Tryz.prog 99 #[lvA a, lvA b] w fun e w' => e = .returned (.int .i64 (seqLv a b)) ∧ ∃ q os', w' = grow (w.drewN q) os' := by
 have hcon := fun W => compare_u a.seq b.seq W
 have hr : seqLv a b = if a.seq < b.seq then -1 else if b.seq < a.seq then 1 else 0 := rfl
 rw [← hr] at hcon
 generalize seqLv a b = r at *
 have HC := Lib.hid hcon
 clear hr hcon
 go_enter Tryz.func99, Tryz.ntmps99
 go_wp2_with (go_at_call 100; refine (HC.out _).mono ?_; rintro e w' ⟨rfl, rfl⟩)
 go_ret
 exact ⟨rfl, 0, _, by rw [alloc_eq_grow, alloc_eq_grow, grow_grow]; rfl⟩
theorem seq_lays (blk off size : Nat) (w : World) : CmpLays Tryz.prog 99 #[] lvC 7 seqLv blk off size w :=
  fun _ _ _ _ x y => seq_closure x y _
theorem insC_nil (fv : Value) (w : World) : Calls Tryz.prog 182 #[.slice none 0 0, .int .i64 0, .int .i64 0, fv] w fun e w' => e = .returned (.tuple #[]) ∧ w' = w := by
 go_enter Tryz.func182, Tryz.ntmps182
 go_wp2
 refine wp_loop_rounds 1 ?_
 rw [rounds_succ]
 go_wp2
 go_end0
 exact ⟨rfl, rfl⟩
theorem pdqC_nil (k : Int) (fv : Value) (w : World) : Calls Tryz.prog 145 #[.slice none 0 0, .int .i64 0, .int .i64 0, .int .i64 k, fv] w fun e w' => e = .returned (.tuple #[]) ∧ w' = w := by
 go_enter Tryz.func145, Tryz.ntmps145
 go_wp2
 refine wp_loop_rounds 1 ?_
 rw [rounds_succ]
 go_wp2_with (first | (go_at_call 182; refine (insC_nil _ _).mono ?_; rintro e w' ⟨rfl, rfl⟩))
 refine bodyPost_ret (v := .tuple #[]) (results_none rfl _ _ _) rfl ?_
 exact ⟨rfl, rfl⟩
theorem sortC_nil (fv : Value) (w : World) : Calls Tryz.prog 98 #[.slice none 0 0, fv] w fun e w' => e = .returned (.tuple #[]) ∧ w' = w := by
 have h := Any.bits_Len Tryz.laysLen 0 w (by omega) (by omega)
 have HL := Lib.hid h
 clear h
 go_enter Tryz.func98, Tryz.ntmps98
 go_wp2_with fail
 refine HL.out.mono ?_
 rintro _ _ ⟨rfl, rfl⟩
 go_wp2_with fail
 refine (pdqC_nil _ _ _).mono ?_
 rintro _ w1 ⟨rfl, rfl⟩
 go_wp2
 go_end0
 exact ⟨rfl, rfl⟩
theorem sort_live {w : World} {v : Value} {l L : List Lv} (h : RowV w v l) (hn : l.length ≤ 16384) (hp : l.Perm L) (hs : L.Pairwise fun a b => a.seq < b.seq) :
    Calls Tryz.prog 98 #[v, .func (.func 99) #[] #[]] w fun e w' => e = .returned (.tuple #[]) ∧ RowV w' v L ∧ Fr v.ownBlock.toList w w' := by
 have hl := h.1
 rcases h.2 with ⟨rfl, h0⟩ | ⟨g, cap, cur, rfl, hg, hcur, hnc, hcm, hcs, htk⟩
 {
 have : l = [] := List.length_eq_zero_iff.1 (by simpa using h0)
 subst this
 have hL : L = [] := List.Perm.eq_nil hp.symm
 subst hL
 refine (sortC_nil _ w).mono ?_
 rintro _ w' ⟨rfl, rfl⟩
 exact ⟨rfl, h, Fr.refl _ _⟩
 }
 {
 have eg : ∀ args w, (callFunc 99 args).run Tryz.prog w = .ok (.enter 99 args) w := enters_of Tryz.func99 (by kernel_rfl) rfl
 have hH : HoldsK lvC 7 w g 0 l.toArray := by {
 intro j hj
 have hj' : j < l.length * 7 := by simpa using hj
 refine ⟨?_, by simp [World.frozen?, hcur]⟩
 have h1 : (cur.toList.take (l.length * 7))[j]? = (rowV l)[j]? := by rw [htk]
 rw [List.getElem?_take_of_lt hj'] at h1
 simp only [World.cell?, hcur, Nat.zero_add]
 simp only [Option.isSome_none, Bool.false_eq_true, if_false]
 rw [← Array.getElem?_toList, h1, ← flat_row, Array.getElem?_toList, getElem!_pos _ j hj, Array.getElem?_eq_getElem hj]
 rfl
 }
 have hcon := AnyQ.slices_SortFunc Tryz.laysSortL 7 Tryz.isAgg45 Tryz.sizeOf45 lvC (fun _ => rfl) (fun x u hu => by simp [lvC] at hu; rcases hu with rfl | rfl | rfl | rfl | rfl | rfl | rfl <;> rfl) seqLv seq_swo 99 #[] g 0 cap l.toArray w eg (seq_lays g 0 l.toArray.size w) hH (Array.getElem?_eq_some_iff.1 hcur).1 (by simp; omega)
 rw [List.size_toArray] at hcon
 refine hcon.mono ?_
 rintro _ w' ⟨rfl, d', m, os, hperm, hsort, rfl⟩
 obtain ⟨hsz, _, hpp⟩ := hperm
 simp only [List.size_toArray] at hsz
 have e1 : d'.extract 0 l.length = d' := by rw [← hsz]; simp
 have e2 : l.toArray.extract 0 l.length = l.toArray := by simp
 rw [e1, e2] at hpp
 have hd : d'.toList = L := by {
 refine perm_sorted_eq (hpp.trans hp) hs ?_
 rw [List.pairwise_iff_getElem]
 intro i j hi hj hij
 have hi' : i < d'.size := by simpa using hi
 have hj' : j < d'.size := by simpa using hj
 have := hsort i j (Nat.zero_le _) hij (by omega)
 rw [seq_lt, getElem!_pos d' i hi', getElem!_pos d' j hj'] at this
 simp only [decide_eq_false_iff_not] at this
 simp only [Array.getElem_toList]
 omega
 }
 have hda : d' = L.toArray := by rw [← hd]
 subst hda
 have hLl : L.length = l.length := by simpa using hsz
 have hb : (sortWorldK lvC 7 w g 0 m L.toArray os).heap[g]? = some (.cells (putCells id 0 (flatK lvC 7 L.toArray) cur) 45 (0, 0)) := by {
 unfold sortWorldK putRowK
 rw [heap_grow_old _ _ (by simpa using (Array.getElem?_eq_some_iff.1 hcur).1)]
 simp [putRow, mapBlock, Sort.ahead, Array.getElem?_modify, hcur, onCells]
 }
 refine ⟨rfl, ⟨by rw [rowV_len], .inr ⟨g, cap, _, by rw [hLl], Nat.zero_le _, hb, by omega, hcm, by simp [putCells, hcs], ?_⟩⟩, ?_⟩
 {
 rw [← flat_row]
 refine List.ext_getElem? fun j => ?_
 by_cases hj : j < L.length * 7
 {
 rw [List.getElem?_take_of_lt hj, Array.getElem?_toList, Array.getElem?_toList]
 have hjc : j < cur.size := by rw [hcs]; omega
 have hjf : j < (flatK lvC 7 L.toArray).size := by simpa using hj
 simp only [putCells, Array.getElem?_mapIdx, Array.getElem?_eq_getElem hjc, Option.map_some, Nat.zero_le, true_and, Nat.zero_add, if_pos hjf, Nat.sub_zero]
 rw [getElem!_pos _ j hjf, Array.getElem?_eq_getElem hjf]
 rfl
 }
 · rw [List.getElem?_take_eq_none (by omega), List.getElem?_eq_none (by simp; omega)]
 }
 {
 refine (Fr.refl _ _).grown (row := some g) ⟨rfl, rfl, rfl, by simp [sortWorldK, putRowK], fun k hk hne => ?_⟩ (fun k e => .inl (by simp at e; simp [e, Value.ownBlock]))
 unfold sortWorldK putRowK
 rw [heap_grow_old _ _ (by simpa using hk)]
 have : g ≠ k := fun e => hne (by rw [e])
 simp [putRow, mapBlock, Sort.ahead, Array.getElem?_modify, this]
 }
 }
end Go.Proofs.YtgmnemndjjmgkaaGreat
namespace Go.Proofs.YtgmnemndjjmgkaaGreat
open Go.RowKit
set_option maxRecDepth 10000
set_option maxHeartbeats 1000000
theorem used_perm {s : Sm} (h : s.Ok) : ((usedL s.A).map (liveAt s.L)).Perm s.L := by
 have h1 : (usedL s.A).Perm (s.L.map (·.slot)) := (List.perm_ext_iff_of_nodup (nodup_usedL s.A) h.one).2 fun i => by rw [mem_usedL, h.used]; simp
 have h2 := h1.map (liveAt s.L)
 rw [List.map_map] at h2
 have h3 : s.L.map (liveAt s.L ∘ fun e => e.slot) = s.L := by {
 conv => rhs; rw [← List.map_id s.L]
 exact List.map_congr_left fun e he => liveAt_mem h.one he
 }
 rw [h3] at h2
 exact h2
section
variable {w w' : World} {ps : Nat} {s : Sm} {K : List Nat}
theorem st_list (h : StoreAt w ps s K) : Calls Tryz.prog 50 #[sptr ps] w fun e w' => ∃ v, e = .returned v ∧ RowV w' v s.L ∧ (∀ q, v.ownBlock = some q → w.heap.size ≤ q) ∧ Fr [] w w' := by
 have HV := Lib.hid (st_valid h)
 obtain ⟨pa, pt, mb, n, vl, la, lT, lb, c, hB, rfl, c0, c1, c2, c3, c4, c5, c6⟩ := h.open
 have HL := Lib.hid (arena_list hB.ar)
 have HB := Lib.hid hB
 have HLT := Lib.hid hB.lt
 clear h hB c0 c1 c2 c4 c6
 go_enter Tryz.func50, Tryz.ntmps50
 go_wp2_with fail
 refine HV.out.mono ?_
 rintro _ w ⟨rfl, rfl⟩
 go_wp2_with fail
 refine HL.out.mono ?_
 rintro _ w1 ⟨v, rfl, hown, hnew, hF1⟩
 have hrow : RowI w1 v (usedL s.A) := hown
 obtain ⟨av, cv, rfl⟩ := hrow.slice
 obtain ⟨U, hU⟩ : ∃ U, U = usedL s.A := ⟨_, rfl⟩
 have hUu : ∀ i ∈ U, liveAt s.L i ∈ s.L ∧ (liveAt s.L i).slot = i := fun i hi => by
   rw [hU, mem_usedL] at hi
   exact Sm.live_used HB.out.ok hi
 have hperm := used_perm HB.out.ok
 have hUl : U.length ≤ 16384 := by {
 rw [hU, usedL_len HB.out.ok.ar]
 have h2 := HB.out.ok.ar.hb; have h3 := HB.out.ok.sl; have h4 := HB.out.ok.leE
 unfold Ar.used
 omega
 }
 rw [← hU] at hown hrow hperm hnew ⊢
 clear hU hown HL HV
 have HU := Lib.hid (And.intro hUu (And.intro hperm hUl)); clear hUu hperm
 have HR := Lib.hid (And.intro hrow (And.intro hnew hF1)); clear hrow hnew hF1
 go_wp2_with fail
 go_loopw [3, 15] (fun x y wr => ∃ (k : Nat) (v' : Value), k ≤ U.length ∧ y = .int .i64 k ∧ x = v' ∧ Hid (RowV wr v' ((U.take k).map (liveAt s.L)) ∧ (∀ q, v'.ownBlock = some q → w1.heap.size ≤ q) ∧ Fr [] w1 wr)) (fun _ y _ => U.length - (intOf y).toNat)
 case atStart => exact ⟨0, _, Nat.zero_le _, rfl, rfl, Lib.hid ⟨RowV.nil _, fun q e => (by cases e), Fr.refl _ _⟩⟩
 case round =>
  obtain ⟨k, v', hk, rfl, rfl, HS⟩ := hrel
  rename World => wr
  by_cases hlt : k < U.length
  {
  have hki : (k : Int) < U.length := by omega
  obtain ⟨bI, cI, eI, hbI, hcI⟩ := (HR.out.1.fr0 HS.out.2.2).at hlt
  simp only [Value.slice.injEq, true_and] at eI
  obtain ⟨rfl, rfl⟩ := eI
  obtain ⟨x, hx⟩ : ∃ x, x = U[k] := ⟨_, rfl⟩
  obtain ⟨hm, hs⟩ := HU.out.1 x (by rw [hx]; exact List.getElem_mem hlt)
  have hxn : x < n := by have := HB.out.sn _ hm; omega
  have hxi : (x : Int) < n := by omega
  have hF : Fr [] w wr := HR.out.2.2.trans' HS.out.2.2
  obtain ⟨b, cap, ev, _, hb, hz, hat⟩ := (HB.out.lv.fr0 hF).at (i := x) (by simp; omega)
  simp only [List.length_map, List.length_range] at ev
  have k5 := hF.cell c5 (by simp)
  rw [ev] at k5
  simp only [List.getElem_map, List.getElem_range] at hat
  rw [← hx] at hcI
  obtain ⟨e, he⟩ : ∃ e, e = liveAt s.L x := ⟨_, rfl⟩
  rw [← he] at hat
  have HE := Lib.hid (And.intro he hx); clear he hx hm hs hz
  obtain ⟨e0, e1, e2, e3, e4, e5, e6⟩ := hat
  obtain ⟨ar, cr, er⟩ := HS.out.1.slice
  have hlk : ((U.take k).map (liveAt s.L)).length = k := by simp; omega
  rw [hlk] at er
  subst er
  have hrow : (wr.alloc (.cells (lvC e).toArray 45)).ownsRow 0 45 7 (.slice ar k cr) k (rowV ((U.take k).map (liveAt s.L))) := by {
  have := HS.out.1.fr0 ((Fr.refl [] wr).alloc (.cells (lvC e).toArray 45))
  unfold RowV at this
  rw [hlk] at this
  exact this
  }
  have HRW := Lib.hid hrow; clear hrow
  have HZ := Lib.hid (Blk.new wr (lvC e) 45)
  have H7 := Lib.hid (show ∀ u ∈ lvC e, u.oneCell' = true from fun u hu => by simp [lvC] at hu; rcases hu with rfl | rfl | rfl | rfl | rfl | rfl | rfl <;> rfl)
  have hUl2 := HU.out.2.2
  go_wp2_with (first | (at_builtin; refine wpList_appK rfl _ _ 37 rfl 45 lvZero 7 56 Tryz.underlying37 Tryz.info45 rfl (by decide) (.slice ar k cr) k _ rfl HRW.out wr.heap.size 45 (lvC e) rfl HZ.out rfl H7.out (by omega) (by decide) ?_; intro g' cap' w6 hown6 hgrow6 hg6; have hF6 : Fr (Value.slice ar k cr).ownBlock.toList (wr.alloc (.cells (lvC e).toArray 45)) w6 := (Fr.refl _ _).grown hgrow6 (fun q e => .inl (by simp [e]))) | fail)
  go_roundw
  case rel =>
   have hs6 := hF6.size
   have hown7 : RowV w6 (.slice (some ⟨g', 0, none⟩) (k + 1) cap') ((U.take (k + 1)).map (liveAt s.L)) := by {
   rw [List.take_add_one, List.getElem?_eq_getElem hlt, Option.toList_some, List.map_append, List.map_cons, List.map_nil, ← HE.out.2, ← HE.out.1]
   unfold RowV
   rw [rowV_snoc, List.length_append, hlk]
   exact hown6
   }
   refine ⟨k + 1, _, by omega, by go_num, rfl, Lib.hid ⟨hown7, ?_, ?_⟩⟩
   {
   intro q hq
   simp only [Value.ownBlock, Option.some.injEq] at hq
   subst hq
   rcases hg6 with h6 | h6
   · exact HS.out.2.1 _ h6
   {
   have := HS.out.2.2.size
   simp only [World.size_alloc] at h6; omega
   }
   }
   · exact (HS.out.2.2.alloc _).trans hF6 (fun q hq => .inr (HS.out.2.1 q (by simpa using hq)))
  case measure => simp [intOf]; omega
  }
  {
  obtain rfl : k = U.length := by omega
  have hrow := HS.out.1
  rw [List.take_length] at hrow
  have HSO := Lib.hid (sort_live hrow (by rw [List.length_map]; exact HU.out.2.2) HU.out.2.1 HB.out.ok.seq)
  clear hrow
  go_wp2_with fail
  refine HSO.out.mono ?_
  rintro _ w9 ⟨rfl, hr9, hF9⟩
  have HR9 := Lib.hid (And.intro hr9 hF9); clear hr9 hF9
  go_wp2
  go_ret
  have hs1 := HR.out.2.2.size
  refine ⟨_, rfl, HR9.out.1, fun q hq => Nat.le_trans hs1 (HS.out.2.1 q hq), ?_⟩
  exact (HR.out.2.2.trans' HS.out.2.2).trans HR9.out.2 (fun q hq => .inr (Nat.le_trans hs1 (HS.out.2.1 q (by simpa using hq))))
  }
end
set_option maxHeartbeats 800000
abbrev wptr (p : Nat) : Value := .pointer (some ⟨p, 0, none⟩)
section
variable {w w' : World} {pw pc ps px pf : Nat} {P : Wp} {Ks lx Lf : List Nat} {cl : Nat → Nat}
theorem wvalid_w (h : WinB w pw pc ps px pf P Ks lx Lf cl) : Calls Tryz.prog 41 #[wptr pw] w fun e w' => e = .returned (.bool true) ∧ w' = w := by
 have c4 := h.hd.cell 4
 simp only [List.getElem?_cons_zero, List.getElem?_cons_succ] at c4
 clear h
 go_enter Tryz.func41, Tryz.ntmps41
 go_wp2
 go_ret
 exact ⟨rfl, rfl⟩
theorem wnow_w (h : WinB w pw pc ps px pf P Ks lx Lf cl) : Calls Tryz.prog 16 #[wptr pw] w fun e w' => e = .returned (.int .i64 P.now) ∧ w' = w := by
 have HV := Lib.hid (wvalid_w h)
 have HN := Lib.hid (cnow_w h.clk)
 have c4 := h.hd.cell 4
 simp only [List.getElem?_cons_zero, List.getElem?_cons_succ] at c4
 clear h
 go_enter Tryz.func16, Tryz.ntmps16
 go_wp2_with fail
 refine HV.out.mono ?_
 rintro _ w ⟨rfl, rfl⟩
 go_wp2_with fail
 refine HN.out.mono ?_
 rintro _ w ⟨rfl, rfl⟩
 go_wp2
 go_ret
 exact ⟨rfl, rfl⟩
theorem wlive_w (h : WinB w pw pc ps px pf P Ks lx Lf cl) : Calls Tryz.prog 19 #[wptr pw] w fun e w' => ∃ v, e = .returned v ∧ RowV w' v P.s.L ∧ (∀ q, v.ownBlock = some q → w.heap.size ≤ q) ∧ Fr [] w w' := by
 have HV := Lib.hid (wvalid_w h)
 have HL := Lib.hid (st_list h.st)
 have c5 := h.hd.cell 5
 simp only [List.getElem?_cons_zero, List.getElem?_cons_succ] at c5
 clear h
 go_enter Tryz.func19, Tryz.ntmps19
 go_wp2_with fail
 refine HV.out.mono ?_
 rintro _ w ⟨rfl, rfl⟩
 go_wp2_with fail
 refine HL.out.mono ?_
 rintro _ w1 ⟨v, rfl, h1⟩
 have H1 := Lib.hid h1; clear h1
 go_wp2
 go_ret
 exact ⟨v, rfl, H1.out⟩
theorem wids_w (h : WinB w pw pc ps px pf P Ks lx Lf cl) : Calls Tryz.prog 24 #[wptr pw] w fun e w' => ∃ v, e = .returned v ∧ RowU w' v P.s.ids ∧ (∀ q, v.ownBlock = some q → w.heap.size ≤ q) ∧ Fr [] w w' := by
 have HV := Lib.hid (wvalid_w h)
 have HL := Lib.hid (st_ids h.st)
 have c5 := h.hd.cell 5
 simp only [List.getElem?_cons_zero, List.getElem?_cons_succ] at c5
 clear h
 go_enter Tryz.func24, Tryz.ntmps24
 go_wp2_with fail
 refine HV.out.mono ?_
 rintro _ w ⟨rfl, rfl⟩
 go_wp2_with fail
 refine HL.out.mono ?_
 rintro _ w1 ⟨v, rfl, h1⟩
 have H1 := Lib.hid h1; clear h1
 go_wp2
 go_ret
 exact ⟨v, rfl, H1.out⟩
def endsC (s : Sm) (u v : Nat) : Int := if (s.M.find u).isSome = true ∧ (s.M.find v).isSome = true then 0 else 13
def endsI (s : Sm) (u v : Nat) : Nat := if (s.M.find u).isSome = true ∧ (s.M.find v).isSome = true then (s.M.find u).getD 0 else 0
theorem wends_w (h : WinB w pw pc ps px pf P Ks lx Lf cl) (u v : Nat) (hu : u < 18446744073709551616) (hv : v < 18446744073709551616) :
    Calls Tryz.prog 38 #[wptr pw, .int .u64 u, .int .u64 v] w fun e w' => e = .returned (.tuple #[.int .i64 (endsI P.s u v), .int .i64 (endsI P.s v u), .int .i64 (endsC P.s u v)]) ∧ Fr [] w w' := by
 have HV := Lib.hid (wvalid_w h)
 have HU := Lib.hid (st_index h.st u hu)
 have HW := Lib.hid (fun (w' : World) (hf : Fr [] w w') => st_index (h.st.fr0 hf) v hv)
 have c5 := h.hd.cell 5
 simp only [List.getElem?_cons_zero, List.getElem?_cons_succ] at c5
 clear h
 unfold endsI endsC
 generalize hi : (P.s.M.find u).isSome = iu at *
 generalize hj : (P.s.M.find v).isSome = iv at *
 generalize (P.s.M.find u).getD 0 = a at *
 generalize (P.s.M.find v).getD 0 = b at *
 clear hi hj
 go_enter Tryz.func38, Tryz.ntmps38
 go_wp2_with fail
 refine HV.out.mono ?_
 rintro _ w ⟨rfl, rfl⟩
 go_wp2_with fail
 refine HU.out.mono ?_
 rintro _ w1 ⟨rfl, hF1⟩
 have c5 := hF1.cell c5 (by simp)
 have HW1 := Lib.hid (HW.out w1 hF1)
 have HF1 := Lib.hid hF1; clear hF1 HW HU HV
 go_wp2_with fail
 refine HW1.out.mono ?_
 rintro _ w2 ⟨rfl, hF2⟩
 have HF2 := Lib.hid (HF1.out.trans' hF2); clear hF2 HF1 HW1 c5
 cases iu <;> cases iv
 all_goals
  go_wp2
  go_ret3
  exact ⟨rfl, HF2.out⟩
end
section
variable {w w' : World} {pf S V : Nat} {G : EMap} {L : List Nat}
theorem FAt.fo (h : FAt w pf S V G L) : FO { w with heap := #[] } w pf S V G L :=
  ⟨h, ⟨rfl, rfl, rfl, Nat.zero_le _, fun b hb => absurd hb (Nat.not_lt_zero _)⟩, fun q _ => Nat.zero_le _⟩
def FMv (w w' : World) (pf S V : Nat) (G : EMap) (L : List Nat) : Prop := ∃ L', FAt w' pf S V G L' ∧ Fr L w w' ∧ ∀ q ∈ L', q ∈ L ∨ w.heap.size ≤ q
theorem FM.mv {w0 : World} {G' : EMap} (h : FM w0 w w' pf S V G' L) : FMv w w' pf S V G' L := by
 obtain ⟨L', h1, h2, h3⟩ := h; exact ⟨L', h1.f, h2, h3⟩
theorem fa_add (h : FAt w pf S V G L) (s a b x : Int) (hx : -9223372036854775808 ≤ x ∧ x ≤ 9223372036854775807) :
    Calls Tryz.prog 114 #[fptr pf, .int .i64 s, .int .i64 a, .int .i64 b, .int .i64 x] w fun e w' => e = .returned (.int .i64 (addCode S V G s a b)) ∧ FMv w w' pf S V (addG S V G s a b x) L :=
  (fo_add h.fo s a b x hx).mono fun _ _ h => ⟨h.1, h.2.mv⟩
theorem fa_exp (h : FAt w pf S V G L) : Calls Tryz.prog 45 #[fptr pf] w fun e w' => e = .returned (.tuple #[.int .i64 ((fstG G).getD 0 : Nat), .bool (fstG G).isSome]) ∧ FMv w w' pf S V (popG G) L :=
  (fo_exp h.fo).mono fun _ _ h => ⟨h.1, h.2.mv⟩
theorem fa_size (h : FAt w pf S V G L) (a : Int) : Calls Tryz.prog 59 #[fptr pf, .int .i64 a] w fun e w' => e = .returned (.int .i64 (sizeG V G a)) ∧ FMv w w' pf S V G L :=
  (fo_size h.fo a).mono fun _ _ h => ⟨h.1, h.2.mv⟩
theorem fa_until (h : FAt w pf S V G L) (a b : Int) : Calls Tryz.prog 39 #[fptr pf, .int .i64 a, .int .i64 b] w fun e w' => e = .returned (.tuple #[.int .i64 (untilV V G a b), .bool (untilB V G a b)]) ∧ FMv w w' pf S V G L :=
  (fo_until h.fo a b).mono fun _ _ h => ⟨h.1, h.2.mv⟩
theorem fa_count (h : FAt w pf S V G L) : Calls Tryz.prog 49 #[fptr pf] w fun e w' => e = .returned (.int .i64 (compG V G)) ∧ Fr [] w w' :=
  (fo_count h.fo).mono fun _ _ h => ⟨h.1, h.2.2⟩
end
def WMv (w w' : World) (pw pc ps px pf : Nat) (P : Wp) (Ks lx Lf : List Nat) : Prop := ∃ Lf' cl', WinB w' pw pc ps px pf P Ks lx Lf' cl' ∧ Fr Lf w w' ∧ ∀ q ∈ Lf', q ∈ Lf ∨ w.heap.size ≤ q
section
variable {w w' : World} {pw pc ps px pf : Nat} {P : Wp} {Ks lx Lf : List Nat} {cl : Nat → Nat}
theorem WinB.mv (h : WinB w pw pc ps px pf P Ks lx Lf cl) {w1 : World} (hF : Fr [] w w1) (hm : FMv w1 w' pf P.E P.V P.G Lf) : WMv w w' pw pc ps px pf P Ks lx Lf := by
 obtain ⟨L', h1, h2, h3⟩ := hm
 have hs := hF.size
 obtain ⟨cl', h4⟩ := (h.fr0 hF).setFo h1 h2 h3
 exact ⟨L', cl', h4, (hF.mono (by simp)).trans' h2, fun q hq => (h3 q hq).imp id (fun e => by omega)⟩
theorem WinB.mv0 (h : WinB w pw pc ps px pf P Ks lx Lf cl) (hF : Fr [] w w') : WMv w w' pw pc ps px pf P Ks lx Lf := ⟨Lf, cl, h.fr0 hF, hF.mono (by simp), fun _ hq => .inl hq⟩
noncomputable def wconnB (P : Wp) (u v : Nat) : Bool := if endsC P.s u v = 0 then connG P.V P.G (endsI P.s u v) (endsI P.s v u) else false
noncomputable def wuntB (P : Wp) (u v : Nat) : Bool := if endsC P.s u v = 0 then untilB P.V P.G (endsI P.s u v) (endsI P.s v u) else false
noncomputable def wuntV (P : Wp) (u v : Nat) : Int := if endsC P.s u v = 0 then untilV P.V P.G (endsI P.s u v) (endsI P.s v u) else 0
theorem wuntil_w (h : WinB w pw pc ps px pf P Ks lx Lf cl) (u v : Nat) (hu : u < 18446744073709551616) (hv : v < 18446744073709551616) :
    Calls Tryz.prog 14 #[wptr pw, .int .u64 u, .int .u64 v] w fun e w' => e = .returned (.tuple #[.int .i64 (wuntV P u v), .bool (wuntB P u v), .int .i64 (endsC P.s u v)]) ∧ WMv w w' pw pc ps px pf P Ks lx Lf := by
 have HE := Lib.hid (wends_w h u v hu hv)
 have HB := Lib.hid h
 have HC := Lib.hid (fun (w' : World) (hf : Fr [] w w') => fa_until (h.fo.fr hf (by simp)) (endsI P.s u v) (endsI P.s v u))
 have c7 := h.hd.cell 7
 simp only [List.getElem?_cons_zero, List.getElem?_cons_succ] at c7
 clear h
 unfold wuntB wuntV
 by_cases hc : endsC P.s u v = 0
 {
 rw [if_pos hc, if_pos hc, hc]
 rw [hc] at HE
 generalize untilB P.V P.G (endsI P.s u v) (endsI P.s v u) = bb at *
 generalize untilV P.V P.G (endsI P.s u v) (endsI P.s v u) = tt at *
 generalize endsI P.s u v = a at *
 generalize endsI P.s v u = b at *
 clear hc
 go_enter Tryz.func14, Tryz.ntmps14
 go_wp2_with fail
 refine HE.out.mono ?_
 rintro _ w1 ⟨rfl, hF1⟩
 have c7 := hF1.cell c7 (by simp)
 have HC1 := Lib.hid (HC.out w1 hF1)
 have HF1 := Lib.hid hF1; clear hF1 HC HE
 go_wp2_with fail
 refine HC1.out.mono ?_
 rintro _ w2 ⟨rfl, hM⟩
 have HM := Lib.hid (HB.out.mv HF1.out hM); clear hM
 go_wp2
 go_ret3
 exact ⟨rfl, HM.out⟩
 }
 {
 rw [if_neg hc, if_neg hc]
 generalize endsC P.s u v = cc at *
 generalize endsI P.s u v = a at *
 generalize endsI P.s v u = b at *
 have d1 : (cc != 0) = true := by simp [hc]
 clear hc HC
 go_enter Tryz.func14, Tryz.ntmps14
 go_wp2_with fail
 refine HE.out.mono ?_
 rintro _ w1 ⟨rfl, hF1⟩
 have HF1 := Lib.hid hF1; clear hF1 HE
 go_wp2
 go_ret3
 exact ⟨rfl, HB.out.mv0 HF1.out⟩
 }
end
section
variable {w w' : World} {ph px slots n : Nat} {Q : Nat → Option Int} {l S : List Nat}
theorem hfind_no (h : HeapAt w ph slots Q n l) {i : Nat} (hi : i < slots) (hQ : Q i = none) :
    Calls Tryz.prog 194 #[hptr ph, .int .i64 i] w fun e w' => e = .returned (.tuple #[.int .i64 0, .int .i64 5]) ∧ w' = w := by
 obtain ⟨e, pl, v, gp, cp, bs, hm, hk, hp, hq, rfl⟩ := h
 have hpl : pl i = 0 := by {
 apply Classical.byContradiction
 intro h0
 obtain ⟨p, hpn, hpe⟩ := hk.inv i h0
 have := (hq i (e p).2).2 ⟨p, hpn, by rw [← hpe]⟩
 rw [hQ] at this; cases this
 }
 have HV := Lib.hid (hvalid_w hm)
 have HH := Lib.hid (hhas_w hm hi)
 have hP := place_w hm hi
 rw [hpl] at hP
 have HP := Lib.hid hP
 have t1 : (((0 : Nat) : Int) - 1 == -1) = true := by decide
 have t2 : ((0 : Int) - 1 == -1) = true := by decide
 clear hm hk hp hq hQ hpl hP
 go_enter Tryz.func194, Tryz.ntmps194
 go_wp2_with fail
 refine HV.out.mono ?_
 rintro _ w ⟨rfl, rfl⟩
 go_wp2_with fail
 refine HH.out.mono ?_
 rintro _ w ⟨rfl, rfl⟩
 go_wp2_with fail
 refine HP.out.mono ?_
 rintro _ w ⟨rfl, rfl⟩
 go_wp2
 go_ret2
 exact ⟨rfl, rfl⟩
theorem hkey_no (h : HeapAt w ph slots Q n l) {i : Nat} (hi : i < slots) (hQ : Q i = none) :
    Calls Tryz.prog 193 #[hptr ph, .int .i64 i] w fun e w' => e = .returned (.tuple #[.int .i64 0, .bool false]) ∧ w' = w := by
 have HF := Lib.hid (hfind_no h hi hQ)
 clear h hQ
 go_enter Tryz.func193, Tryz.ntmps193
 go_wp2_with fail
 refine HF.out.mono ?_
 rintro _ w ⟨rfl, rfl⟩
 go_wp2
 go_ret2
 exact ⟨rfl, rfl⟩
theorem xset1_w {bs bi bt : Nat} (h : SchAt w px slots Q n l) {i : Nat} (hi : i < slots) (hQ : Q i = none) (x : Int) (cs : w.cell? ⟨bs, 0, none⟩ = some (hptr px)) (ci : w.cell? ⟨bi, 0, none⟩ = some (.int .i64 i)) (ct : w.cell? ⟨bt, 0, none⟩ = some (.int .i64 x)) :
    Calls Tryz.prog 158 #[.bool false, .pointer (some ⟨bs, 0, none⟩), .pointer (some ⟨bi, 0, none⟩), .pointer (some ⟨bt, 0, none⟩)] w fun e w' => e = .returned (.int .i64 0) ∧ ∃ l', SchAt w' px slots (updQ Q i (some x)) (n + 1) l' ∧ Fr l w w' ∧ ∀ b ∈ l', b ∈ l ∨ w.heap.size ≤ b := by
 obtain ⟨ph, lh, h1, h2, h3, rfl⟩ := h
 have c1 := h1.cell 1
 simp only [List.getElem?_cons_zero, List.getElem?_cons_succ] at c1
 have HP := Lib.hid (fun (nq : Nat) => hpush_w (h2.fr ((Fr.refl [] w).drewN nq) (by simp)) hi hQ x)
 have HX := Lib.hid (And.intro h1 (And.intro h2 h3))
 clear h1 h2 h3 hQ
 go_enter Tryz.func158, Tryz.ntmps158
 go_wp2_with fail
 refine region_one 6 (fun w' => ∃ lh', HeapAt w' ph slots (updQ Q i (some x)) (n + 1) lh' ∧ Fr lh w w' ∧ ∀ b ∈ lh', b ∈ lh ∨ w.heap.size ≤ b) (by kernel_rfl) (by kernel_rfl) (by kernel_rfl) ?_
 iterate 6 (refine gWalk_pre (by decide) (fun K hK => ?_); go_simp; refine hK _ ?_; clear hK K)
 refine gWalk_write rfl (.int .i64 0) (fun w' hw' => ?_) ?_
 {
 obtain ⟨nq, rfl⟩ := hw'
 go_simp
 refine (HP.out nq).mono ?_
 rintro _ w1 ⟨rfl, lh', k1, k2, k3⟩
 exact ⟨rfl, lh', k1, ((Fr.refl lh w).drewN nq).trans' k2, fun b hb => (k3 b hb).imp id (fun e => by simpa using e)⟩
 }
 iterate 1 (refine gWalk_post (by decide) (fun K hK => ?_); go_simp; refine hK _ ?_; clear hK K)
 refine gWalk_nil ?_
 rintro w1 ⟨lh', k1, k2, k3⟩
 have HK := Lib.hid (And.intro k1 (And.intro k2 k3)); clear k1 k2 k3 cs ci ct c1
 go_wp2
 go_ret
 refine ⟨rfl, px :: lh', ⟨ph, lh', HK.out.2.1.blk HX.out.1 HX.out.2.2, HK.out.1, fun hm => ?_, rfl⟩, HK.out.2.1.mono (by simp +contextual), fun b hb => ?_⟩
 {
 rcases HK.out.2.2 _ hm with h | h
 · exact HX.out.2.2 h
 · have := HX.out.1.lt; omega
 }
 {
 rcases List.mem_cons.1 hb with rfl | hb
 · exact .inl (by simp)
 · exact (HK.out.2.2 b hb).imp (fun h => by simp [h]) id
 }
theorem xwith_w (h : SchAt w px slots Q n l) {i : Nat} (hi : i < slots) (hQ : Q i = none) {a b c : Value} {R : World → Prop} (hc : Calls Tryz.prog 158 #[.bool false, a, b, c] w fun e w' => e = .returned (.int .i64 0) ∧ R w') :
    Calls Tryz.prog 157 #[hptr px, .int .i64 i, .func (.func 158) #[] #[a, b, c]] w fun e w' => e = .returned (.int .i64 0) ∧ R w' := by
 have HV := Lib.hid (xvalid_w h)
 obtain ⟨ph, lh, h1, h2, h3, rfl⟩ := h
 have HK := Lib.hid (hkey_no h2 hi hQ)
 have HC := Lib.hid hc
 have k0 := h1.cell 0
 have k1 := h1.cell 1
 simp only [List.getElem?_cons_zero, List.getElem?_cons_succ] at k0 k1
 clear h1 h2 h3 hQ hc
 have d1 : decide ((i : Int) < 0) = false := decide_eq_false (by omega)
 have d2 : decide ((i : Int) ≥ slots) = false := decide_eq_false (by omega)
 go_enter Tryz.func157, Tryz.ntmps157
 go_wp2_with fail
 refine HV.out.mono ?_
 rintro _ w ⟨rfl, rfl⟩
 go_wp2_with fail
 refine HK.out.mono ?_
 rintro _ w ⟨rfl, rfl⟩
 go_wp2_with fail
 refine HC.out.mono ?_
 rintro _ w1 ⟨rfl, hR⟩
 have HR := Lib.hid hR; clear hR k0 k1
 go_wp2
 go_ret
 exact ⟨rfl, HR.out⟩
theorem xset_w (h : SchAt w px slots Q n l) {i : Nat} (hi : i < slots) (hQ : Q i = none) (x : Int) :
    Calls Tryz.prog 113 #[hptr px, .int .i64 i, .int .i64 x] w fun e w' => e = .returned (.int .i64 0) ∧ ∃ l', SchAt w' px slots (updQ Q i (some x)) (n + 1) l' ∧ Fr l w w' ∧ ∀ b ∈ l', b ∈ l ∨ w.heap.size ≤ b := by
 have b1 := Blk.new w [hptr px] 80
 have b2 := Blk.new (w.alloc (.cells #[hptr px] 80)) [.int .i64 i] 3
 have b3 := Blk.new ((w.alloc (.cells #[hptr px] 80)).alloc (.cells #[.int .i64 i] 3)) [.int .i64 x] 2
 have hF : Fr [] w (((w.alloc (.cells #[hptr px] 80)).alloc (.cells #[.int .i64 i] 3)).alloc (.cells #[.int .i64 x] 2)) := (((Fr.refl _ _).alloc _).alloc _).alloc _
 have hs : (((w.alloc (.cells #[hptr px] 80)).alloc (.cells #[.int .i64 i] 3)).alloc (.cells #[.int .i64 x] 2)).heap.size = w.heap.size + 3 := by simp
 have y1 := ((b1.alloc (.cells #[.int .i64 i] 3)).alloc (.cells #[.int .i64 x] 2)).cell 0
 have y2 := (b2.alloc (.cells #[.int .i64 x] 2)).cell 0
 have y3 := b3.cell 0
 simp only [List.getElem?_cons_zero, World.size_alloc] at y1 y2 y3
 have HW := Lib.hid (xwith_w (h.fr0 hF) hi hQ (xset1_w (h.fr0 hF) hi hQ x y1 y2 y3))
 have HF := Lib.hid hF
 clear b1 b2 b3 hF h hQ y2 y3
 go_enter Tryz.func113, Tryz.ntmps113
 go_wp2_with fail
 refine HW.out.mono ?_
 rintro _ w1 ⟨rfl, l', k1, k2, k3⟩
 have HK := Lib.hid (And.intro k1 (And.intro k2 k3)); clear k1 k2 k3 y1
 go_wp2
 go_ret
 exact ⟨rfl, l', HK.out.1, (HF.out.mono (by simp)).trans' HK.out.2.1, fun b hb => (HK.out.2.2 b hb).imp id (fun e => by omega)⟩
theorem xcopy_w (h : SchAt w px slots Q n l) : Calls Tryz.prog 53 #[hptr px] w fun e w' => ∃ p', e = .returned (hptr p') ∧ ∃ l', SchAt w' p' slots Q n l' ∧ Fr [] w w' ∧ ∀ b ∈ l', w.heap.size ≤ b := by
 have h0 := h
 obtain ⟨ph, lh, h1, h2, h3, rfl⟩ := h
 have c0 := h1.cell 0
 have c1 := h1.cell 1
 simp only [List.getElem?_cons_zero, List.getElem?_cons_succ] at c0 c1
 have HV := Lib.hid (xvalid_w h0)
 have HC := Lib.hid (hcopy_w (h2.fr (Fr.refl [] w).drew (by simp)))
 clear h0 h1 h2 h3
 go_enter Tryz.func53, Tryz.ntmps53
 go_wp2_with fail
 refine HV.out.mono ?_
 rintro _ w ⟨rfl, rfl⟩
 go_wp2_with fail
 go_region_held3 (fun w' => w'.cell? ⟨px, 0, none⟩ = some (.int .i64 slots) ∧ w'.cell? ⟨px, 1, none⟩ = some (hptr ph))
   (first
     | go_keep
     | exact ⟨hF4.cell c0 (by simp), hF4.cell c1 (by simp)⟩)
   (first | (go_at_call 106; with_reducible refine HC.out.mono ?_; rintro e w4 ⟨p4, rfl, l4, hH4, hF4, hN4⟩))
 all_goals
  have hb := Blk.new w4 [.int .i64 slots, hptr p4] 160
  have hF : Fr [] w (w4.alloc (.cells #[.int .i64 slots, hptr p4] 160)) := ((Fr.refl [] w).drew.trans' hF4).alloc _
  have hs4 := hF4.size
  have HB := Lib.hid (And.intro hb (And.intro hF (And.intro hH4 hN4)))
  clear hb hF hH4 hN4
  go_wp2
  go_ret
  refine ⟨_, rfl, _, ⟨p4, l4, HB.out.1, HB.out.2.2.1.fr ((Fr.refl [] _).alloc _) (by simp), fun hm => by have := HB.out.2.2.1.lt _ hm; omega, rfl⟩, HB.out.2.1, fun b hb => ?_⟩
  rcases List.mem_cons.1 hb with rfl | hb
  · simpa using hs4
  · simpa using HB.out.2.2.2 b hb
end
end Go.Proofs.YtgmnemndjjmgkaaGreat
namespace Go.Proofs.YtgmnemndjjmgkaaGreat
open Go.RowKit
set_option maxRecDepth 10000
theorem rem_sub {s : Sm} {i : Nat} {e : Lv} (h : e ∈ (s.rem i).L) : e ∈ s.L := (mem_rem.1 h).1
theorem rems_sub (ds : List Nat) : ∀ {s : Sm} {e : Lv}, e ∈ (s.rems ds).L → e ∈ s.L := by
 induction ds with
 | nil => intro s e h; exact h
 | cons i r ih => intro s e h; rw [Sm.rems_cons] at h; exact rem_sub (ih h)
theorem find_inj {M : Md} (h : M.Ok) {u v i : Nat} (hu : M.find u = some i) (hv : M.find v = some i) : u = v := by
 have h1 := Md.find_mem hu
 have h2 := Md.find_mem hv
 have h3 := Md.mem_idOf h.idx h1
 have h4 := Md.mem_idOf h.idx h2
 rw [h3] at h4
 exact Option.some.inj h4
set_option maxHeartbeats 1600000
def IS (w0 : World) (K : List Nat) (wr : World) (pw pc ps px pf : Nat) (P : Wp) (Ks lx Lf : List Nat) (Z : List (Nat × TypeId × List Value)) : Prop :=
  (∃ cl, WinB wr pw pc ps px pf P Ks lx Lf cl) ∧ Fr K w0 wr ∧ (∀ q ∈ winK pw pc Ks lx Lf, q ∈ K ∨ w0.heap.size ≤ q) ∧ ∀ z ∈ Z, Blk wr z.1 z.2.1 z.2.2 ∧ z.1 ∉ winK pw pc Ks lx Lf
section
variable {w0 wr w' : World} {K Ks Ks' lx lx' Lf Lf' : List Nat} {pw pc ps px pf : Nat} {P P' : Wp} {Z : List (Nat × TypeId × List Value)}
theorem IS.start {cl : Nat → Nat} (h : WinB wr pw pc ps px pf P Ks lx Lf cl) : IS wr (winK pw pc Ks lx Lf) wr pw pc ps px pf P Ks lx Lf [] := ⟨⟨cl, h⟩, Fr.refl _ _, fun q hq => .inl hq, by simp⟩
theorem IS.sub (h : IS w0 K wr pw pc ps px pf P Ks lx Lf Z) {Y : List (Nat × TypeId × List Value)} (hy : ∀ y ∈ Y, y ∈ Z) : IS w0 K wr pw pc ps px pf P Ks lx Lf Y := ⟨h.1, h.2.1, h.2.2.1, fun y hm => h.2.2.2 y (hy y hm)⟩
theorem IS.step (h : IS w0 K wr pw pc ps px pf P Ks lx Lf Z) {X : List Nat} (hB : ∃ cl, WinB w' pw pc ps px pf P' Ks' lx' Lf' cl) (hF : Fr X wr w') (hX : ∀ q ∈ X, q ∈ winK pw pc Ks lx Lf) (hn : ∀ q ∈ winK pw pc Ks' lx' Lf', q ∈ winK pw pc Ks lx Lf ∨ wr.heap.size ≤ q) :
    IS w0 K w' pw pc ps px pf P' Ks' lx' Lf' Z := by
 obtain ⟨_, hF0, hn0, hZ⟩ := h
 have hs := hF0.size
 refine ⟨hB, hF0.trans hF (fun b hb => hn0 b (hX b hb)), fun q hq => ?_, fun z hz => ⟨hF.blk (hZ z hz).1 (fun hm => (hZ z hz).2 (hX _ hm)), fun hm => ?_⟩⟩
 {
 rcases hn q hq with e | e
 · exact hn0 q e
 · exact .inr (by omega)
 }
 {
 rcases hn _ hm with e | e
 · exact (hZ z hz).2 e
 · have := (hZ z hz).1.lt; omega
 }
theorem IS.fr0 (h : IS w0 K wr pw pc ps px pf P Ks lx Lf Z) (hf : Fr [] wr w') : IS w0 K w' pw pc ps px pf P Ks lx Lf Z := by
 obtain ⟨cl, hB⟩ := h.1
 exact h.step ⟨cl, hB.fr0 hf⟩ hf (by simp) (fun q hq => .inl hq)
theorem IS.box (h : IS w0 K wr pw pc ps px pf P Ks lx Lf Z) (l : List Value) (t : TypeId) : IS w0 K (wr.alloc (.cells l.toArray t)) pw pc ps px pf P Ks lx Lf ((wr.heap.size, t, l) :: Z) := by
 have h1 := h.fr0 ((Fr.refl [] wr).alloc (.cells l.toArray t))
 refine ⟨h1.1, h1.2.1, h1.2.2.1, fun z hz => ?_⟩
 rcases List.mem_cons.1 hz with rfl | hz
 {
 refine ⟨Blk.new wr l t, fun hm => ?_⟩
 obtain ⟨cl, hB⟩ := h.1
 have := hB.lt _ hm
 exact absurd this (Nat.lt_irrefl _)
 }
 · exact h1.2.2.2 z hz
theorem IS.other (h : IS w0 K wr pw pc ps px pf P Ks lx Lf Z) {X : List Nat} (hF : Fr X wr w') (hX : ∀ q ∈ X, w0.heap.size ≤ q ∧ q ∉ winK pw pc Ks lx Lf ∧ ∀ z ∈ Z, z.1 ≠ q) : IS w0 K w' pw pc ps px pf P Ks lx Lf Z := by
 obtain ⟨⟨cl, hB⟩, hF0, hn0, hZ⟩ := h
 exact ⟨⟨cl, hB.fr hF (fun q hq hm => (hX q hm).2.1 hq)⟩, hF0.trans hF (fun b hb => .inr (hX b hb).1), hn0, fun z hz => ⟨hF.blk (hZ z hz).1 (fun hm => (hX _ hm).2.2 z hz rfl), (hZ z hz).2⟩⟩
theorem IS.cons (h : IS w0 K wr pw pc ps px pf P Ks lx Lf Z) {b : Nat} {t : TypeId} {l : List Value} (hb : Blk wr b t l) (hn : b ∉ winK pw pc Ks lx Lf) : IS w0 K wr pw pc ps px pf P Ks lx Lf ((b, t, l) :: Z) :=
  ⟨h.1, h.2.1, h.2.2.1, fun z hz => by
 rcases List.mem_cons.1 hz with rfl | hz
 · exact ⟨hb, hn⟩
 · exact h.2.2.2 z hz⟩
theorem winK_st {q : Nat} (h : q ∈ Ks) : q ∈ winK pw pc Ks lx Lf := by simp [winK, h]
theorem winK_sch {q : Nat} (h : q ∈ lx) : q ∈ winK pw pc Ks lx Lf := by simp [winK, h]
theorem winK_fo {q : Nat} (h : q ∈ Lf) : q ∈ winK pw pc Ks lx Lf := by simp [winK, h]
theorem IS.st (h : IS w0 K wr pw pc ps px pf P Ks lx Lf Z) {s' : Sm} (hs : StoreAt w' ps s' Ks') (hF : Fr Ks wr w') (hq : ∀ q ∈ Ks', q ∈ Ks ∨ wr.heap.size ≤ q) : IS w0 K w' pw pc ps px pf { P with s := s' } Ks' lx Lf Z := by
 obtain ⟨cl, hB⟩ := h.1
 refine h.step (hB.setSt hs hF hq) hF (fun q hq => winK_st hq) (fun q hm => ?_)
 simp only [winK, List.mem_cons, List.mem_append] at hm ⊢
 rcases hm with e | e | e | e | e
 · simp [e]
 · simp [e]
 · exact (hq q e).imp (fun e => by simp [e]) id
 · simp [e]
 · simp [e]
theorem IS.sch (h : IS w0 K wr pw pc ps px pf P Ks lx Lf Z) {Q' : Nat → Option Int} {nq' : Nat} (hs : SchAt w' px P.E Q' nq' lx') (hF : Fr lx wr w') (hq : ∀ q ∈ lx', q ∈ lx ∨ wr.heap.size ≤ q) : IS w0 K w' pw pc ps px pf { P with Q := Q', nq := nq' } Ks lx' Lf Z := by
 obtain ⟨cl, hB⟩ := h.1
 refine h.step (hB.setSch hs hF hq) hF (fun q hq => winK_sch hq) (fun q hm => ?_)
 simp only [winK, List.mem_cons, List.mem_append] at hm ⊢
 rcases hm with e | e | e | e | e
 · simp [e]
 · simp [e]
 · simp [e]
 · exact (hq q e).imp (fun e => by simp [e]) id
 · simp [e]
theorem IS.fo (h : IS w0 K wr pw pc ps px pf P Ks lx Lf Z) {G' : Nat → Option (Nat × Nat × Int)} (hm : FMv wr w' pf P.E P.V G' Lf) : ∃ Lf', IS w0 K w' pw pc ps px pf { P with G := G' } Ks lx Lf' Z := by
 obtain ⟨cl, hB⟩ := h.1
 obtain ⟨Lf', h1, h2, h3⟩ := hm
 refine ⟨Lf', h.step (hB.setFo h1 h2 h3) h2 (fun q hq => winK_fo hq) (fun q hm => ?_)⟩
 simp only [winK, List.mem_cons, List.mem_append] at hm ⊢
 rcases hm with e | e | e | e | e
 · simp [e]
 · simp [e]
 · simp [e]
 · simp [e]
 · exact (h3 q e).imp (fun e => by simp [e]) id
theorem IS.n (h : IS w0 K wr pw pc ps px pf P Ks lx Lf Z) {a g : Nat} (hF : Fr [pw] wr w') (hb : Blk w' pw 83 [.int .i64 P.m, .int .i64 P.E, .int .i64 P.V, .int .i64 P.D, cptr pc, sptr ps, hptr px, fptr pf, .int .u64 a, .int .u64 g]) : IS w0 K w' pw pc ps px pf { P with added := a, gone := g } Ks lx Lf Z := by
 obtain ⟨cl, hB⟩ := h.1
 exact h.step ⟨cl, hB.setN hF hb⟩ hF (fun q hq => by simp at hq; simp [winK, hq]) (fun q hm => .inl hm)
theorem IS.blk (h : IS w0 K wr pw pc ps px pf P Ks lx Lf Z) {z : Nat × TypeId × List Value} (hz : z ∈ Z) : Blk wr z.1 z.2.1 z.2.2 := (h.2.2.2 z hz).1
end
theorem Sm.idx_lt {s : Sm} (h : s.Ok) {u i : Nat} (hf : s.M.find u = some i) : i < s.V := by
 have h1 := (h.md.used _ (Md.find_mem hf)).1
 have h2 := h.md.ar.hb
 have h3 : s.M.ar.slots = s.M.slots := rfl
 have h4 := h.ms
 simp only at h1
 omega
section
variable {w w' : World} {pw pc ps px pf : Nat} {P : Wp} {Ks lx Lf : List Nat} {cl : Nat → Nat}
theorem winsert_w (h : WinB w pw pc ps px pf P Ks lx Lf cl) (hl : Lk P.s P.Q P.G) (hok : P.s.Ok) (hV : P.s.V = P.V) (hE : P.s.E = P.E) (u v : Nat) (hu : u < 18446744073709551616) (hv : v < 18446744073709551616) (wt t : Int) (ht : 0 ≤ t) (htm : t + P.m ≤ 9223372036854775807) (hc : P.s.chk u v = 0) (hla : P.s.last + 1 ≤ 9223372036854775807) (had : P.added + 1 ≤ 9223372036854775807) :
    Calls Tryz.prog 57 #[wptr pw, recA u v wt t] w fun e w' => e = .returned (.tuple #[]) ∧ ∃ a b Ks' lx' Lf', (P.s.ins u v wt t (t + P.m)).M.find u = some a ∧ (P.s.ins u v wt t (t + P.m)).M.find v = some b ∧
      IS w (winK pw pc Ks lx Lf) w' pw pc ps px pf { P with s := P.s.ins u v wt t (t + P.m), Q := fun j => if j = P.s.slot then some (t + P.m) else P.Q j, nq := P.nq + 1, G := fun j => if j = P.s.slot then some (a, b, t + P.m) else P.G j, added := P.added + 1 } Ks' lx' Lf' [] := by
 have hm1 := h.clk.m1
 have hm2 := h.clk.m2
 have hI := (IS.start h).box [.int .u64 u, .int .u64 v, .int .i64 wt, .int .i64 t] 42
 obtain ⟨w1, hw1⟩ : ∃ w1, w1 = w.alloc (.cells #[.int .u64 u, .int .u64 v, .int .i64 wt, .int .i64 t] 42) := ⟨_, rfl⟩
 obtain ⟨x, hx⟩ : ∃ x, x = t + P.m := ⟨_, rfl⟩
 obtain ⟨xb, hxb⟩ : ∃ xb, xb = w.heap.size := ⟨_, rfl⟩
 have hok1 := Sm.ok_ins hok hu hv hc (by omega) wt t x
 have hne : u ≠ v := (Sm.chk_ok hok hc).1
 have hsn := Sm.slot_next hok hc
 have hslt := ar_next_lt hok.ar hsn
 rw [hok.sl, hE] at hslt
 obtain ⟨hfq, hfg⟩ := hl.free hok (Md.isUsed_alloc' hok.ar hsn).1
 have hmem : P.s.edge u v wt t x ∈ (P.s.ins u v wt t x).L := by simp [Sm.ins]
 obtain ⟨a, ha⟩ := Option.isSome_iff_exists.1 (vert_mem hok1 hmem (x := u) (by simp [Lv.at, Sm.edge]))
 obtain ⟨b, hb⟩ := Option.isSome_iff_exists.1 (vert_mem hok1 hmem (x := v) (by simp [Lv.at, Sm.edge]))
 have hal := Sm.idx_lt hok1 ha
 have hbl := Sm.idx_lt hok1 hb
 have hab : a ≠ b := fun e => hne (find_inj hok1.md ha (by rw [e]; exact hb))
 have hcode : addCode P.E P.V P.G P.s.slot a b = 0 := by {
 have e1 : inV P.E P.s.slot = true := by simp [inV]; omega
 have hV' : (P.s.ins u v wt t x).V = P.V := hV
 have e2 : inV P.V a = true := by simp [inV]; omega
 have e3 : inV P.V b = true := by simp [inV]; omega
 unfold addCode
 rw [if_pos ⟨e1, e2, e3⟩, if_neg (by omega), if_neg (by simp [hfg])]
 }
 have haddG : addG P.E P.V P.G P.s.slot a b x = fun j => if j = P.s.slot then some (a, b, x) else P.G j := by {
 unfold addG
 rw [if_pos hcode]
 funext j
 simp [updG]
 }
 rw [← hw1, ← hxb] at hI
 have hsx : sumV t P.m = x := by unfold sumV; rw [if_pos htm, hx]
 have hcx : sumC t P.m = 0 := by unfold sumC; rw [if_pos htm]
 rw [← hx]
 have HI := Lib.hid hI
 obtain ⟨cl1, hB1⟩ := hI.1
 have HA := Lib.hid (fun (nq : Nat) => cexp_w (hB1.clk.fr0 ((Fr.refl [] w1).drewN nq)) t (by omega) (by omega))
 rw [hsx, hcx] at HA
 have c4 := hB1.hd.cell 4
 have hbx : Blk w1 xb 42 [.int .u64 u, .int .u64 v, .int .i64 wt, .int .i64 t] := hI.blk (z := (xb, 42, [.int .u64 u, .int .u64 v, .int .i64 wt, .int .i64 t])) (by simp)
 have r0 := hbx.cell 0; have r1 := hbx.cell 1; have r2 := hbx.cell 2; have r3 := hbx.cell 3
 simp only [List.getElem?_cons_zero, List.getElem?_cons_succ] at c4 r0 r1 r2 r3
 have HXR := Lib.hid (show -9223372036854775808 ≤ x ∧ x ≤ 9223372036854775807 by omega)
 have HP := Lib.hid (And.intro hok (And.intro hc (And.intro hla (And.intro hslt (And.intro hfq (And.intro ha (And.intro hb (And.intro hcode (And.intro haddG had)))))))))
 clear hI hbx hB1 hl hok hV hE hc hla hok1 hne hsn hslt hfq hfg hmem ha hb hal hbl hab hcode haddG hsx hcx h had
 rw [hw1, hxb] at r0 r1 r2 r3
 rw [hw1] at c4
 go_enter Tryz.func57, Tryz.ntmps57
 go_wp2_with fail
 rw [← hw1]
 rw [← hw1, ← hxb] at r0 r1 r2 r3
 rw [← hw1] at c4
 rw [← hxb]
 clear hw1 hxb hx
 refine region_one 6 (fun w' => ∃ nq, w' = w1.drewN nq) (by kernel_rfl) (by kernel_rfl) (by kernel_rfl) ?_
 iterate 6 (refine gWalk_pre (by decide) (fun K hK => ?_); go_simp; refine hK _ ?_; clear hK K)
 refine gWalk_write rfl (.tuple #[.int .i64 x, .int .i64 0]) (fun w' hw' => ?_) ?_
 {
 obtain ⟨nq, rfl⟩ := hw'
 go_simp
 refine (HA.out nq).mono ?_
 rintro _ w1 ⟨rfl, rfl⟩
 exact ⟨rfl, nq, rfl⟩
 }
 iterate 5 (refine gWalk_post (by decide) (fun K hK => ?_); go_simp; refine hK _ ?_; clear hK K)
 refine gWalk_nil ?_
 rintro _ ⟨nq, rfl⟩
 have hI2 := HI.out.fr0 ((Fr.refl [] w1).drewN nq)
 clear c4 r0 r1 r2 r3 HA HI
 generalize w1.drewN nq = wz at *
 obtain ⟨cl2, hB2⟩ := hI2.1
 have hbx : Blk wz xb 42 [.int .u64 u, .int .u64 v, .int .i64 wt, .int .i64 t] := hI2.blk (z := (xb, 42, [.int .u64 u, .int .u64 v, .int .i64 wt, .int .i64 t])) (by simp)
 have c5 := hB2.hd.cell 5
 have r0 := hbx.cell 0; have r1 := hbx.cell 1; have r2 := hbx.cell 2; have r3 := hbx.cell 3
 simp only [List.getElem?_cons_zero, List.getElem?_cons_succ] at c5 r0 r1 r2 r3
 obtain ⟨y, hy⟩ : ∃ y, y = P.s.edge u v wt t x := ⟨_, rfl⟩
 have HI := Lib.hid (show ∀ w', Fr [] wz w' → Calls Tryz.prog 112 #[sptr ps, recA u v wt t, .int .i64 x] w' fun e w'' => e = .returned (.tuple #[lvA y, .int .i64 0]) ∧ ∃ K', StoreAt w'' ps (P.s.ins u v wt t x) K' ∧ Fr Ks w' w'' ∧ ∀ q ∈ K', q ∈ Ks ∨ w'.heap.size ≤ q from fun w' hf => by
   rw [hy]; exact st_ins_yes (hB2.st.fr0 hf) u v hu hv wt t x HP.out.2.1 (by have := HP.out.2.2.1; omega))
 have HI2 := Lib.hid hI2
 have hkx : xb ∉ Ks := fun hm => (hI2.2.2.2 (xb, _, _) (List.mem_cons_self ..)).2 (winK_st hm)
 have hkp : pw ∉ Ks := fun hm => by have := hB2.ks _ hm; have := hB2.kw; omega
 have hkn : wz.heap.size ∉ Ks := fun hm => absurd (hB2.st.lt _ hm) (Nat.lt_irrefl _)
 have hxl := hbx.lt
 have hpl := hB2.hd.lt
 have hkx2 : xb ∉ wz.heap.size :: Ks := fun hm => (List.mem_cons.1 hm).elim (fun e => by omega) hkx
 have hkp2 : pw ∉ wz.heap.size :: Ks := fun hm => (List.mem_cons.1 hm).elim (fun e => by omega) hkp
 have HC := Lib.hid (fun (w' : World) (hf : Fr (wz.heap.size :: Ks) wz w') => And.intro (hf.cell c5 hkp2) (And.intro (hf.cell r0 hkx2) (And.intro (hf.cell r1 hkx2) (And.intro (hf.cell r2 hkx2) (hf.cell r3 hkx2)))))
 have HST := Lib.hid (show ∀ (w' : World) (a0 a1 a2 a3 a4 a5 a6 : Value), Fr (wz.heap.size :: Ks) wz w' → Fr (wz.heap.size :: Ks) wz (((((((w'.setCell ⟨wz.heap.size, 0, none⟩ a0).setCell ⟨wz.heap.size, 1, none⟩ a1).setCell ⟨wz.heap.size, 2, none⟩ a2).setCell ⟨wz.heap.size, 3, none⟩ a3).setCell ⟨wz.heap.size, 4, none⟩ a4).setCell ⟨wz.heap.size, 5, none⟩ a5).setCell ⟨wz.heap.size, 6, none⟩ a6) from fun w' _ _ _ _ _ _ _ hf =>
   (((((((hf).setCell _ _ (.inl (by simp))).setCell _ _ (.inl (by simp))).setCell _ _ (.inl (by simp))).setCell _ _ (.inl (by simp))).setCell _ _ (.inl (by simp))).setCell _ _ (.inl (by simp))).setCell _ _ (.inl (by simp)))
 have HB0 := Lib.hid (show ∀ (w5 : World) (S : List Nat), Fr Ks (wz.alloc (.cells #[.int .i64 0, .int .u64 0, .int .u64 0, .int .u64 0, .int .i64 0, .int .i64 0, .int .i64 0] 45)).drew w5 → Blk w5 wz.heap.size 45 [.int .i64 0, .int .u64 0, .int .u64 0, .int .u64 0, .int .i64 0, .int .i64 0, .int .i64 0] from fun w5 _ hf =>
   hf.blk ((Blk.new wz [.int .i64 0, .int .u64 0, .int .u64 0, .int .u64 0, .int .i64 0, .int .i64 0, .int .i64 0] 45).drew) hkn)
 have hpz : pw ≠ wz.heap.size := by omega
 have hxz : xb ≠ wz.heap.size := by omega
 have HY := Lib.hid hy
 clear hy hB2 hbx hI2 c5 r0 r1 r2 r3 hkx2 hkp2 hkx hkp hxl hpl
 go_wp2_with fail
 go_region_held3 (fun w' => w'.cell? ⟨pw, 5, none⟩ = some (sptr ps) ∧ w'.cell? ⟨xb, 0, none⟩ = some (.int .u64 u) ∧ w'.cell? ⟨xb, 1, none⟩ = some (.int .u64 v) ∧ w'.cell? ⟨xb, 2, none⟩ = some (.int .i64 wt) ∧ w'.cell? ⟨xb, 3, none⟩ = some (.int .i64 t))
   (first
     | with_reducible exact HC.out _ (HST.out w5 _ _ _ _ _ _ _ HF7.out)
     | with_reducible exact HC.out _ HF7.out
     | with_reducible exact HC.out _ (Fr.refl (wz.heap.size :: Ks) wz).drew
     | with_reducible exact HC.out _ (Fr.trans' (Fr.refl (wz.heap.size :: Ks) wz).drew hF6)
     | with_reducible exact HC.out _ ((Fr.trans' (Fr.refl (wz.heap.size :: Ks) wz).drew hF6).alloc _)
     | with_reducible exact HC.out _ ((Fr.refl (wz.heap.size :: Ks) wz).alloc _).drew
     )
   (first
     | (go_at_call 112; with_reducible refine Calls.mono (HI.out _ ((Fr.refl [] wz).drew)) ?_; rintro r w5 ⟨rfl, Ks5, hS5, hF5, hN5⟩; have hF6 := hF5.mono (S' := wz.heap.size :: Ks) (fun q hq => .inl (List.mem_cons_of_mem _ hq)))
     | (go_at_call 112; with_reducible refine Calls.mono (HI.out _ ((Fr.refl [] wz).alloc _).drew) ?_; rintro r w5 ⟨rfl, Ks5, hS5, hF5, hN5⟩
        go_loud (have hF6 := hF5.mono (S' := wz.heap.size :: Ks) (fun q hq => .inl (List.mem_cons_of_mem _ hq))); go_loud (have HF7 := Lib.hid (Fr.trans' ((Fr.refl (wz.heap.size :: Ks) wz).alloc _).drew hF6)); go_loud (have hB5 := HB0.out _ [] hF5); go_loud (have hz5 := hB5.frozen); go_loud (have t0 := hB5.cell 0; have t1 := hB5.cell 1; have t2 := hB5.cell 2; have t3 := hB5.cell 3; have t4 := hB5.cell 4; have t5 := hB5.cell 5; have t6 := hB5.cell 6; simp only [List.getElem?_cons_zero, List.getElem?_cons_succ] at t0 t1 t2 t3 t4 t5 t6)))
 focus
   have hX : IS w (winK pw pc Ks lx Lf) (w5.alloc (.cells #[.int .i64 y.slot, .int .u64 y.seq, .int .u64 y.u, .int .u64 y.v, .int .i64 y.wt, .int .i64 y.t, .int .i64 y.x] 45)) pw pc ps px pf { P with s := P.s.ins u v wt t x } Ks5 lx Lf [(w5.heap.size, 45, [.int .i64 y.slot, .int .u64 y.seq, .int .u64 y.u, .int .u64 y.v, .int .i64 y.wt, .int .i64 y.t, .int .i64 y.x]), (xb, 42, [.int .u64 u, .int .u64 v, .int .i64 wt, .int .i64 t])] :=
     ((HI2.out.fr0 (Fr.refl [] wz).drew).st hS5 hF5 hN5).box [.int .i64 y.slot, .int .u64 y.seq, .int .u64 y.u, .int .u64 y.v, .int .i64 y.wt, .int .i64 y.t, .int .i64 y.x] 45
   have HX := Lib.hid hX
   clear hX hS5 hF5 hN5 hF6 HI HC HST HB0 hpz hxz hkn HI2
   generalize (w5.alloc (.cells #[.int .i64 y.slot, .int .u64 y.seq, .int .u64 y.u, .int .u64 y.v, .int .i64 y.wt, .int .i64 y.t, .int .i64 y.x] 45)) = W6 at *
   generalize w5.heap.size = eb at *
   rename_i hHH
   clear hHH
 rotate_left
 focus
   have h5 := (((HI2.out.box [.int .i64 0, .int .u64 0, .int .u64 0, .int .u64 0, .int .i64 0, .int .i64 0, .int .i64 0] 45).fr0 (Fr.refl [] _).drew).st hS5 hF5 hN5)
   have hnz := (h5.2.2.2 _ (List.mem_cons_self ..)).2
   have hws := HI2.out.2.1.size
   have hxn := (HI2.out.2.2.2 _ (List.mem_cons_self ..)).1.lt
   simp only at hnz hxn
   have hfc : Fr [wz.heap.size] w5 (((((((w5.setCell ⟨wz.heap.size, 0, none⟩ (.int .i64 y.slot)).setCell ⟨wz.heap.size, 1, none⟩ (.int .u64 y.seq)).setCell ⟨wz.heap.size, 2, none⟩ (.int .u64 y.u)).setCell ⟨wz.heap.size, 3, none⟩ (.int .u64 y.v)).setCell ⟨wz.heap.size, 4, none⟩ (.int .i64 y.wt)).setCell ⟨wz.heap.size, 5, none⟩ (.int .i64 y.t)).setCell ⟨wz.heap.size, 6, none⟩ (.int .i64 y.x)) :=
     (((((((Fr.refl _ w5).setCell _ _ (.inl (by simp))).setCell _ _ (.inl (by simp))).setCell _ _ (.inl (by simp))).setCell _ _ (.inl (by simp))).setCell _ _ (.inl (by simp))).setCell _ _ (.inl (by simp))).setCell _ _ (.inl (by simp))
   have hb7 := ((((((hB5.set 0 (.int .i64 y.slot)).set 1 (.int .u64 y.seq)).set 2 (.int .u64 y.u)).set 3 (.int .u64 y.v)).set 4 (.int .i64 y.wt)).set 5 (.int .i64 y.t)).set 6 (.int .i64 y.x)
   simp only [List.set_cons_zero, List.set_cons_succ] at hb7
   have hX : IS w (winK pw pc Ks lx Lf) (((((((w5.setCell ⟨wz.heap.size, 0, none⟩ (.int .i64 y.slot)).setCell ⟨wz.heap.size, 1, none⟩ (.int .u64 y.seq)).setCell ⟨wz.heap.size, 2, none⟩ (.int .u64 y.u)).setCell ⟨wz.heap.size, 3, none⟩ (.int .u64 y.v)).setCell ⟨wz.heap.size, 4, none⟩ (.int .i64 y.wt)).setCell ⟨wz.heap.size, 5, none⟩ (.int .i64 y.t)).setCell ⟨wz.heap.size, 6, none⟩ (.int .i64 y.x)) pw pc ps px pf { P with s := P.s.ins u v wt t x } Ks5 lx Lf [(wz.heap.size, 45, [.int .i64 y.slot, .int .u64 y.seq, .int .u64 y.u, .int .u64 y.v, .int .i64 y.wt, .int .i64 y.t, .int .i64 y.x]), (xb, 42, [.int .u64 u, .int .u64 v, .int .i64 wt, .int .i64 t])] :=
     ((h5.sub (Y := [(xb, 42, [.int .u64 u, .int .u64 v, .int .i64 wt, .int .i64 t])]) (fun z hz => List.mem_cons_of_mem _ hz)).other hfc (fun q hq => by
       rw [List.mem_singleton] at hq; subst hq
       exact ⟨hws, hnz, fun z hz => by rw [List.mem_singleton] at hz; subst hz; simp only; omega⟩)).cons hb7 hnz
   have HX := Lib.hid hX
   clear hX hS5 hF5 hN5 hF6 HI HC HST HB0 hpz hxz hkn HI2 h5 hnz hws hxn hfc hb7 hB5 hz5 t0 t1 t2 t3 t4 t5 t6 HF7
   generalize (((((((w5.setCell ⟨wz.heap.size, 0, none⟩ (.int .i64 y.slot)).setCell ⟨wz.heap.size, 1, none⟩ (.int .u64 y.seq)).setCell ⟨wz.heap.size, 2, none⟩ (.int .u64 y.u)).setCell ⟨wz.heap.size, 3, none⟩ (.int .u64 y.v)).setCell ⟨wz.heap.size, 4, none⟩ (.int .i64 y.wt)).setCell ⟨wz.heap.size, 5, none⟩ (.int .i64 y.t)).setCell ⟨wz.heap.size, 6, none⟩ (.int .i64 y.x)) = W6 at *
   generalize wz.heap.size = eb at *
   rename_i hHH
   clear hHH
 all_goals
  have hys : y.slot = P.s.slot := by rw [HY.out]; rfl
  obtain ⟨cl6, hB6⟩ := HX.out.1
  have hbx : Blk W6 xb 42 [.int .u64 u, .int .u64 v, .int .i64 wt, .int .i64 t] := HX.out.blk (z := (xb, 42, [.int .u64 u, .int .u64 v, .int .i64 wt, .int .i64 t])) (by simp)
  have hcx : ∀ w', Fr [] W6 w' → w'.cell? ⟨pw, 5, none⟩ = some (sptr ps) ∧ w'.cell? ⟨xb, 0, none⟩ = some (.int .u64 u) ∧ w'.cell? ⟨xb, 1, none⟩ = some (.int .u64 v) := fun w' hf => ⟨(hf.blk hB6.hd (by simp)).cell 5, (hf.blk hbx (by simp)).cell 0, (hf.blk hbx (by simp)).cell 1⟩
  have HU := Lib.hid (fun (w' : World) (hf : Fr [] W6 w') => st_index (hB6.st.fr0 hf) u hu)
  have HW := Lib.hid (fun (w' : World) (hf : Fr [] W6 w') => st_index (hB6.st.fr0 hf) v hv)
  simp only [HP.out.2.2.2.2.2.1, HP.out.2.2.2.2.2.2.1, Option.getD_some, Option.isSome_some] at HU HW
  have HCX := Lib.hid hcx
  obtain ⟨c5, r0, r1⟩ := hcx W6 (Fr.refl _ _)
  clear hB6 hbx hcx
  have HYS := Lib.hid hys
  clear hys
  go_wp2_with fail
  refine region_one 6 (fun w' => Fr [] W6 w') (by kernel_rfl) (by kernel_rfl) (by kernel_rfl) ?_
  iterate 6 (refine gWalk_pre (by decide) (fun K hK => ?_); go_simp; refine hK _ ?_; clear hK K)
  refine gWalk_write rfl (.tuple #[.int .i64 a, .bool true]) (fun w' hw' => ?_) ?_
  {
  obtain ⟨nq, rfl⟩ := hw'
  go_simp
  refine (HU.out _ ((Fr.refl [] W6).drewN nq)).mono ?_
  rintro _ w1 ⟨rfl, hf⟩
  exact ⟨rfl, ((Fr.refl [] W6).drewN nq).trans' hf⟩
  }
  iterate 5 (refine gWalk_post (by decide) (fun K hK => ?_); go_simp; refine hK _ ?_; clear hK K)
  refine gWalk_nil ?_
  rintro W7 hF7
  clear c5 r0 r1
  obtain ⟨c5, r0, r1⟩ := HCX.out W7 hF7
  have HW7 := Lib.hid (fun (nq : Nat) => HW.out _ (hF7.trans' ((Fr.refl [] W7).drewN nq)))
  have HX7 := Lib.hid (HX.out.fr0 hF7)
  clear HX HU HW HCX hF7 r0
  go_wp2_with fail
  refine region_one 6 (fun w' => Fr [] W7 w') (by kernel_rfl) (by kernel_rfl) (by kernel_rfl) ?_
  iterate 6 (refine gWalk_pre (by decide) (fun K hK => ?_); go_simp; refine hK _ ?_; clear hK K)
  refine gWalk_write rfl (.tuple #[.int .i64 b, .bool true]) (fun w' hw' => ?_) ?_
  {
  obtain ⟨nq, rfl⟩ := hw'
  go_simp
  refine (HW7.out nq).mono ?_
  rintro _ w1 ⟨rfl, hf⟩
  exact ⟨rfl, ((Fr.refl [] W7).drewN nq).trans' hf⟩
  }
  iterate 5 (refine gWalk_post (by decide) (fun K hK => ?_); go_simp; refine hK _ ?_; clear hK K)
  refine gWalk_nil ?_
  rintro W8 hF8
  have hX8 := HX7.out.fr0 hF8
  obtain ⟨cl8, hB8⟩ := hX8.1
  have hbe : Blk W8 eb 45 [.int .i64 y.slot, .int .u64 y.seq, .int .u64 y.u, .int .u64 y.v, .int .i64 y.wt, .int .i64 y.t, .int .i64 y.x] := hX8.blk (z := (eb, 45, [.int .i64 y.slot, .int .u64 y.seq, .int .u64 y.u, .int .u64 y.v, .int .i64 y.wt, .int .i64 y.t, .int .i64 y.x])) (by simp)
  have c6 := hB8.hd.cell 6
  have e0 := hbe.cell 0
  simp only [List.getElem?_cons_zero, List.getElem?_cons_succ] at c6 e0
  rw [HYS.out] at e0
  have HS := Lib.hid (fun (nq : Nat) => xset_w (hB8.sch.fr0 ((Fr.refl [] W8).drewN nq)) (i := P.s.slot) HP.out.2.2.2.1 HP.out.2.2.2.2.1 x)
  have HX8 := Lib.hid hX8
  clear HX7 HW7 hF8 c5 r1 hX8 hB8 hbe
  go_wp2_with fail
  refine region_one 7 (fun w' => ∃ l', SchAt w' px P.E (updQ P.Q P.s.slot (some x)) (P.nq + 1) l' ∧ Fr lx W8 w' ∧ ∀ b ∈ l', b ∈ lx ∨ W8.heap.size ≤ b) (by kernel_rfl) (by kernel_rfl) (by kernel_rfl) ?_
  iterate 7 (refine gWalk_pre (by decide) (fun K hK => ?_); go_simp; refine hK _ ?_; clear hK K)
  refine gWalk_write rfl (.int .i64 0) (fun w' hw' => ?_) ?_
  {
  obtain ⟨nq, rfl⟩ := hw'
  go_simp
  refine (HS.out nq).mono ?_
  rintro _ w1 ⟨rfl, l', k1, k2, k3⟩
  exact ⟨rfl, l', k1, ((Fr.refl lx W8).drewN nq).trans' k2, k3⟩
  }
  refine gWalk_nil ?_
  rintro W9 ⟨lx9, k1, k2, k3⟩
  have hX9 := HX8.out.sch k1 k2 k3
  obtain ⟨cl9, hB9⟩ := hX9.1
  have hbe : Blk W9 eb 45 [.int .i64 y.slot, .int .u64 y.seq, .int .u64 y.u, .int .u64 y.v, .int .i64 y.wt, .int .i64 y.t, .int .i64 y.x] := hX9.blk (z := (eb, 45, [.int .i64 y.slot, .int .u64 y.seq, .int .u64 y.u, .int .u64 y.v, .int .i64 y.wt, .int .i64 y.t, .int .i64 y.x])) (by simp)
  clear c6 e0
  have c7 := hB9.hd.cell 7
  have e0 := hbe.cell 0
  simp only [List.getElem?_cons_zero, List.getElem?_cons_succ] at c7 e0
  rw [HYS.out] at e0
  have hxr : -9223372036854775808 ≤ x ∧ x ≤ 9223372036854775807 := HXR.out
  have hA := fun (nq : Nat) => fa_add (hB9.fo.fr ((Fr.refl [] W9).drewN nq) (by simp)) P.s.slot a b x hxr
  simp only [HP.out.2.2.2.2.2.2.2.1, HP.out.2.2.2.2.2.2.2.2.1] at hA
  have HA := Lib.hid hA
  have HX9 := Lib.hid hX9
  clear HX8 HS k1 k2 k3 hX9 hB9 hbe hA hxr
  go_wp2_with fail
  refine region_one 9 (fun w' => FMv W9 w' pf P.E P.V (fun j => if j = P.s.slot then some (a, b, x) else P.G j) Lf) (by kernel_rfl) (by kernel_rfl) (by kernel_rfl) ?_
  iterate 9 (refine gWalk_pre (by decide) (fun K hK => ?_); go_simp; refine hK _ ?_; clear hK K)
  refine gWalk_write rfl (.int .i64 0) (fun w' hw' => ?_) ?_
  {
  obtain ⟨nq, rfl⟩ := hw'
  go_simp
  refine (HA.out nq).mono ?_
  rintro _ w1 ⟨rfl, L', k1, k2, k3⟩
  exact ⟨rfl, L', k1, ((Fr.refl Lf W9).drewN nq).trans' k2, k3⟩
  }
  refine gWalk_nil ?_
  rintro W10 k1
  obtain ⟨Lf10, hX10⟩ := HX9.out.fo k1
  obtain ⟨cl10, hB10⟩ := hX10.1
  clear c7 e0
  have c8 := hB10.hd.cell 8
  have z8 := hB10.hd.frozen 8
  simp only [List.getElem?_cons_zero, List.getElem?_cons_succ] at c8
  have hb11 := hB10.hd.set 8 (.int .u64 ((P.added : Int) + 1))
  simp only [List.set_cons_zero, List.set_cons_succ] at hb11
  have hadd := HP.out.2.2.2.2.2.2.2.2.2
  have hw1 : IntKind.u64.wrap ((P.added : Int) + 1) = (P.added : Int) + 1 := by simp [IntKind.wrap, IntKind.bits, IntKind.signed]; omega
  have HX10 := Lib.hid (And.intro hX10 hb11)
  clear HX9 HA k1 hX10 hB10 hb11
  go_wp2_with fail
  go_end0
  have hF : Fr [pw] W10 (W10.setCell ⟨pw, 8, none⟩ (.int .u64 ((P.added : Int) + 1))) := (Fr.refl _ _).setCell _ _ (.inl (by simp))
  exact ⟨rfl, a, HP.out.2.2.2.2.2.1, b, HP.out.2.2.2.2.2.2.1, Ks5, lx9, Lf10, (HX10.out.1.n hF (a := P.added + 1) (g := P.gone) (by rw [Int.natCast_add]; exact HX10.out.2)).sub (by simp)⟩
end
end Go.Proofs.YtgmnemndjjmgkaaGreat
namespace Go.Proofs.YtgmnemndjjmgkaaGreat
open Go.RowKit
theorem Fr.putObj {S : List Nat} {w w' : World} (h : Fr S w w') (l : Nat) (o : Obj) (hl : l ∈ S ∨ w.heap.size ≤ l) : Fr S w (w'.putObj l o) :=
  h.grown (grownBy_putObj' w' l o) (fun k e => by cases e; exact hl)
structure Owned {α : Type} (base : Nat) (I : List α → List Nat → World → Prop) : Prop where
  fr : ∀ {pre : List α} {K S : List Nat} {A B : World}, I pre K A → Fr S A B → (∀ b ∈ K, b ∉ S) → I pre K B
  lt : ∀ {pre : List α} {K : List Nat} {A : World}, I pre K A → ∀ b ∈ K, base ≤ b ∧ b < A.heap.size
def goesOn {α : Type} (I : List α → List Nat → World → Prop) (xs : List α) (K : List Nat) (W W' : World) : Prop := ∃ K', I xs K' W' ∧ Fr K W W' ∧ ∀ b ∈ K', b ∈ K ∨ W.heap.size ≤ b
section
variable {F : Fence} {n : Nat} {P : Program}
theorem rfun_goes {α : Type} {g : Operand} {ps : Array Tmp} {assign body : Code} {Q : Exit → Act → World → Prop} {a : Act} {w : World} (hro : F.round = none) (h1 : 1 ≤ n) {gf : Nat} {lb : Array Value}
    (hg : a.eval g = .func (.func gf) #[] lb) (hFg : F.fn gf) (eg : ∀ args w, (callFunc gf args).run P w = .ok (.enter gf args) w) {encs : α → Array Value} (hps : ∀ x, (encs x).size = ps.size) {base N : Nat} (hb : base ≤ w.heap.size)
    {T : List α → List Nat → World → Prop} (hT : ∀ {xs K A B}, T xs K A → Fr K A B → T xs K B) (I : List α → List Nat → World → Prop) (hI : Owned base I) (K0 : List Nat) (h0 : I [] K0 w)
    (hseq : ∀ (l : Nat) (J : List α → List Nat → World → Prop) (K : List Nat) (W : World), Owned base J → Fr [] w W → J [] K W → (∀ b ∈ K, b ∈ K0 ∨ w.heap.size ≤ b) →
      (∀ pre K x W1, J pre K W1 → pre.length < N → YieldAt F (n - 1 - 1) P l (encs x) W1 fun e W' => e = .returned (.bool true) ∧ goesOn J (pre ++ [x]) K W1 W') →
      CallsIn F (n - 1) P gf (#[.func (.yield l) #[] #[]] ++ lb) W fun e W' => (∃ v, e = .returned v) ∧ ∃ xs K', J xs K' W' ∧ T xs K' W')
    (a₁ : α → Act)
    (hassign : ∀ (l : Nat) (x : α) (W : World) (K : Act → World → Prop), K (a₁ x) W →
      assign.wpIn (F.inRound l) (n - 1 - 1) P (Exit.then K (fun _ _ _ => False)) { tmps := (ps.zip (encs x)).foldl (fun t (p, v) => t.setIfInBounds p v) a.tmps, defers := [] } W)
    (hbody : ∀ (l : Nat) (pre : List α) (K : List Nat) (x : α) (W : World), I pre K W → pre.length < N → body.wpIn (F.inRound l) (n - 1 - 1) P (fun e _ W' => e = .normal ∧ goesOn I (pre ++ [x]) K W W') (a₁ x) W)
    (hdone : ∀ (D : Nat) (xs : List α) (K K' : List Nat) (W : World), w.heap.size ≤ D → I xs K W → T xs K' W → D ∈ K' → D ∉ K → (∀ b ∈ K, b ∈ K') → W.heap[D]? = some (.deferred (some [])) → Q .normal { a with defers := { target := .collected D, args := #[] } :: a.defers } W) :
    (Code.rangeFunc g ps assign body).wpIn F n P Q a w := by
 refine wpIn_rangeFunc ?_
 intro fn hfn
 rw [hro]
 obtain ⟨D, hD⟩ : ∃ D, D = w.heap.size := ⟨_, rfl⟩
 obtain ⟨L, hL⟩ : ∃ L, L = D + 1 := ⟨_, rfl⟩
 obtain ⟨rc, hrc⟩ : ∃ rc : LoopState → Option Code → Loop, rc = fun st pe => { state := st, pending := pe, fn, tmps := a.tmps, params := ps, assign, body, defers := w.heap.size } := ⟨_, rfl⟩
 obtain ⟨W1, hW1⟩ : ∃ W1, W1 = (w.alloc (.deferred (some []))).alloc (.loop (rc .ready none)) := ⟨_, rfl⟩
 have hF1 : Fr [] w W1 := by rw [hW1]; exact ((Fr.refl _ _).alloc _).alloc _
 have hD1 : W1.heap[D]? = some (.deferred (some [])) := by rw [hW1, hD]; exact (Below.heap_alloc _ _ _ (by simp)).trans (World.alloc_heap_new w _)
 have hL1 : W1.heap[L]? = some (.loop (rc .ready none)) := by rw [hW1, hL, hD]; have := World.alloc_heap_new (w.alloc (.deferred (some []))) (.loop (rc .ready none)); rwa [World.size_alloc] at this
 let J : List α → List Nat → World → Prop := fun pre K W => ∃ K1, K = L :: D :: K1 ∧ I pre K1 W ∧ L ∉ K1 ∧ D ∉ K1 ∧ W.heap[L]? = some (.loop (rc .ready none)) ∧ W.heap[D]? = some (.deferred (some []))
 have hJ : Owned base J := by {
 constructor
 {
 rintro pre K S A B ⟨K1, rfl, h1, h2, h3, h4, h5⟩ hF hS
 have l1 := (Array.getElem?_eq_some_iff.1 h4).1
 have l2 := (Array.getElem?_eq_some_iff.1 h5).1
 exact ⟨K1, rfl, hI.fr h1 hF (fun b hb => hS b (by simp [hb])), h2, h3, (hF.keep _ l1 (hS _ (by simp))).trans h4, (hF.keep _ l2 (hS _ (by simp))).trans h5⟩
 }
 {
 rintro pre K A ⟨K1, rfl, h1, h2, h3, h4, h5⟩ b hb'
 have l1 := (Array.getElem?_eq_some_iff.1 h4).1
 have l2 := (Array.getElem?_eq_some_iff.1 h5).1
 simp only [List.mem_cons] at hb'
 rcases hb' with rfl | rfl | hb'
 · omega
 · omega
 · exact hI.lt h1 b hb'
 }
 }
 refine ⟨L, [{ target := .collected D, args := #[] }], W1, { target := .fn (.func gf) lb, args := #[.func (.yield L) #[] #[]] }, W1, gf, #[.func (.yield L) #[] #[]] ++ lb, W1, ?_, ?_, ?_, ?_, fun _ => h1, ?_⟩
 · rw [hW1, hrc, hL, hD]; exact run_enterLoop_outer _ _ _ _ _
 {
 simp only [resolve, hg]
 simp [go_sem]
 }
 · intro f' hf'; simp [Target.leads] at hf'; subst hf'; exact hFg
 · simp [invoke, go_sem, eg]
 {
 have h0' : ∀ b ∈ K0, b < D := fun b hb => by rw [hD]; exact (hI.lt h0 b hb).2
 refine (hseq L J (L :: D :: K0) W1 hJ hF1 ⟨K0, rfl, hI.fr h0 hF1 (by simp), fun hm => by have := h0' _ hm; omega, fun hm => by have := h0' _ hm; omega, hL1, hD1⟩ (fun b hb' => by
   simp only [List.mem_cons] at hb'
   rcases hb' with rfl | rfl | hb'
   · exact .inr (by omega)
   · exact .inr (by omega)
   · exact .inl hb') ?_).mono ?_
 {
 rintro pre K x W ⟨K1, rfl, hi, n1, n2, hl, hd⟩ hN
 have l1 := (Array.getElem?_eq_some_iff.1 hl).1
 have l2 := (Array.getElem?_eq_some_iff.1 hd).1
 have hy := run_yield (P := P) (args := encs x) hl (by rw [hrc]; exact hps x)
 rw [hrc] at hy
 refine ⟨fn, _, assign, body, hy, roundIn_of_wpIn hfn (hassign _ x W _ ⟨_, run_beginRound hl (by rw [hrc]), ?_⟩)⟩
 have hF2 : Fr [L] W (W.putObj L (.loop { rc .ready none with state := .busy })) := (Fr.refl _ _).putObj _ _ (.inl (by simp))
 have hl2 : (W.putObj L (.loop { rc .ready none with state := .busy })).heap[L]? = some (.loop { rc .ready none with state := .busy }) := World.putObj_heap_same l1
 have hd2 : (W.putObj L (.loop { rc .ready none with state := .busy })).heap[D]? = some (.deferred (some [])) := (World.putObj_heap_other (by omega)).trans hd
 refine wpIn_mono (hbody _ pre K1 x _ (hI.fr hi hF2 (fun b hb hm => by simp at hm; subst hm; exact n1 hb)) hN) ?_
 rintro e a3 W3 ⟨rfl, K3, hi3, hF3, hk3⟩
 have s2 := hF2.size
 have l2a := (Array.getElem?_eq_some_iff.1 hl2).1
 have l2b := (Array.getElem?_eq_some_iff.1 hd2).1
 have n1' : L ∉ K3 := fun hm => (hk3 _ hm).elim n1 (fun h => Nat.lt_irrefl _ (Nat.lt_of_lt_of_le l2a h))
 have n2' : D ∉ K3 := fun hm => (hk3 _ hm).elim n2 (fun h => Nat.lt_irrefl _ (Nat.lt_of_lt_of_le l2b h))
 have hl3 : W3.heap[L]? = some (.loop { rc .ready none with state := .busy }) := (hF3.keep _ l2a n1).trans hl2
 have hd3 : W3.heap[D]? = some (.deferred (some [])) := (hF3.keep _ l2b n2).trans hd2
 have l3 := (Array.getElem?_eq_some_iff.1 hl3).1
 have hr := run_endRound (P := P) none hl3
 have hF4 : Fr [L] W3 (W3.putObj L (.loop { { rc .ready none with state := .busy } with state := if (none : Option Code).isNone then .ready else .done, pending := none })) := (Fr.refl _ _).putObj _ _ (.inl (by simp))
 refine ⟨_, _, hr, rfl, L :: D :: K3, ⟨K3, rfl, hI.fr hi3 hF4 (fun b hb hm => by simp at hm; subst hm; exact n1' hb), n1', n2', ?_, (World.putObj_heap_other (by omega)).trans hd3⟩, ?_, fun b hb' => ?_⟩
 · rw [World.putObj_heap_same l3, hrc]; rfl
 · refine ((hF2.mono (S' := L :: D :: K1) (by simp)).trans (hF3.mono (S' := L :: D :: K1) (by simp +contextual)) (fun b hb => .inl hb)).trans' (hF4.mono (by simp))
 {
 simp only [List.mem_cons] at hb' ⊢
 rcases hb' with rfl | rfl | hb'
 · exact .inl (.inl rfl)
 · exact .inl (.inr (.inl rfl))
 {
 rcases hk3 b hb' with h | h
 · exact .inl (.inr (.inr h))
 · exact .inr (Nat.le_trans s2 h)
 }
 }
 }
 {
 rintro e W2 ⟨⟨v, rfl⟩, xs, K, ⟨K1, rfl, hi, n1, n2, hl, hd⟩, ht⟩
 have l1 := (Array.getElem?_eq_some_iff.1 hl).1
 have hF2 : Fr [L] W2 (W2.putObj L (.loop { rc .ready none with state := .exhausted })) := (Fr.refl _ _).putObj _ _ (.inl (by simp))
 have hr := run_endLoop (P := P) hl (by rw [hrc]; simp)
 refine ⟨none, _, by rw [hrc] at hr ⊢; exact hr, hdone D xs K1 (L :: D :: K1) _ (by omega) (hI.fr hi hF2 (fun b hb hm => by simp at hm; subst hm; exact n1 hb)) (hT ht (hF2.mono (by simp))) (by simp) n2 (by simp +contextual) ((World.putObj_heap_other (by omega)).trans hd)⟩
 }
 }
end
end Go.Proofs.YtgmnemndjjmgkaaGreat
