/- The plain model of a window: indexes stay while the time goes on. -/
import Derived.Test.YtgmnemndjjmgkaaGreatB19
import Derived.Test.YtgmnemndjjmgkaaGreatB16
import Derived.Test.YtgmnemndjjmgkaaGreatB5
import Derived.Test.YtgmnemndjjmgkaaGreatB14
import Derived.Test.YtgmnemndjjmgkaaGreatB18
import Derived.Test.YtgmnemndjjmgkaaGreatB6
import Derived.Shelf.SlSortCmp.WholeK
import Derived.Shelf.Lay
import Derived.Ground.SlsfProg
import Derived.Test.YtgmnemndjjmgkaaGreatB7
set_option linter.unusedSimpArgs false
set_option linter.unusedVariables false
/- The schedule of expiries: New, Next, Copy. -/
namespace Go.Proofs.YtgmnemndjjmgkaaGreat
open Go.RowKit
set_option maxRecDepth 10000
set_option maxHeartbeats 800000

/-- A schedule: when each slot is due. -/
def SchAt (w : World) (px slots : Nat) (Q : Nat → Option Int) (n : Nat) (l : List Nat) : Prop := ∃ ph lh, Blk w px 160 [.int .i64 slots, hptr ph] ∧ HeapAt w ph slots Q n lh ∧ px ∉ lh ∧ l = px :: lh
section
variable {w w' : World} {px slots n : Nat} {Q : Nat → Option Int} {l S : List Nat}
theorem SchAt.fr (h : SchAt w px slots Q n l) (hf : Fr S w w') (hs : ∀ b ∈ l, b ∉ S) : SchAt w' px slots Q n l := by
  obtain ⟨ph, lh, h1, h2, h3, rfl⟩ := h
  exact ⟨ph, lh, hf.blk h1 (hs _ (by simp)), h2.fr hf (fun b hb => hs b (by simp [hb])), h3, rfl⟩
theorem SchAt.fr0 (h : SchAt w px slots Q n l) (hf : Fr [] w w') : SchAt w' px slots Q n l := h.fr hf (by simp)
theorem SchAt.lt (h : SchAt w px slots Q n l) : ∀ b ∈ l, b < w.heap.size := by
  obtain ⟨ph, lh, h1, h2, h3, rfl⟩ := h
  intro b hb
  rcases List.mem_cons.1 hb with rfl | hb
  · exact h1.lt
  · exact h2.lt b hb
theorem xnew_w (slots : Nat) (w : World) (hs : slots ≤ 65536) :
    Calls Tryz.prog 122 #[.int .i64 slots] w fun e w' => ∃ px, e = .returned (.tuple #[hptr px, .int .i64 0]) ∧ ∃ l, SchAt w' px slots (fun _ => none) 0 l ∧ Fr [] w w' ∧ ∀ b ∈ l, w.heap.size ≤ b := by
  have HN := Lib.hid (hnew_w slots w hs)
  go_enter Tryz.func122, Tryz.ntmps122
  go_wp2_with fail
  refine HN.out.mono ?_
  rintro _ w1 ⟨ph, rfl, lh, h1, h2, h3⟩
  have H1 := Lib.hid (And.intro h1 (And.intro h2 h3)); clear h1 h2 h3
  go_wp2
  go_ret2
  have hs1 := H1.out.2.1.size
  have hb := Blk.new w1 [.int .i64 slots, hptr ph] 160
  have hF : Fr [] w1 (w1.alloc (.cells #[.int .i64 slots, hptr ph] 160)) := (Fr.refl [] w1).alloc _
  refine ⟨w1.heap.size, rfl, _, ⟨ph, lh, hb, H1.out.1.fr hF (by simp), fun hm => by have := H1.out.1.lt _ hm; omega, rfl⟩, H1.out.2.1.trans' hF, fun b hb => ?_⟩
  rcases List.mem_cons.1 hb with rfl | hb
  · exact hs1
  · exact H1.out.2.2 b hb
theorem xvalid_w (h : SchAt w px slots Q n l) : Calls Tryz.prog 85 #[hptr px] w fun e w' => e = .returned (.bool true) ∧ w' = w := by
  obtain ⟨ph, lh, h1, h2, h3, rfl⟩ := h
  have c1 := h1.cell 1
  simp only [List.getElem?_cons_zero, List.getElem?_cons_succ] at c1
  clear h1 h2 h3
  go_enter Tryz.func85, Tryz.ntmps85
  go_wp2
  go_ret
  exact ⟨rfl, rfl⟩
theorem xnext_w (h : SchAt w px slots Q n l) :
    Calls Tryz.prog 110 #[hptr px] w fun r w' => Fr [] w w' ∧ ((n = 0 ∧ r = .returned (.tuple #[.agg #[.int .i64 0, .int .i64 0], .bool false])) ∨
      (0 < n ∧ ∃ i k, Q i = some k ∧ (∀ j x, Q j = some x → ¬ elt (j, x) (i, k)) ∧ r = .returned (.tuple #[.agg #[.int .i64 (i : Nat), .int .i64 k], .bool true]))) := by
  have hf0 : Fr [] w (w.alloc (.cells #[.int .i64 0, .int .i64 0] 136)) := (Fr.refl _ _).alloc _
  have HBX := Lib.hid (Blk.new w [.int .i64 0, .int .i64 0] 136)
  have HV := Lib.hid (xvalid_w (h.fr0 hf0))
  obtain ⟨ph, lh, h1, h2, h3, rfl⟩ := h
  have HM := Lib.hid (heap_min (h2.fr hf0 (by simp)))
  have c1 := (hf0.blk h1 (by simp)).cell 1
  simp only [List.getElem?_cons_zero, List.getElem?_cons_succ] at c1
  clear h1 h2 h3 hf0
  go_enter Tryz.func110, Tryz.ntmps110
  go_wp2_with fail
  refine HV.out.mono ?_
  rintro _ w0 ⟨rfl, rfl⟩
  go_wp2_with fail
  refine HM.out.mono ?_
  rintro r w1 ⟨f1, hr⟩
  have k1 := f1.blk HBX.out (by simp)
  have z0 := k1.frozen 0
  have z1 := k1.frozen 1
  have x0 := k1.cell 0
  have x1 := k1.cell 1
  simp only [List.getElem?_cons_zero, List.getElem?_cons_succ] at x0 x1
  have HF1 := Lib.hid f1
  have HK1 := Lib.hid k1; clear f1 k1 HV HM
  rcases hr with ⟨hn, rfl⟩ | ⟨hn, i, k, h1, h2, rfl⟩
  · have Hn := Lib.hid hn; clear hn
    go_wp2
    have hK := ((HK1.out.set 0 (.int .i64 0)).set 1 (.int .i64 0))
    have r0 := hK.cell 0
    have r1 := hK.cell 1
    simp only [List.set_cons_zero, List.set_cons_succ, List.getElem?_cons_zero, List.getElem?_cons_succ] at r0 r1
    refine bodyPost_ret (v := .tuple #[.agg #[.int .i64 0, .int .i64 0], .bool false]) (by simp [results, Tryz.results110, go_sem, r0, r1]) rfl ?_
    exact ⟨((((Fr.refl [] w).alloc _).trans' HF1.out).setCell _ _ (.inr (Nat.le_refl _))).setCell _ _ (.inr (Nat.le_refl _)), .inl ⟨Hn.out, rfl⟩⟩
  · have Hn := Lib.hid (And.intro hn (And.intro h1 h2)); clear hn h1 h2
    go_wp2
    have hK := ((HK1.out.set 0 (.int .i64 (i : Int))).set 1 (.int .i64 k))
    have r0 := hK.cell 0
    have r1 := hK.cell 1
    simp only [List.set_cons_zero, List.set_cons_succ, List.getElem?_cons_zero, List.getElem?_cons_succ] at r0 r1
    refine bodyPost_ret (v := .tuple #[.agg #[.int .i64 i, .int .i64 k], .bool true]) (by simp [results, Tryz.results110, go_sem, r0, r1]) rfl ?_
    exact ⟨((((Fr.refl [] w).alloc _).trans' HF1.out).setCell _ _ (.inr (Nat.le_refl _))).setCell _ _ (.inr (Nat.le_refl _)), .inr ⟨Hn.out.1, i, k, Hn.out.2.1, Hn.out.2.2, rfl⟩⟩
end
end Go.Proofs.YtgmnemndjjmgkaaGreat

/- The clock: its contracts. -/
namespace Go.Proofs.YtgmnemndjjmgkaaGreat
open Go.RowKit
set_option maxRecDepth 10000
set_option maxHeartbeats 800000

abbrev cptr (p : Nat) : Value := .pointer (some ⟨p, 0, none⟩)
/-- A sum that fits, or not. -/
def sumC (a b : Int) : Int := if a + b ≤ 9223372036854775807 then 0 else 7
def sumV (a b : Int) : Int := if a + b ≤ 9223372036854775807 then a + b else 0
theorem add_w (a b : Int) (ha : -9223372036854775808 ≤ a) (ha2 : a ≤ 9223372036854775807) (hb : 0 ≤ b) (hb2 : b ≤ 9223372036854775807) (w : World) :
    Calls Tryz.prog 154 #[.int .i64 a, .int .i64 b] w fun e w' => e = .returned (.tuple #[.int .i64 (sumV a b), .int .i64 (sumC a b)]) ∧ w' = w := by
  have d2 : decide (b < 0) = false := decide_eq_false (by omega)
  by_cases hs : a + b ≤ 9223372036854775807
  · have hw : IntKind.i64.wrap (a + b) = a + b := IntWalk.i64_in _ (by omega)
    have e1 : sumV a b = a + b := if_pos hs
    have e2 : sumC a b = 0 := if_pos hs
    rw [e1, e2]
    by_cases h0 : a < 0
    · have d1 : decide (a < 0) = true := decide_eq_true h0
      clear hs e1 e2
      go_enter Tryz.func154, Tryz.ntmps154
      go_wp2
      go_ret2
      exact ⟨rfl, rfl⟩
    · have d1 : decide (a < 0) = false := decide_eq_false h0
      have d3 : decide (a + b < 0) = false := decide_eq_false (by omega)
      clear hs e1 e2
      go_enter Tryz.func154, Tryz.ntmps154
      go_wp2
      go_ret2
      exact ⟨rfl, rfl⟩
  · have h0 : ¬ a < 0 := by omega
    have hw : IntKind.i64.wrap (a + b) = a + b - 18446744073709551616 := by simp [IntKind.wrap, IntKind.bits, IntKind.signed]; omega
    have d1 : decide (a < 0) = false := decide_eq_false h0
    have d3 : decide (a + b - 18446744073709551616 < 0) = true := decide_eq_true (by omega)
    have e1 : sumV a b = 0 := if_neg hs
    have e2 : sumC a b = 7 := if_neg hs
    rw [e1, e2]
    clear hs e1 e2
    go_enter Tryz.func154, Tryz.ntmps154
    go_wp2
    go_ret2
    exact ⟨rfl, rfl⟩

/-- A clock: its window, and its time. -/
structure Clk (w : World) (pc : Nat) (m now : Int) : Prop where
  hd : Blk w pc 131 [.int .i64 m, .int .i64 now]
  m1 : 1 ≤ m
  m2 : m ≤ 9223372036854775807
  n0 : 0 ≤ now
  n1 : now + m ≤ 9223372036854775807
section
variable {w w' : World} {pc : Nat} {m now : Int}
theorem Clk.fr {S : List Nat} (h : Clk w pc m now) (hf : Fr S w w') (hs : pc ∉ S) : Clk w' pc m now := ⟨hf.blk h.hd hs, h.m1, h.m2, h.n0, h.n1⟩
theorem Clk.fr0 (h : Clk w pc m now) (hf : Fr [] w w') : Clk w' pc m now := h.fr hf (by simp)
theorem cnew_w (m : Int) (h1 : 1 ≤ m) (h2 : m ≤ 9223372036854775807) (w : World) : Calls Tryz.prog 120 #[.int .i64 m] w fun e w' => ∃ pc, e = .returned (.tuple #[cptr pc, .int .i64 0]) ∧ Clk w' pc m 0 ∧ Fr [] w w' ∧ pc = w.heap.size := by
  have d1 : decide (m < 1) = false := decide_eq_false (by omega)
  go_enter Tryz.func120, Tryz.ntmps120
  go_wp2
  go_ret2
  exact ⟨w.heap.size, rfl, ⟨Blk.new w [.int .i64 m, .int .i64 0] _, h1, h2, Int.le_refl _, by omega⟩, (Fr.refl [] w).alloc _, rfl⟩
theorem cvalid_w (h : Clk w pc m now) : Calls Tryz.prog 84 #[cptr pc] w fun e w' => e = .returned (.bool true) ∧ w' = w := by
  have c0 := h.hd.cell 0
  simp only [List.getElem?_cons_zero] at c0
  have d1 : decide (m ≥ 1) = true := decide_eq_true h.m1
  clear h
  go_enter Tryz.func84, Tryz.ntmps84
  go_wp2
  go_ret
  exact ⟨rfl, rfl⟩
theorem cnow_w (h : Clk w pc m now) : Calls Tryz.prog 42 #[cptr pc] w fun e w' => e = .returned (.int .i64 now) ∧ w' = w := by
  have HV := Lib.hid (cvalid_w h)
  have c1 := h.hd.cell 1
  simp only [List.getElem?_cons_zero, List.getElem?_cons_succ] at c1
  clear h
  go_enter Tryz.func42, Tryz.ntmps42
  go_wp2_with fail
  refine HV.out.mono ?_
  rintro _ w ⟨rfl, rfl⟩
  go_wp2
  go_ret
  exact ⟨rfl, rfl⟩
theorem after_w (h1 : 1 ≤ m) (h2 : m ≤ 9223372036854775807) (t : Int) (ht : -9223372036854775808 ≤ t) (ht2 : t ≤ 9223372036854775807) (w : World) : Calls Tryz.prog 109 #[.int .i64 m, .int .i64 t] w fun e w' => e = .returned (.tuple #[.int .i64 (sumV t m), .int .i64 (sumC t m)]) ∧ w' = w := by
  have HA := Lib.hid (add_w t m ht ht2 (by omega) h2 w)
  clear h1 h2 ht ht2
  go_enter Tryz.func109, Tryz.ntmps109
  go_wp2_with fail
  refine HA.out.mono ?_
  rintro _ w ⟨rfl, rfl⟩
  go_wp2
  go_ret2
  exact ⟨rfl, rfl⟩
/-- What Check answers. -/
def chkT (m now t : Int) : Int := if t < now then 10 else sumC t m
theorem ccheck_w (h : Clk w pc m now) (t : Int) (ht : -9223372036854775808 ≤ t) (ht2 : t ≤ 9223372036854775807) : Calls Tryz.prog 55 #[cptr pc, .int .i64 t] w fun e w' => e = .returned (.int .i64 (chkT m now t)) ∧ w' = w := by
  have HV := Lib.hid (cvalid_w h)
  have HA := Lib.hid (after_w h.m1 h.m2 t ht ht2 w)
  have c0 := h.hd.cell 0
  have c1 := h.hd.cell 1
  simp only [List.getElem?_cons_zero, List.getElem?_cons_succ] at c0 c1
  clear h
  unfold chkT
  by_cases hlt : t < now
  · have d1 : decide (t < now) = true := decide_eq_true hlt
    rw [if_pos hlt]
    clear hlt
    go_enter Tryz.func55, Tryz.ntmps55
    go_wp2_with fail
    refine HV.out.mono ?_
    rintro _ w ⟨rfl, rfl⟩
    go_wp2
    go_ret
    exact ⟨rfl, rfl⟩
  · have d1 : decide (t < now) = false := decide_eq_false hlt
    rw [if_neg hlt]
    clear hlt
    generalize sumC t m = cc at *
    generalize sumV t m = vv at *
    go_enter Tryz.func55, Tryz.ntmps55
    go_wp2_with fail
    refine HV.out.mono ?_
    rintro _ w ⟨rfl, rfl⟩
    go_wp2_with fail
    refine HA.out.mono ?_
    rintro _ w ⟨rfl, rfl⟩
    go_wp2
    go_ret
    exact ⟨rfl, rfl⟩
theorem chkT_ok {m now t : Int} (hc : chkT m now t = 0) : now ≤ t ∧ t + m ≤ 9223372036854775807 := by
  unfold chkT sumC at hc
  split at hc
  · cases hc
  · split at hc
    · omega
    · cases hc
theorem cadv_yes (h : Clk w pc m now) (t : Int) (ht : -9223372036854775808 ≤ t) (ht2 : t ≤ 9223372036854775807) (hc : chkT m now t = 0) : Calls Tryz.prog 43 #[cptr pc, .int .i64 t] w fun e w' => e = .returned (.int .i64 0) ∧ Clk w' pc m t ∧ Fr [pc] w w' := by
  have hC := ccheck_w h t ht ht2
  have hk := chkT_ok hc
  rw [hc] at hC
  have HC := Lib.hid hC; clear hC
  have c1 := h.hd.cell 1
  have f1 := h.hd.frozen 1
  simp only [List.getElem?_cons_zero, List.getElem?_cons_succ] at c1
  have HR := Lib.hid (show Clk (w.setCell ⟨pc, 1, none⟩ (.int .i64 t)) pc m t from ⟨h.hd.set 1 _, h.m1, h.m2, by have := h.n0; omega, hk.2⟩)
  clear h hc hk
  go_enter Tryz.func43, Tryz.ntmps43
  go_wp2_with fail
  refine HC.out.mono ?_
  rintro _ w ⟨rfl, rfl⟩
  go_wp2
  go_ret
  exact ⟨rfl, HR.out, (Fr.refl _ _).setCell _ _ (.inl (by simp))⟩
theorem cexp_w (h : Clk w pc m now) (t : Int) (ht : -9223372036854775808 ≤ t) (ht2 : t ≤ 9223372036854775807) : Calls Tryz.prog 111 #[cptr pc, .int .i64 t] w fun e w' => e = .returned (.tuple #[.int .i64 (sumV t m), .int .i64 (sumC t m)]) ∧ w' = w := by
  have HV := Lib.hid (cvalid_w h)
  have HA := Lib.hid (after_w h.m1 h.m2 t ht ht2 w)
  have c0 := h.hd.cell 0
  simp only [List.getElem?_cons_zero] at c0
  clear h
  generalize sumC t m = cc at *
  generalize sumV t m = vv at *
  go_enter Tryz.func111, Tryz.ntmps111
  go_wp2_with fail
  refine HV.out.mono ?_
  rintro _ w ⟨rfl, rfl⟩
  go_wp2_with fail
  refine HA.out.mono ?_
  rintro _ w ⟨rfl, rfl⟩
  go_wp2
  go_ret2
  exact ⟨rfl, rfl⟩
end
end Go.Proofs.YtgmnemndjjmgkaaGreat

/- A window in memory. -/
namespace Go.Proofs.YtgmnemndjjmgkaaGreat
open Go.RowKit
set_option maxRecDepth 10000
set_option maxHeartbeats 800000

/-- The parts of a window, which need not fit together. -/
structure Wp where
  m : Int
  E : Nat
  V : Nat
  D : Int
  now : Int
  s : Sm
  Q : Nat → Option Int
  nq : Nat
  G : Nat → Option (Nat × Nat × Int)
  added : Nat
  gone : Nat
def winK (pw pc : Nat) (Ks lx Lf : List Nat) : List Nat := pw :: pc :: (Ks ++ (lx ++ Lf))
structure WinB (w : World) (pw pc ps px pf : Nat) (P : Wp) (Ks lx Lf : List Nat) (cl : Nat → Nat) : Prop where
  hd : Blk w pw 83 [.int .i64 P.m, .int .i64 P.E, .int .i64 P.V, .int .i64 P.D, cptr pc, sptr ps, hptr px, fptr pf, .int .u64 P.added, .int .u64 P.gone]
  clk : Clk w pc P.m P.now
  st : StoreAt w ps P.s Ks
  sch : SchAt w px P.E P.Q P.nq lx
  fo : FAt w pf P.E P.V P.G Lf
  kw : cl pw = 0
  kc : cl pc = 1
  ks : ∀ q ∈ Ks, cl q = 2
  kx : ∀ q ∈ lx, cl q = 3
  kf : ∀ q ∈ Lf, cl q = 4
section
variable {w w' : World} {pw pc ps px pf : Nat} {P : Wp} {Ks Ks' lx lx' Lf Lf' S : List Nat} {cl : Nat → Nat}
theorem WinB.fr (h : WinB w pw pc ps px pf P Ks lx Lf cl) (hf : Fr S w w') (hs : ∀ q ∈ winK pw pc Ks lx Lf, q ∉ S) : WinB w' pw pc ps px pf P Ks lx Lf cl :=
  ⟨hf.blk h.hd (hs _ (by simp [winK])), h.clk.fr hf (hs _ (by simp [winK])), h.st.fr hf (fun q hq => hs q (by simp [winK, hq])), h.sch.fr hf (fun q hq => hs q (by simp [winK, hq])), h.fo.fr hf (fun q hq => hs q (by simp [winK, hq])), h.kw, h.kc, h.ks, h.kx, h.kf⟩
theorem WinB.fr0 (h : WinB w pw pc ps px pf P Ks lx Lf cl) (hf : Fr [] w w') : WinB w' pw pc ps px pf P Ks lx Lf cl := h.fr hf (by simp)
theorem WinB.lt (h : WinB w pw pc ps px pf P Ks lx Lf cl) : ∀ q ∈ winK pw pc Ks lx Lf, q < w.heap.size := by
  intro q hq
  simp only [winK, List.mem_cons, List.mem_append] at hq
  rcases hq with rfl | rfl | hq | hq | hq
  · exact h.hd.lt
  · exact h.clk.hd.lt
  · exact h.st.lt q hq
  · exact h.sch.lt q hq
  · exact h.fo.lt q hq
/-- Classes for what is new. -/
theorem cl_new {k n : Nat} {cl : Nat → Nat} {q j : Nat} (h1 : q < n) (h2 : cl q = j) : (if q < n then cl q else k) = j := by rw [if_pos h1]; exact h2
theorem cl_part {A A' : List Nat} {n k : Nat} {cl : Nat → Nat} (h : ∀ q ∈ A, cl q = k) (hl : ∀ q ∈ A, q < n) (hq : ∀ q ∈ A', q ∈ A ∨ n ≤ q) : ∀ q ∈ A', (if q < n then cl q else k) = k := by
  intro q hm
  rcases hq q hm with e | e
  · exact cl_new (hl q e) (h q e)
  · rw [if_neg (by omega)]
theorem WinB.setSt (h : WinB w pw pc ps px pf P Ks lx Lf cl) {s' : Sm} (hs : StoreAt w' ps s' Ks') (hF : Fr Ks w w') (hq : ∀ q ∈ Ks', q ∈ Ks ∨ w.heap.size ≤ q) : ∃ cl', WinB w' pw pc ps px pf { P with s := s' } Ks' lx Lf cl' := by
  refine ⟨fun q => if q < w.heap.size then cl q else 2, hF.blk h.hd (fun hm => by have := h.ks _ hm; have := h.kw; omega), h.clk.fr hF (fun hm => by have := h.ks _ hm; have := h.kc; omega), hs, h.sch.fr hF (fun q hq hm => by have := h.ks _ hm; have := h.kx q hq; omega), h.fo.fr hF (fun q hq hm => by have := h.ks _ hm; have := h.kf q hq; omega),
    cl_new h.hd.lt h.kw, cl_new h.clk.hd.lt h.kc, cl_part h.ks (fun q hq => h.st.lt q hq) hq, fun q hq => cl_new (h.sch.lt q hq) (h.kx q hq), fun q hq => cl_new (h.fo.lt q hq) (h.kf q hq)⟩
theorem WinB.setSch (h : WinB w pw pc ps px pf P Ks lx Lf cl) {Q' : Nat → Option Int} {nq' : Nat} (hs : SchAt w' px P.E Q' nq' lx') (hF : Fr lx w w') (hq : ∀ q ∈ lx', q ∈ lx ∨ w.heap.size ≤ q) : ∃ cl', WinB w' pw pc ps px pf { P with Q := Q', nq := nq' } Ks lx' Lf cl' := by
  refine ⟨fun q => if q < w.heap.size then cl q else 3, hF.blk h.hd (fun hm => by have := h.kx _ hm; have := h.kw; omega), h.clk.fr hF (fun hm => by have := h.kx _ hm; have := h.kc; omega), h.st.fr hF (fun q hq hm => by have := h.kx _ hm; have := h.ks q hq; omega), hs, h.fo.fr hF (fun q hq hm => by have := h.kx _ hm; have := h.kf q hq; omega),
    cl_new h.hd.lt h.kw, cl_new h.clk.hd.lt h.kc, fun q hq => cl_new (h.st.lt q hq) (h.ks q hq), cl_part h.kx (fun q hq => h.sch.lt q hq) hq, fun q hq => cl_new (h.fo.lt q hq) (h.kf q hq)⟩
theorem WinB.setFo (h : WinB w pw pc ps px pf P Ks lx Lf cl) {G' : Nat → Option (Nat × Nat × Int)} (hs : FAt w' pf P.E P.V G' Lf') (hF : Fr Lf w w') (hq : ∀ q ∈ Lf', q ∈ Lf ∨ w.heap.size ≤ q) : ∃ cl', WinB w' pw pc ps px pf { P with G := G' } Ks lx Lf' cl' := by
  refine ⟨fun q => if q < w.heap.size then cl q else 4, hF.blk h.hd (fun hm => by have := h.kf _ hm; have := h.kw; omega), h.clk.fr hF (fun hm => by have := h.kf _ hm; have := h.kc; omega), h.st.fr hF (fun q hq hm => by have := h.kf _ hm; have := h.ks q hq; omega), h.sch.fr hF (fun q hq hm => by have := h.kf _ hm; have := h.kx q hq; omega), hs,
    cl_new h.hd.lt h.kw, cl_new h.clk.hd.lt h.kc, fun q hq => cl_new (h.st.lt q hq) (h.ks q hq), fun q hq => cl_new (h.sch.lt q hq) (h.kx q hq), cl_part h.kf (fun q hq => h.fo.lt q hq) hq⟩
theorem WinB.setClk (h : WinB w pw pc ps px pf P Ks lx Lf cl) {now' : Int} (hs : Clk w' pc P.m now') (hF : Fr [pc] w w') : WinB w' pw pc ps px pf { P with now := now' } Ks lx Lf cl := by
  have hp : ∀ q, q ∈ [pc] → q = pc := fun q hq => by simpa using hq
  exact ⟨hF.blk h.hd (fun hm => by have := hp _ hm; have := h.kw; have := h.kc; subst_vars; omega), hs, h.st.fr hF (fun q hq hm => by have e := hp _ hm; have := h.ks q hq; have := h.kc; rw [e] at *; omega), h.sch.fr hF (fun q hq hm => by have e := hp _ hm; have := h.kx q hq; have := h.kc; rw [e] at *; omega), h.fo.fr hF (fun q hq hm => by have e := hp _ hm; have := h.kf q hq; have := h.kc; rw [e] at *; omega), h.kw, h.kc, h.ks, h.kx, h.kf⟩
/-- The numbers of the window's own block. -/
theorem WinB.setN (h : WinB w pw pc ps px pf P Ks lx Lf cl) (hF : Fr [pw] w w') {a g : Nat} (hb : Blk w' pw 83 [.int .i64 P.m, .int .i64 P.E, .int .i64 P.V, .int .i64 P.D, cptr pc, sptr ps, hptr px, fptr pf, .int .u64 a, .int .u64 g]) : WinB w' pw pc ps px pf { P with added := a, gone := g } Ks lx Lf cl := by
  have hp : ∀ q, q ∈ [pw] → q = pw := fun q hq => by simpa using hq
  exact ⟨hb, h.clk.fr hF (fun hm => by have e := hp _ hm; have := h.kc; have := h.kw; rw [e] at *; omega), h.st.fr hF (fun q hq hm => by have e := hp _ hm; have := h.ks q hq; have := h.kw; rw [e] at *; omega), h.sch.fr hF (fun q hq hm => by have e := hp _ hm; have := h.kx q hq; have := h.kw; rw [e] at *; omega), h.fo.fr hF (fun q hq hm => by have e := hp _ hm; have := h.kf q hq; have := h.kw; rw [e] at *; omega), h.kw, h.kc, h.ks, h.kx, h.kf⟩
end
/-- The parts of a model. -/
def Wm.wp (W : Wm) (nq : Nat) : Wp := { m := W.m, E := W.E, V := W.V, D := W.D, now := W.now, s := W.s, Q := W.Q, nq := nq, G := W.G, added := W.s.last, gone := W.gone }
def WinAt (w : World) (pw : Nat) (W : Wm) (K : List Nat) : Prop := W.Ok ∧ ∃ pc ps px pf nq Ks lx Lf cl, WinB w pw pc ps px pf (W.wp nq) Ks lx Lf cl ∧ K = winK pw pc Ks lx Lf
section
variable {w w' : World} {pw : Nat} {W : Wm} {K S : List Nat}
theorem WinAt.fr (h : WinAt w pw W K) (hf : Fr S w w') (hs : ∀ q ∈ K, q ∉ S) : WinAt w' pw W K := by
  obtain ⟨h0, pc, ps, px, pf, nq, Ks, lx, Lf, cl, h, rfl⟩ := h
  exact ⟨h0, pc, ps, px, pf, nq, Ks, lx, Lf, cl, h.fr hf hs, rfl⟩
theorem WinAt.fr0 (h : WinAt w pw W K) (hf : Fr [] w w') : WinAt w' pw W K := h.fr hf (by simp)
theorem WinAt.lt (h : WinAt w pw W K) : ∀ q ∈ K, q < w.heap.size := by
  obtain ⟨h0, pc, ps, px, pf, nq, Ks, lx, Lf, cl, h, rfl⟩ := h; exact h.lt
end
end Go.Proofs.YtgmnemndjjmgkaaGreat

/- slices.SortFunc of edges by their sequence numbers. -/
namespace Go.Proofs.YtgmnemndjjmgkaaGreat
open Go.RowKit Go.Lib Go.Sort
set_option maxRecDepth 10000
set_option maxHeartbeats 1000000

instance : Inhabited Lv := ⟨Lv.z⟩
end Go.Proofs.YtgmnemndjjmgkaaGreat

/- store: List. -/
namespace Go.Proofs.YtgmnemndjjmgkaaGreat
open Go.RowKit
set_option maxRecDepth 10000
set_option maxHeartbeats 1000000

section
variable {w w' : World} {ps : Nat} {s : Sm} {K : List Nat}
end
end Go.Proofs.YtgmnemndjjmgkaaGreat

/- A window: what it is asked. -/
namespace Go.Proofs.YtgmnemndjjmgkaaGreat
open Go.RowKit
set_option maxRecDepth 10000
set_option maxHeartbeats 800000

abbrev wptr (p : Nat) : Value := .pointer (some ⟨p, 0, none⟩)
section
variable {w w' : World} {pw pc ps px pf : Nat} {P : Wp} {Ks lx Lf : List Nat} {cl : Nat → Nat}
theorem wvalid_w (h : WinB w pw pc ps px pf P Ks lx Lf cl) : Calls Tryz.prog 41 #[wptr pw] w fun e w' => e = .returned (.bool true) ∧ w' = w := by
  have c4 := h.hd.cell 4
  simp only [List.getElem?_cons_zero, List.getElem?_cons_succ] at c4
  clear h
  go_enter Tryz.func41, Tryz.ntmps41
  go_wp2
  go_ret
  exact ⟨rfl, rfl⟩
theorem wnow_w (h : WinB w pw pc ps px pf P Ks lx Lf cl) : Calls Tryz.prog 16 #[wptr pw] w fun e w' => e = .returned (.int .i64 P.now) ∧ w' = w := by
  have HV := Lib.hid (wvalid_w h)
  have HN := Lib.hid (cnow_w h.clk)
  have c4 := h.hd.cell 4
  simp only [List.getElem?_cons_zero, List.getElem?_cons_succ] at c4
  clear h
  go_enter Tryz.func16, Tryz.ntmps16
  go_wp2_with fail
  refine HV.out.mono ?_
  rintro _ w ⟨rfl, rfl⟩
  go_wp2_with fail
  refine HN.out.mono ?_
  rintro _ w ⟨rfl, rfl⟩
  go_wp2
  go_ret
  exact ⟨rfl, rfl⟩
/-- Where two ids are. -/
def endsC (s : Sm) (u v : Nat) : Int := if (s.M.find u).isSome = true ∧ (s.M.find v).isSome = true then 0 else 13
def endsI (s : Sm) (u v : Nat) : Nat := if (s.M.find u).isSome = true ∧ (s.M.find v).isSome = true then (s.M.find u).getD 0 else 0
theorem wends_w (h : WinB w pw pc ps px pf P Ks lx Lf cl) (u v : Nat) (hu : u < 18446744073709551616) (hv : v < 18446744073709551616) :
    Calls Tryz.prog 38 #[wptr pw, .int .u64 u, .int .u64 v] w fun e w' => e = .returned (.tuple #[.int .i64 (endsI P.s u v), .int .i64 (endsI P.s v u), .int .i64 (endsC P.s u v)]) ∧ Fr [] w w' := by
  have HV := Lib.hid (wvalid_w h)
  have HU := Lib.hid (st_index h.st u hu)
  have HW := Lib.hid (fun (w' : World) (hf : Fr [] w w') => st_index (h.st.fr0 hf) v hv)
  have c5 := h.hd.cell 5
  simp only [List.getElem?_cons_zero, List.getElem?_cons_succ] at c5
  clear h
  unfold endsI endsC
  generalize hi : (P.s.M.find u).isSome = iu at *
  generalize hj : (P.s.M.find v).isSome = iv at *
  generalize (P.s.M.find u).getD 0 = a at *
  generalize (P.s.M.find v).getD 0 = b at *
  clear hi hj
  go_enter Tryz.func38, Tryz.ntmps38
  go_wp2_with fail
  refine HV.out.mono ?_
  rintro _ w ⟨rfl, rfl⟩
  go_wp2_with fail
  refine HU.out.mono ?_
  rintro _ w1 ⟨rfl, hF1⟩
  have c5 := hF1.cell c5 (by simp)
  have HW1 := Lib.hid (HW.out w1 hF1)
  have HF1 := Lib.hid hF1; clear hF1 HW HU HV
  go_wp2_with fail
  refine HW1.out.mono ?_
  rintro _ w2 ⟨rfl, hF2⟩
  have HF2 := Lib.hid (HF1.out.trans' hF2); clear hF2 HF1 HW1 c5
  cases iu <;> cases iv
  all_goals
    go_wp2
    go_ret3
    exact ⟨rfl, HF2.out⟩
end
end Go.Proofs.YtgmnemndjjmgkaaGreat

/- A window: what it asks its forest. -/
namespace Go.Proofs.YtgmnemndjjmgkaaGreat
open Go.RowKit
set_option maxRecDepth 10000
set_option maxHeartbeats 800000

section
variable {w w' : World} {pf S V : Nat} {G : EMap} {L : List Nat}
/-- A forest in a world that began empty. -/
theorem FAt.fo (h : FAt w pf S V G L) : FO { w with heap := #[] } w pf S V G L :=
  ⟨h, ⟨rfl, rfl, rfl, Nat.zero_le _, fun b hb => absurd hb (Nat.not_lt_zero _)⟩, fun q _ => Nat.zero_le _⟩
/-- A forest that has moved on. -/
def FMv (w w' : World) (pf S V : Nat) (G : EMap) (L : List Nat) : Prop := ∃ L', FAt w' pf S V G L' ∧ Fr L w w' ∧ ∀ q ∈ L', q ∈ L ∨ w.heap.size ≤ q
theorem FM.mv {w0 : World} {G' : EMap} (h : FM w0 w w' pf S V G' L) : FMv w w' pf S V G' L := by
  obtain ⟨L', h1, h2, h3⟩ := h; exact ⟨L', h1.f, h2, h3⟩
theorem fa_add (h : FAt w pf S V G L) (s a b x : Int) (hx : -9223372036854775808 ≤ x ∧ x ≤ 9223372036854775807) :
    Calls Tryz.prog 114 #[fptr pf, .int .i64 s, .int .i64 a, .int .i64 b, .int .i64 x] w fun e w' => e = .returned (.int .i64 (addCode S V G s a b)) ∧ FMv w w' pf S V (addG S V G s a b x) L :=
  (fo_add h.fo s a b x hx).mono fun _ _ h => ⟨h.1, h.2.mv⟩
theorem fa_exp (h : FAt w pf S V G L) : Calls Tryz.prog 45 #[fptr pf] w fun e w' => e = .returned (.tuple #[.int .i64 ((fstG G).getD 0 : Nat), .bool (fstG G).isSome]) ∧ FMv w w' pf S V (popG G) L :=
  (fo_exp h.fo).mono fun _ _ h => ⟨h.1, h.2.mv⟩
theorem fa_conn (h : FAt w pf S V G L) (a b : Int) : Calls Tryz.prog 40 #[fptr pf, .int .i64 a, .int .i64 b] w fun e w' => e = .returned (.bool (connG V G a b)) ∧ FMv w w' pf S V G L :=
  (fo_conn h.fo a b).mono fun _ _ h => ⟨h.1, h.2.mv⟩
theorem fa_until (h : FAt w pf S V G L) (a b : Int) : Calls Tryz.prog 39 #[fptr pf, .int .i64 a, .int .i64 b] w fun e w' => e = .returned (.tuple #[.int .i64 (untilV V G a b), .bool (untilB V G a b)]) ∧ FMv w w' pf S V G L :=
  (fo_until h.fo a b).mono fun _ _ h => ⟨h.1, h.2.mv⟩
theorem fa_count (h : FAt w pf S V G L) : Calls Tryz.prog 49 #[fptr pf] w fun e w' => e = .returned (.int .i64 (compG V G)) ∧ Fr [] w w' :=
  (fo_count h.fo).mono fun _ _ h => ⟨h.1, h.2.2⟩
end
/-- The window has moved on within its forest. -/
def WMv (w w' : World) (pw pc ps px pf : Nat) (P : Wp) (Ks lx Lf : List Nat) : Prop := ∃ Lf' cl', WinB w' pw pc ps px pf P Ks lx Lf' cl' ∧ Fr Lf w w' ∧ ∀ q ∈ Lf', q ∈ Lf ∨ w.heap.size ≤ q
section
variable {w w' : World} {pw pc ps px pf : Nat} {P : Wp} {Ks lx Lf : List Nat} {cl : Nat → Nat}
theorem WinB.mv (h : WinB w pw pc ps px pf P Ks lx Lf cl) {w1 : World} (hF : Fr [] w w1) (hm : FMv w1 w' pf P.E P.V P.G Lf) : WMv w w' pw pc ps px pf P Ks lx Lf := by
  obtain ⟨L', h1, h2, h3⟩ := hm
  have hs := hF.size
  obtain ⟨cl', h4⟩ := (h.fr0 hF).setFo h1 h2 h3
  exact ⟨L', cl', h4, (hF.mono (by simp)).trans' h2, fun q hq => (h3 q hq).imp id (fun e => by omega)⟩
theorem WinB.mv0 (h : WinB w pw pc ps px pf P Ks lx Lf cl) (hF : Fr [] w w') : WMv w w' pw pc ps px pf P Ks lx Lf := ⟨Lf, cl, h.fr0 hF, hF.mono (by simp), fun _ hq => .inl hq⟩
noncomputable def wconnB (P : Wp) (u v : Nat) : Bool := if endsC P.s u v = 0 then connG P.V P.G (endsI P.s u v) (endsI P.s v u) else false
theorem wconn_w (h : WinB w pw pc ps px pf P Ks lx Lf cl) (u v : Nat) (hu : u < 18446744073709551616) (hv : v < 18446744073709551616) :
    Calls Tryz.prog 15 #[wptr pw, .int .u64 u, .int .u64 v] w fun e w' => e = .returned (.tuple #[.bool (wconnB P u v), .int .i64 (endsC P.s u v)]) ∧ WMv w w' pw pc ps px pf P Ks lx Lf := by
  have HE := Lib.hid (wends_w h u v hu hv)
  have HB := Lib.hid h
  have HC := Lib.hid (fun (w' : World) (hf : Fr [] w w') => fa_conn (h.fo.fr hf (by simp)) (endsI P.s u v) (endsI P.s v u))
  have c7 := h.hd.cell 7
  simp only [List.getElem?_cons_zero, List.getElem?_cons_succ] at c7
  clear h
  unfold wconnB
  by_cases hc : endsC P.s u v = 0
  · rw [if_pos hc, hc] 
    rw [hc] at HE
    generalize connG P.V P.G (endsI P.s u v) (endsI P.s v u) = bb at *
    generalize endsI P.s u v = a at *
    generalize endsI P.s v u = b at *
    clear hc
    go_enter Tryz.func15, Tryz.ntmps15
    go_wp2_with fail
    refine HE.out.mono ?_
    rintro _ w1 ⟨rfl, hF1⟩
    have c7 := hF1.cell c7 (by simp)
    have HC1 := Lib.hid (HC.out w1 hF1)
    have HF1 := Lib.hid hF1; clear hF1 HC HE
    go_wp2_with fail
    refine HC1.out.mono ?_
    rintro _ w2 ⟨rfl, hM⟩
    have HM := Lib.hid (HB.out.mv HF1.out hM); clear hM
    go_wp2
    go_ret2
    exact ⟨rfl, HM.out⟩
  · rw [if_neg hc]
    generalize endsC P.s u v = cc at *
    generalize endsI P.s u v = a at *
    generalize endsI P.s v u = b at *
    have d1 : (cc != 0) = true := by simp [hc]
    clear hc HC
    go_enter Tryz.func15, Tryz.ntmps15
    go_wp2_with fail
    refine HE.out.mono ?_
    rintro _ w1 ⟨rfl, hF1⟩
    have HF1 := Lib.hid hF1; clear hF1 HE
    go_wp2
    go_ret2
    exact ⟨rfl, HB.out.mv0 HF1.out⟩
noncomputable def wuntB (P : Wp) (u v : Nat) : Bool := if endsC P.s u v = 0 then untilB P.V P.G (endsI P.s u v) (endsI P.s v u) else false
noncomputable def wuntV (P : Wp) (u v : Nat) : Int := if endsC P.s u v = 0 then untilV P.V P.G (endsI P.s u v) (endsI P.s v u) else 0
theorem wuntil_w (h : WinB w pw pc ps px pf P Ks lx Lf cl) (u v : Nat) (hu : u < 18446744073709551616) (hv : v < 18446744073709551616) :
    Calls Tryz.prog 14 #[wptr pw, .int .u64 u, .int .u64 v] w fun e w' => e = .returned (.tuple #[.int .i64 (wuntV P u v), .bool (wuntB P u v), .int .i64 (endsC P.s u v)]) ∧ WMv w w' pw pc ps px pf P Ks lx Lf := by
  have HE := Lib.hid (wends_w h u v hu hv)
  have HB := Lib.hid h
  have HC := Lib.hid (fun (w' : World) (hf : Fr [] w w') => fa_until (h.fo.fr hf (by simp)) (endsI P.s u v) (endsI P.s v u))
  have c7 := h.hd.cell 7
  simp only [List.getElem?_cons_zero, List.getElem?_cons_succ] at c7
  clear h
  unfold wuntB wuntV
  by_cases hc : endsC P.s u v = 0
  · rw [if_pos hc, if_pos hc, hc]
    rw [hc] at HE
    generalize untilB P.V P.G (endsI P.s u v) (endsI P.s v u) = bb at *
    generalize untilV P.V P.G (endsI P.s u v) (endsI P.s v u) = tt at *
    generalize endsI P.s u v = a at *
    generalize endsI P.s v u = b at *
    clear hc
    go_enter Tryz.func14, Tryz.ntmps14
    go_wp2_with fail
    refine HE.out.mono ?_
    rintro _ w1 ⟨rfl, hF1⟩
    have c7 := hF1.cell c7 (by simp)
    have HC1 := Lib.hid (HC.out w1 hF1)
    have HF1 := Lib.hid hF1; clear hF1 HC HE
    go_wp2_with fail
    refine HC1.out.mono ?_
    rintro _ w2 ⟨rfl, hM⟩
    have HM := Lib.hid (HB.out.mv HF1.out hM); clear hM
    go_wp2
    go_ret3
    exact ⟨rfl, HM.out⟩
  · rw [if_neg hc, if_neg hc]
    generalize endsC P.s u v = cc at *
    generalize endsI P.s u v = a at *
    generalize endsI P.s v u = b at *
    have d1 : (cc != 0) = true := by simp [hc]
    clear hc HC
    go_enter Tryz.func14, Tryz.ntmps14
    go_wp2_with fail
    refine HE.out.mono ?_
    rintro _ w1 ⟨rfl, hF1⟩
    have HF1 := Lib.hid hF1; clear hF1 HE
    go_wp2
    go_ret3
    exact ⟨rfl, HB.out.mv0 HF1.out⟩
end
end Go.Proofs.YtgmnemndjjmgkaaGreat

/- The schedule of expiries: a slot that is not scheduled is scheduled; a copy. -/
namespace Go.Proofs.YtgmnemndjjmgkaaGreat
open Go.RowKit
set_option maxRecDepth 10000
set_option maxHeartbeats 800000

section
variable {w w' : World} {ph px slots n : Nat} {Q : Nat → Option Int} {l S : List Nat}
theorem hfind_no (h : HeapAt w ph slots Q n l) {i : Nat} (hi : i < slots) (hQ : Q i = none) :
    Calls Tryz.prog 194 #[hptr ph, .int .i64 i] w fun e w' => e = .returned (.tuple #[.int .i64 0, .int .i64 5]) ∧ w' = w := by
  obtain ⟨e, pl, v, gp, cp, bs, hm, hk, hp, hq, rfl⟩ := h
  have hpl : pl i = 0 := by
    apply Classical.byContradiction
    intro h0
    obtain ⟨p, hpn, hpe⟩ := hk.inv i h0
    have := (hq i (e p).2).2 ⟨p, hpn, by rw [← hpe]⟩
    rw [hQ] at this; cases this
  have HV := Lib.hid (hvalid_w hm)
  have HH := Lib.hid (hhas_w hm hi)
  have hP := place_w hm hi
  rw [hpl] at hP
  have HP := Lib.hid hP
  have t1 : (((0 : Nat) : Int) - 1 == -1) = true := by decide
  have t2 : ((0 : Int) - 1 == -1) = true := by decide
  clear hm hk hp hq hQ hpl hP
  go_enter Tryz.func194, Tryz.ntmps194
  go_wp2_with fail
  refine HV.out.mono ?_
  rintro _ w ⟨rfl, rfl⟩
  go_wp2_with fail
  refine HH.out.mono ?_
  rintro _ w ⟨rfl, rfl⟩
  go_wp2_with fail
  refine HP.out.mono ?_
  rintro _ w ⟨rfl, rfl⟩
  go_wp2
  go_ret2
  exact ⟨rfl, rfl⟩
theorem hkey_no (h : HeapAt w ph slots Q n l) {i : Nat} (hi : i < slots) (hQ : Q i = none) :
    Calls Tryz.prog 193 #[hptr ph, .int .i64 i] w fun e w' => e = .returned (.tuple #[.int .i64 0, .bool false]) ∧ w' = w := by
  have HF := Lib.hid (hfind_no h hi hQ)
  clear h hQ
  go_enter Tryz.func193, Tryz.ntmps193
  go_wp2_with fail
  refine HF.out.mono ?_
  rintro _ w ⟨rfl, rfl⟩
  go_wp2
  go_ret2
  exact ⟨rfl, rfl⟩
/-- The closure that Set hands on, for a slot that is not scheduled. -/
theorem xset1_w {bs bi bt : Nat} (h : SchAt w px slots Q n l) {i : Nat} (hi : i < slots) (hQ : Q i = none) (x : Int) (cs : w.cell? ⟨bs, 0, none⟩ = some (hptr px)) (ci : w.cell? ⟨bi, 0, none⟩ = some (.int .i64 i)) (ct : w.cell? ⟨bt, 0, none⟩ = some (.int .i64 x)) :
    Calls Tryz.prog 158 #[.bool false, .pointer (some ⟨bs, 0, none⟩), .pointer (some ⟨bi, 0, none⟩), .pointer (some ⟨bt, 0, none⟩)] w fun e w' => e = .returned (.int .i64 0) ∧ ∃ l', SchAt w' px slots (updQ Q i (some x)) (n + 1) l' ∧ Fr l w w' ∧ ∀ b ∈ l', b ∈ l ∨ w.heap.size ≤ b := by
  obtain ⟨ph, lh, h1, h2, h3, rfl⟩ := h
  have c1 := h1.cell 1
  simp only [List.getElem?_cons_zero, List.getElem?_cons_succ] at c1
  have HP := Lib.hid (fun (nq : Nat) => hpush_w (h2.fr ((Fr.refl [] w).drewN nq) (by simp)) hi hQ x)
  have HX := Lib.hid (And.intro h1 (And.intro h2 h3))
  clear h1 h2 h3 hQ
  go_enter Tryz.func158, Tryz.ntmps158
  go_wp2_with fail
  refine region_one 6 (fun w' => ∃ lh', HeapAt w' ph slots (updQ Q i (some x)) (n + 1) lh' ∧ Fr lh w w' ∧ ∀ b ∈ lh', b ∈ lh ∨ w.heap.size ≤ b) (by kernel_rfl) (by kernel_rfl) (by kernel_rfl) ?_
  iterate 6 (refine gWalk_pre (by decide) (fun K hK => ?_); go_simp; refine hK _ ?_; clear hK K)
  refine gWalk_write rfl (.int .i64 0) (fun w' hw' => ?_) ?_
  · obtain ⟨nq, rfl⟩ := hw'
    go_simp
    refine (HP.out nq).mono ?_
    rintro _ w1 ⟨rfl, lh', k1, k2, k3⟩
    exact ⟨rfl, lh', k1, ((Fr.refl lh w).drewN nq).trans' k2, fun b hb => (k3 b hb).imp id (fun e => by simpa using e)⟩
  iterate 1 (refine gWalk_post (by decide) (fun K hK => ?_); go_simp; refine hK _ ?_; clear hK K)
  refine gWalk_nil ?_
  rintro w1 ⟨lh', k1, k2, k3⟩
  have HK := Lib.hid (And.intro k1 (And.intro k2 k3)); clear k1 k2 k3 cs ci ct c1
  go_wp2
  go_ret
  refine ⟨rfl, px :: lh', ⟨ph, lh', HK.out.2.1.blk HX.out.1 HX.out.2.2, HK.out.1, fun hm => ?_, rfl⟩, HK.out.2.1.mono (by simp +contextual), fun b hb => ?_⟩
  · rcases HK.out.2.2 _ hm with h | h
    · exact HX.out.2.2 h
    · have := HX.out.1.lt; omega
  · rcases List.mem_cons.1 hb with rfl | hb
    · exact .inl (by simp)
    · exact (HK.out.2.2 b hb).imp (fun h => by simp [h]) id
theorem xwith_w (h : SchAt w px slots Q n l) {i : Nat} (hi : i < slots) (hQ : Q i = none) {a b c : Value} {R : World → Prop} (hc : Calls Tryz.prog 158 #[.bool false, a, b, c] w fun e w' => e = .returned (.int .i64 0) ∧ R w') :
    Calls Tryz.prog 157 #[hptr px, .int .i64 i, .func (.func 158) #[] #[a, b, c]] w fun e w' => e = .returned (.int .i64 0) ∧ R w' := by
  have HV := Lib.hid (xvalid_w h)
  obtain ⟨ph, lh, h1, h2, h3, rfl⟩ := h
  have HK := Lib.hid (hkey_no h2 hi hQ)
  have HC := Lib.hid hc
  have k0 := h1.cell 0
  have k1 := h1.cell 1
  simp only [List.getElem?_cons_zero, List.getElem?_cons_succ] at k0 k1
  clear h1 h2 h3 hQ hc
  have d1 : decide ((i : Int) < 0) = false := decide_eq_false (by omega)
  have d2 : decide ((i : Int) ≥ slots) = false := decide_eq_false (by omega)
  go_enter Tryz.func157, Tryz.ntmps157
  go_wp2_with fail
  refine HV.out.mono ?_
  rintro _ w ⟨rfl, rfl⟩
  go_wp2_with fail
  refine HK.out.mono ?_
  rintro _ w ⟨rfl, rfl⟩
  go_wp2_with fail
  refine HC.out.mono ?_
  rintro _ w1 ⟨rfl, hR⟩
  have HR := Lib.hid hR; clear hR k0 k1
  go_wp2
  go_ret
  exact ⟨rfl, HR.out⟩
theorem xset_w (h : SchAt w px slots Q n l) {i : Nat} (hi : i < slots) (hQ : Q i = none) (x : Int) :
    Calls Tryz.prog 113 #[hptr px, .int .i64 i, .int .i64 x] w fun e w' => e = .returned (.int .i64 0) ∧ ∃ l', SchAt w' px slots (updQ Q i (some x)) (n + 1) l' ∧ Fr l w w' ∧ ∀ b ∈ l', b ∈ l ∨ w.heap.size ≤ b := by
  have b1 := Blk.new w [hptr px] 80
  have b2 := Blk.new (w.alloc (.cells #[hptr px] 80)) [.int .i64 i] 3
  have b3 := Blk.new ((w.alloc (.cells #[hptr px] 80)).alloc (.cells #[.int .i64 i] 3)) [.int .i64 x] 2
  have hF : Fr [] w (((w.alloc (.cells #[hptr px] 80)).alloc (.cells #[.int .i64 i] 3)).alloc (.cells #[.int .i64 x] 2)) := (((Fr.refl _ _).alloc _).alloc _).alloc _
  have hs : (((w.alloc (.cells #[hptr px] 80)).alloc (.cells #[.int .i64 i] 3)).alloc (.cells #[.int .i64 x] 2)).heap.size = w.heap.size + 3 := by simp
  have y1 := ((b1.alloc (.cells #[.int .i64 i] 3)).alloc (.cells #[.int .i64 x] 2)).cell 0
  have y2 := (b2.alloc (.cells #[.int .i64 x] 2)).cell 0
  have y3 := b3.cell 0
  simp only [List.getElem?_cons_zero, World.size_alloc] at y1 y2 y3
  have HW := Lib.hid (xwith_w (h.fr0 hF) hi hQ (xset1_w (h.fr0 hF) hi hQ x y1 y2 y3))
  have HF := Lib.hid hF
  clear b1 b2 b3 hF h hQ y2 y3
  go_enter Tryz.func113, Tryz.ntmps113
  go_wp2_with fail
  refine HW.out.mono ?_
  rintro _ w1 ⟨rfl, l', k1, k2, k3⟩
  have HK := Lib.hid (And.intro k1 (And.intro k2 k3)); clear k1 k2 k3 y1
  go_wp2
  go_ret
  exact ⟨rfl, l', HK.out.1, (HF.out.mono (by simp)).trans' HK.out.2.1, fun b hb => (HK.out.2.2 b hb).imp id (fun e => by omega)⟩
/-- A copy. -/
theorem xcopy_w (h : SchAt w px slots Q n l) : Calls Tryz.prog 53 #[hptr px] w fun e w' => ∃ p', e = .returned (hptr p') ∧ ∃ l', SchAt w' p' slots Q n l' ∧ Fr [] w w' ∧ ∀ b ∈ l', w.heap.size ≤ b := by
  have h0 := h
  obtain ⟨ph, lh, h1, h2, h3, rfl⟩ := h
  have c0 := h1.cell 0
  have c1 := h1.cell 1
  simp only [List.getElem?_cons_zero, List.getElem?_cons_succ] at c0 c1
  have HV := Lib.hid (xvalid_w h0)
  have HC := Lib.hid (hcopy_w (h2.fr (Fr.refl [] w).drew (by simp)))
  clear h0 h1 h2 h3
  go_enter Tryz.func53, Tryz.ntmps53
  go_wp2_with fail
  refine HV.out.mono ?_
  rintro _ w ⟨rfl, rfl⟩
  go_wp2_with fail
  go_region_held3 (fun w' => w'.cell? ⟨px, 0, none⟩ = some (.int .i64 slots) ∧ w'.cell? ⟨px, 1, none⟩ = some (hptr ph))
    (first
      | go_keep
      | exact ⟨hF4.cell c0 (by simp), hF4.cell c1 (by simp)⟩)
    (first | (go_at_call 106; with_reducible refine HC.out.mono ?_; rintro e w4 ⟨p4, rfl, l4, hH4, hF4, hN4⟩))
  all_goals
    have hb := Blk.new w4 [.int .i64 slots, hptr p4] 160
    have hF : Fr [] w (w4.alloc (.cells #[.int .i64 slots, hptr p4] 160)) := ((Fr.refl [] w).drew.trans' hF4).alloc _
    have hs4 := hF4.size
    have HB := Lib.hid (And.intro hb (And.intro hF (And.intro hH4 hN4)))
    clear hb hF hH4 hN4
    go_wp2
    go_ret
    refine ⟨_, rfl, _, ⟨p4, l4, HB.out.1, HB.out.2.2.1.fr ((Fr.refl [] _).alloc _) (by simp), fun hm => by have := HB.out.2.2.1.lt _ hm; omega, rfl⟩, HB.out.2.1, fun b hb => ?_⟩
    rcases List.mem_cons.1 hb with rfl | hb
    · simpa using hs4
    · simpa using HB.out.2.2.2 b hb
end
end Go.Proofs.YtgmnemndjjmgkaaGreat

namespace Go.Proofs.YtgmnemndjjmgkaaGreat
open Go.RowKit
set_option maxRecDepth 10000

theorem rem_sub {s : Sm} {i : Nat} {e : Lv} (h : e ∈ (s.rem i).L) : e ∈ s.L := (mem_rem.1 h).1
theorem rems_sub (ds : List Nat) : ∀ {s : Sm} {e : Lv}, e ∈ (s.rems ds).L → e ∈ s.L := by
  induction ds with
  | nil => intro s e h; exact h
  | cons i r ih => intro s e h; rw [Sm.rems_cons] at h; exact rem_sub (ih h)
theorem Mins.find {to : Int} {Q Q' : Nat → Option Int} {ds : List Nat} (h : Mins to Q ds Q') : ∀ {s : Sm} {G : Nat → Option (Nat × Nat × Int)}, Lk s Q G → s.Ok → ∀ e ∈ (s.rems ds).L, ∀ x, e.at x = true → (s.rems ds).M.find x = s.M.find x := by
  induction h with
  | done Q h => intro s G _ _ e _ x _; rfl
  | more Q i x ds Q' hq hx hm h ih =>
    intro s G hl hok e he y hy
    have hok1 := Sm.ok_rem hok (lk_used hl hok hq)
    rw [Sm.rems_cons] at he ⊢
    rw [ih (hl.drop hok i) hok1 e he y hy, rem_find hok (rems_sub ds he) hy]
theorem Mins.mem {to : Int} {Q Q' : Nat → Option Int} {ds : List Nat} (h : Mins to Q ds Q') : (∀ j, j ∈ ds ↔ ∃ x, Q j = some x ∧ x ≤ to) ∧ ∀ j, Q' j = if j ∈ ds then none else Q j := by
  induction h with
  | done Q h =>
    refine ⟨fun j => ⟨fun h => by simp at h, fun ⟨x, h1, h2⟩ => ?_⟩, fun j => by simp⟩
    have := h j x h1; omega
  | more Q i x ds Q' hq hx hm h ih =>
    obtain ⟨h1, h2⟩ := ih
    refine ⟨fun j => ?_, fun j => ?_⟩
    · rw [List.mem_cons, h1]
      by_cases e : j = i
      · subst e; simp only [true_or, true_iff]; exact ⟨x, hq, hx⟩
      · simp [e]
    · rw [h2]
      by_cases e : j = i
      · subst e; simp
      · by_cases e2 : j ∈ ds <;> simp [e, e2]
/-- The forest knows an edge's ends by the vertices' indexes; an index belongs to one vertex. -/
theorem find_inj {M : Md} (h : M.Ok) {u v i : Nat} (hu : M.find u = some i) (hv : M.find v = some i) : u = v := by
  have h1 := Md.find_mem hu
  have h2 := Md.find_mem hv
  have h3 := Md.mem_idOf h.idx h1
  have h4 := Md.mem_idOf h.idx h2
  rw [h3] at h4
  exact Option.some.inj h4
theorem Wm.tick_find {W : Wm} (h : W.Ok) {to : Int} {ds : List Nat} {Q' : Nat → Option Int} (hm : Mins to W.Q ds Q') {u j : Nat} (hu : (W.tick to ds Q').s.M.find u = some j) (hok : (W.s.rems ds).Ok) : W.s.M.find u = some j := by
  have hv : ((W.s.rems ds).M.find u).isSome = true := by
    have : (W.s.rems ds).M.find u = some j := hu
    rw [this]; rfl
  rw [hok.vert] at hv
  obtain ⟨k, hk⟩ := List.exists_mem_of_ne_nil _ hv
  obtain ⟨e, he, hat, _⟩ := mem_incL.1 hk
  rw [← hm.find h.lk h.ok e he u hat]
  exact hu
theorem Wm.tick_G {W : Wm} (h : W.Ok) {to : Int} {ds : List Nat} {Q' : Nat → Option Int} (hm : Mins to W.Q ds Q') (i a b : Nat) (x : Int) : (W.tick to ds Q').G i = some (a, b, x) ↔ W.G i = some (a, b, x) ∧ to < x := by
  show (if i ∈ ds then none else W.G i) = some (a, b, x) ↔ _
  have hi := hm.mem.1 i
  by_cases e : i ∈ ds
  · rw [if_pos e]
    obtain ⟨y, hy, hyt⟩ := hi.1 e
    constructor
    · intro h; cases h
    · rintro ⟨h1, h2⟩
      obtain ⟨d, hd, hds, _, _, hdx⟩ := (h.lk.g i a b x).1 h1
      have := (h.lk.q i x).2 ⟨d, hd, hds, hdx⟩
      rw [hy] at this
      have := Option.some.inj this
      omega
  · rw [if_neg e]
    constructor
    · intro h1
      refine ⟨h1, ?_⟩
      obtain ⟨d, hd, hds, _, _, hdx⟩ := (h.lk.g i a b x).1 h1
      have hq := (h.lk.q i x).2 ⟨d, hd, hds, hdx⟩
      apply Classical.byContradiction
      intro hn
      exact e (hi.2 ⟨x, hq, by omega⟩)
    · exact fun h => h.1
end Go.Proofs.YtgmnemndjjmgkaaGreat
