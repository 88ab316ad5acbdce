/- The statement 'LctNews': for every input the call returns true, and each argument reads afterwards as it read before. -/
import Derived.Test.YtoppjjgecgbbkaaLctNewsZ7
import Derived.Test.YtoppjjgecgbbkaaLctNewsZ1
import Derived.Test.YtoppjjgecgbbkaaLctNewsZ12
/- LctNil: the walk. -/
namespace Go.Proofs.Ytoppjjgecgbbkaa
open Go.RowKit
set_option maxRecDepth 10000
set_option maxHeartbeats 800000

@[go_sem] theorem eq_lct_nil (a : Addr) (w : World) : (binOp .eql 25 (.pointer none) (.pointer (some a))).run Try.prog w = .ok (.bool false) w := by
  have h : ∀ d : Nat, (Op.equalIn (d + 1) 25 (.pointer none) (.pointer (some a))).run Try.prog w = .ok false w := fun d => by
    simp [Op.equalIn, run_underlying Try.underlying25]
  simp only [binOp]
  simp [Op.equal, Op.maxDepth, h 9999]

/-- A nil forest, or one that was not made by New. -/
def BadF (w : World) (q : Option Addr) : Prop := q = none ∨ ∃ p, q = some ⟨p, 0, none⟩ ∧ p < w.heap.size ∧ w.cell? ⟨p, 0, none⟩ = some (.pointer none)
theorem BadF.fr {w w' : World} {q : Option Addr} (h : BadF w q) (hf : Below w.heap.size w w') : BadF w' q := by
  rcases h with h | ⟨p, h1, h2, h3⟩
  · exact .inl h
  · exact .inr ⟨p, h1, Nat.lt_of_lt_of_le h2 hf.size, (hf.cell (p := ⟨p, 0, none⟩) h2).trans h3⟩

section
variable {w : World} {q : Option Addr} (h : BadF w q)
include h
theorem bad_valid : Calls Try.prog 37 #[.pointer q] w fun e w' => e = .returned (.bool false) ∧ w' = w := by
  rcases h with rfl | ⟨pt, rfl, _, hc⟩
  · go_enter Try.func37, Try.ntmps37
    go_wp2
    go_ret
    exact ⟨rfl, rfl⟩
  · go_enter Try.func37, Try.ntmps37
    go_wp2
    go_ret
    exact ⟨rfl, rfl⟩
theorem bad_has (a : Int) : Calls Try.prog 33 #[.pointer q, .int .i64 a] w fun e w' => e = .returned (.bool false) ∧ w' = w := by
  have H := Lib.hid (bad_valid h); clear h
  go_enter Try.func33, Try.ntmps33
  go_wp2_with (go_at_call 37; refine H.out.mono ?_; rintro e w' ⟨rfl, rfl⟩)
  go_ret
  exact ⟨rfl, rfl⟩
theorem bad_check (v : Value) : Calls Try.prog 35 #[.pointer q, v] w fun e w' => e = .returned (.int .i64 1) ∧ w' = w := by
  have H := Lib.hid (bad_valid h); clear h
  go_enter Try.func35, Try.ntmps35
  go_wp2_with (go_at_call 37; refine H.out.mono ?_; rintro e w' ⟨rfl, rfl⟩)
  go_ret
  exact ⟨rfl, rfl⟩
theorem bad_key (a : Int) : Calls Try.prog 27 #[.pointer q, .int .i64 a] w fun e w' => e = .returned (.int .i64 0) ∧ w' = w := by
  have H := Lib.hid (bad_has h a); clear h
  go_enter Try.func27, Try.ntmps27
  go_wp2_with (go_at_call 33; refine H.out.mono ?_; rintro e w' ⟨rfl, rfl⟩)
  go_ret
  exact ⟨rfl, rfl⟩
theorem bad_size (a : Int) : Calls Try.prog 18 #[.pointer q, .int .i64 a] w fun e w' => e = .returned (.int .i64 0) ∧ w' = w := by
  have H := Lib.hid (bad_has h a); clear h
  go_enter Try.func18, Try.ntmps18
  go_wp2_with (go_at_call 33; refine H.out.mono ?_; rintro e w' ⟨rfl, rfl⟩)
  go_ret
  exact ⟨rfl, rfl⟩
theorem bad_connected (a b : Int) : Calls Try.prog 15 #[.pointer q, .int .i64 a, .int .i64 b] w fun e w' => e = .returned (.bool false) ∧ w' = w := by
  have H := Lib.hid (bad_has h a); clear h
  go_enter Try.func15, Try.ntmps15
  go_wp2_with (go_at_call 33; refine H.out.mono ?_; rintro e w' ⟨rfl, rfl⟩)
  go_ret
  exact ⟨rfl, rfl⟩
theorem bad_trees : Calls Try.prog 17 #[.pointer q] w fun e w' => e = .returned (.int .i64 0) ∧ w' = w := by
  have H := Lib.hid (bad_valid h); clear h
  go_enter Try.func17, Try.ntmps17
  go_wp2_with (go_at_call 37; refine H.out.mono ?_; rintro e w' ⟨rfl, rfl⟩)
  go_ret
  exact ⟨rfl, rfl⟩
theorem bad_copy : Calls Try.prog 29 #[.pointer q] w fun e w' => e = .returned (.pointer none) ∧ w' = w := by
  have H := Lib.hid (bad_valid h); clear h
  go_enter Try.func29, Try.ntmps29
  go_wp2_with (go_at_call 37; refine H.out.mono ?_; rintro e w' ⟨rfl, rfl⟩)
  go_ret
  exact ⟨rfl, rfl⟩
theorem bad_path (a b : Int) : Calls Try.prog 22 #[.pointer q, .int .i64 a, .int .i64 b] w fun e w' => e = .returned (.slice none 0 0) ∧ w' = w := by
  have H := Lib.hid (bad_connected h a b); clear h
  go_enter Try.func22, Try.ntmps22
  go_wp2_with (go_at_call 15; refine H.out.mono ?_; rintro e w' ⟨rfl, rfl⟩)
  go_ret
  exact ⟨rfl, rfl⟩
theorem bad_dist (a b : Int) : Calls Try.prog 21 #[.pointer q, .int .i64 a, .int .i64 b] w fun e w' => e = .returned (.int .i64 (-1)) ∧ w' = w := by
  have H := Lib.hid (bad_connected h a b); clear h
  go_enter Try.func21, Try.ntmps21
  go_wp2_with (go_at_call 15; refine H.out.mono ?_; rintro e w' ⟨rfl, rfl⟩)
  go_ret
  exact ⟨rfl, rfl⟩
theorem bad_min (a b : Int) : Calls Try.prog 28 #[.pointer q, .int .i64 a, .int .i64 b] w fun e w' => e = .returned (.tuple #[.int .i64 0, .bool false]) ∧ w' = w := by
  have H := Lib.hid (bad_connected h a b); clear h
  go_enter Try.func28, Try.ntmps28
  go_wp2_with (go_at_call 15; refine H.out.mono ?_; rintro e w' ⟨rfl, rfl⟩)
  go_ret2
  exact ⟨rfl, rfl⟩
theorem bad_meet (a b c : Int) : Calls Try.prog 20 #[.pointer q, .int .i64 a, .int .i64 b, .int .i64 c] w fun e w' => e = .returned (.tuple #[.int .i64 0, .bool false]) ∧ w' = w := by
  have H := Lib.hid (bad_connected h a b); clear h
  go_enter Try.func20, Try.ntmps20
  go_wp2_with (go_at_call 15; refine H.out.mono ?_; rintro e w' ⟨rfl, rfl⟩)
  go_ret2
  exact ⟨rfl, rfl⟩
theorem bad_set (a k : Int) : Calls Try.prog 26 #[.pointer q, .int .i64 a, .int .i64 k] w fun e w' => e = .returned (.int .i64 1) ∧ Below w.heap.size w w' := by
  have hB : Below w.heap.size w (w.alloc (.cells #[.int .i64 a] 3)) := (Below.refl _ w).alloc (Nat.le_refl _) _
  have H := Lib.hid (fun v => bad_check (h.fr hB) v); clear h
  go_enter Try.func26, Try.ntmps26
  go_wp2_with (go_at_call 35; refine (H.out _).mono ?_; rintro e w' ⟨rfl, rfl⟩)
  go_ret
  exact ⟨rfl, hB⟩
theorem bad_link (a b : Int) : Calls Try.prog 16 #[.pointer q, .int .i64 a, .int .i64 b] w fun e w' => e = .returned (.int .i64 1) ∧ Below w.heap.size w w' := by
  have hB : Below w.heap.size w (w.alloc (.cells #[.int .i64 a, .int .i64 b] 3)) := (Below.refl _ w).alloc (Nat.le_refl _) _
  have H := Lib.hid (fun v => bad_check (h.fr hB) v); clear h
  go_enter Try.func16, Try.ntmps16
  go_wp2_with (go_at_call 35; refine (H.out _).mono ?_; rintro e w' ⟨rfl, rfl⟩)
  go_ret
  exact ⟨rfl, hB⟩
theorem bad_cut (a b : Int) : Calls Try.prog 30 #[.pointer q, .int .i64 a, .int .i64 b] w fun e w' => e = .returned (.int .i64 1) ∧ Below w.heap.size w w' := by
  have hB : Below w.heap.size w (w.alloc (.cells #[.int .i64 a, .int .i64 b] 3)) := (Below.refl _ w).alloc (Nat.le_refl _) _
  have H := Lib.hid (fun v => bad_check (h.fr hB) v); clear h
  go_enter Try.func30, Try.ntmps30
  go_wp2_with (go_at_call 35; refine (H.out _).mono ?_; rintro e w' ⟨rfl, rfl⟩)
  go_ret
  exact ⟨rfl, hB⟩
end

theorem walk_lctNil (w : World) (a : Int) (_wa : (Lit.int .i64 a).wf = true) (b : Int) (_wb : (Lit.int .i64 b).wf = true) (c : Int) (_wc : (Lit.int .i64 c).wf = true) (k : Int) (_wk : (Lit.int .i64 k).wf = true) :
    Calls Try.prog 11 #[.int .i64 a, .int .i64 b, .int .i64 c, .int .i64 k] w fun e w' => e = .returned (.bool true) ∧ Below w.heap.size w w' := by
  clear _wa _wb _wc _wk
  go_enter Try.func11, Try.ntmps11
  go_wp2
  obtain ⟨W, hW⟩ : ∃ W, (w.alloc (.cells #[.pointer none, .slice none 0 0, .int .i64 0] 65)).alloc (.cells #[.pointer none, .pointer (some ⟨w.heap.size, 0, none⟩)] 25) = W := ⟨_, rfl⟩
  have e1 : Blk W w.heap.size 65 [.pointer none, .slice none 0 0, .int .i64 0] := by subst hW; exact (Blk.new w _ _).alloc _
  have e2 : Blk W (w.heap.size + 1) 25 [.pointer none, .pointer (some ⟨w.heap.size, 0, none⟩)] := by
    subst hW
    have := Blk.new (w.alloc (.cells #[.pointer none, .slice none 0 0, .int .i64 0] 65)) [.pointer none, .pointer (some ⟨w.heap.size, 0, none⟩)] 25
    rw [World.size_alloc] at this; exact this
  have hB : Below w.heap.size w W := by subst hW; exact ((Below.refl _ w).alloc (Nat.le_refl _) _).alloc (by simp) _
  rw [hW]
  clear hW
  have c0 : W.cell? ⟨w.heap.size + 1, 0, none⟩ = some (.pointer none) := e2.cell 0
  have c1 : W.cell? ⟨w.heap.size + 1, 1, none⟩ = some (.pointer (some ⟨w.heap.size, 0, none⟩)) := e2.cell 1
  have cz : W.cell? ⟨w.heap.size, 0, none⟩ = some (.pointer none) := e1.cell 0
  have l1 := e1.lt
  have l2 := e2.lt
  have HC := Lib.hid (And.intro (And.intro c0 c1) cz); clear c0 c1 cz e1 e2
  go_loopw [11] (fun x wr => ∃ j : Nat, j ≤ 2 ∧ x = .int .i64 j ∧ Below W.heap.size W wr) (fun x _ => 2 - (intOf x).toNat)
  case atStart => exact ⟨0, by omega, rfl, Below.refl _ _⟩
  case round =>
    obtain ⟨j, hj, rfl, hBr⟩ := hrel
    by_cases hlt : j < 2
    · obtain ⟨q, hv, hbt⟩ : ∃ q, wr.cell? ⟨w.heap.size + 1, j, none⟩ = some (.pointer q) ∧ BadF wr q := by
        rcases (show j = 0 ∨ j = 1 by omega) with rfl | rfl
        · exact ⟨_, (hBr.cell (p := ⟨w.heap.size + 1, 0, none⟩) l2).trans HC.out.1.1, .inl rfl⟩
        · exact ⟨_, (hBr.cell (p := ⟨w.heap.size + 1, 1, none⟩) l2).trans HC.out.1.2, .inr ⟨_, rfl, Nat.lt_of_lt_of_le l1 hBr.size, (hBr.cell (p := ⟨w.heap.size, 0, none⟩) l1).trans HC.out.2⟩⟩
      have HB := Lib.hid hbt; clear hbt
      have hj2 : (j : Int) < 2 := by omega
      go_wp2_with fail
      refine (bad_set HB.out a k).mono ?_
      rintro _ w2 ⟨rfl, b2⟩
      have H2 := Lib.hid (HB.out.fr b2)
      go_wp2_with fail
      refine (bad_link H2.out a b).mono ?_
      rintro _ w3 ⟨rfl, b3⟩
      have H3 := Lib.hid (H2.out.fr b3)
      go_wp2_with fail
      refine (bad_cut H3.out a b).mono ?_
      rintro _ w4 ⟨rfl, b4⟩
      have H4 := Lib.hid (H3.out.fr b4)
      have hB4 : Below W.heap.size W w4 := ((hBr.trans (b2.mono hBr.size)).trans (b3.mono (Nat.le_trans hBr.size b2.size))).trans (b4.mono (Nat.le_trans hBr.size (Nat.le_trans b2.size b3.size)))
      clear HB H2 H3 b2 b3 b4 hBr hv
      go_wp2_with (first | (go_at_call 28; refine (bad_min H4.out a b).mono ?_; rintro e w' ⟨rfl, rfl⟩) | (go_at_call 20; refine (bad_meet H4.out a b c).mono ?_; rintro e w' ⟨rfl, rfl⟩) | (go_at_call 27; refine (bad_key H4.out a).mono ?_; rintro e w' ⟨rfl, rfl⟩) | (go_at_call 15; refine (bad_connected H4.out a b).mono ?_; rintro e w' ⟨rfl, rfl⟩) | (go_at_call 18; refine (bad_size H4.out a).mono ?_; rintro e w' ⟨rfl, rfl⟩) | (go_at_call 17; refine (bad_trees H4.out).mono ?_; rintro e w' ⟨rfl, rfl⟩) | (go_at_call 22; refine (bad_path H4.out a b).mono ?_; rintro e w' ⟨rfl, rfl⟩) | (go_at_call 21; refine (bad_dist H4.out a b).mono ?_; rintro e w' ⟨rfl, rfl⟩) | (go_at_call 29; refine (bad_copy H4.out).mono ?_; rintro e w' ⟨rfl, rfl⟩))
      go_roundw
      case rel => exact ⟨j + 1, by omega, by go_num, hB4⟩
      case measure => simp [intOf]; omega
    · go_wp2_with fail
      refine (works_w _).mono ?_
      rintro _ w3 ⟨rfl, hB3⟩
      go_wp2
      go_ret
      exact ⟨rfl, hB.trans ((hBr.trans (hB3.mono hBr.size)).mono hB.size)⟩

end Go.Proofs.Ytoppjjgecgbbkaa

/- The forest and the document's: what both show of three vertices (agree). -/
namespace Go.Proofs.Ytoppjjgecgbbkaa
open Go.RowKit Classical
set_option maxRecDepth 10000
set_option maxHeartbeats 800000

theorem min_d {w : World} {pf g n : Nat} {E : Nat → Nat → Prop} {key : Nat → Int} {ed : Int} (h : LG w pf g n E key ed) (a b : Int) :
    Calls Try.prog 28 #[.pointer (some ⟨pf, 0, none⟩), .int .i64 a, .int .i64 b] w fun e w' => e = .returned (.tuple #[.int .i64 (minI n E key a b : Nat), .bool (connB n E a b)]) ∧ LG w' pf g n E key ed ∧ Fr [g] w w' := by
  have hf := h.frs
  refine (min_w h a b).mono ?_
  rintro e w' ⟨hr, h1, h2⟩
  refine ⟨?_, h1, h2⟩
  rcases hr with ⟨hc, rfl⟩ | ⟨v, u, p, m, rfl, rfl, hv, hu, hp, _, hm, rfl⟩
  · have e1 : connB n E a b = false := by unfold connB; exact decide_eq_false hc
    have e2 : pathL n E a b = [] := by unfold pathL; rw [if_neg hc]
    rw [e1, minI_nil e2]; rfl
  · have hc : ConnI n E v u := ⟨by simp [inV]; omega, by simp [inV]; omega, by simpa using ⟨p, hp⟩⟩
    have e1 : connB n E v u = true := connB_iff.2 hc
    have e2 : pathL n E v u = p := pathL_of hf hc (by simpa using hp)
    rw [e1, minI_eq (m := m) (by rw [e2]; exact hm)]

structure Both (w wr : World) (pf g pr : Nat) (vK vL : Value) (n : Nat) (key : Nat → Int) (L : List (Nat × Nat)) : Prop where
  lm : LM wr pf g n (EK L) key
  ref : RefAt wr pr vK vL n key L
  el : EL n L
  fr : Fr [] w wr
  newL : w.heap.size ≤ pf ∧ w.heap.size ≤ g
  newR : ∀ q ∈ rB pr vK vL, w.heap.size ≤ q ∧ q ≠ pf ∧ q ≠ g

section
variable {w wr w' : World} {pf g pr : Nat} {vK vL : Value} {n : Nat} {key : Nat → Int} {L : List (Nat × Nat)} (h : Both w wr pf g pr vK vL n key L)
include h
theorem Both.ask (hl : LM w' pf g n (EK L) key) (hf : Fr [g] wr w') : Both w w' pf g pr vK vL n key L :=
  ⟨hl, h.ref.fr hf (fun q hq hm => (h.newR q hq).2.2 (by simpa using hm)), h.el, h.fr.trans hf (fun q hq => .inr (by simp at hq; subst hq; exact h.newL.2)), h.newL, h.newR⟩
theorem Both.askR (hf : Fr [] wr w') : Both w w' pf g pr vK vL n key L :=
  ⟨LG.fr h.lm hf (by simp) (by simp), h.ref.fr0 hf, h.el, h.fr.trans' hf, h.newL, h.newR⟩
theorem Both.drew (k : Nat) : Both w (wr.drewN k) pf g pr vK vL n key L := h.askR ((Fr.refl _ _).drewN k)
theorem Both.below : Below w.heap.size w wr := h.fr.below (by simp)

theorem agree_w (a b c : Int) :
    Calls Try.prog 25 #[.pointer (some ⟨pf, 0, none⟩), .pointer (some ⟨pr, 0, none⟩), .int .i64 a, .int .i64 b, .int .i64 c] wr fun e w' => e = .returned (.bool true) ∧ Both w w' pf g pr vK vL n key L := by
  have hle := h.el.le
  have hpl := pathL_len h.el.elt a b
  have HB := Lib.hid h; clear h
  go_enter Try.func25, Try.ntmps25
  go_wp2_with fail
  refine (min_d HB.out.lm a b).mono ?_
  rintro _ w1 ⟨rfl, h1, f1⟩
  have HB1 := Lib.hid (HB.out.ask h1 f1); clear HB h1 f1
  go_wp2_with fail
  refine (min_r HB1.out.ref HB1.out.el a b).mono ?_
  rintro _ w2 ⟨rfl, f2⟩
  have HB2 := Lib.hid (HB1.out.askR f2); clear HB1 f2
  go_wp2_with fail
  refine (meet_d HB2.out.lm a b c).mono ?_
  rintro _ w3 ⟨rfl, h3, f3⟩
  have HB3 := Lib.hid (HB2.out.ask h3 f3); clear HB2 h3 f3
  go_wp2_with fail
  refine (meet_r HB3.out.ref HB3.out.el a b c).mono ?_
  rintro _ w4 ⟨rfl, f4⟩
  have HB4 := Lib.hid (HB3.out.askR f4); clear HB3 f4
  have n1 : (((minI n (EK L) key a b : Nat) : Int) != ((minI n (EK L) key a b : Nat) : Int)) = false := by simp
  have n2 : (((meetI n (EK L) a b c : Nat) : Int) != ((meetI n (EK L) a b c : Nat) : Int)) = false := by simp
  have n3 : (connB n (EK L) a b != connB n (EK L) a b) = false := by simp
  have n4 : (meetB n (EK L) a b c != meetB n (EK L) a b c) = false := by simp
  have n5 : (connB n (EK L) a b == connB n (EK L) a b) = true := by simp
  have HC1 := Lib.hid (fun (w' : World) (h : Both w w' pf g pr vK vL n key L) => connected_d h.lm a b)
  have HC2 := Lib.hid (fun (w' : World) (h : Both w w' pf g pr vK vL n key L) => connected_r h.ref h.el a b)
  generalize minI n (EK L) key a b = mi at *
  generalize meetI n (EK L) a b c = me at *
  generalize connB n (EK L) a b = cb at *
  generalize meetB n (EK L) a b c = mb at *
  go_wp2_with fail
  refine (HC1.out _ HB4.out).mono ?_
  rintro _ w5 ⟨rfl, h5, f5⟩
  have HB5 := Lib.hid (HB4.out.ask h5 f5); clear HB4 h5 f5
  go_wp2_with fail
  refine (HC2.out _ HB5.out).mono ?_
  rintro _ w6 ⟨rfl, f6⟩
  have HB6 := Lib.hid (HB5.out.askR f6); clear HB5 f6 HC1 HC2
  go_wp2_with fail
  refine (pathf_w HB6.out.lm a b).mono ?_
  rintro _ w7 ⟨v7, rfl, r7, o7, h7, f7⟩
  have HB7 := Lib.hid (HB6.out.ask h7 f7); clear HB6 h7 f7
  have R7 := Lib.hid (show RowN w7 v7 _ from r7)
  obtain ⟨a7, c7, rfl⟩ := ownsRow_slice r7
  clear r7 o7
  go_wp2_with fail
  refine (path_r HB7.out.ref HB7.out.el a b).mono ?_
  rintro _ w8 ⟨v8, rfl, r8, o8, f8⟩
  have HB8 := Lib.hid (HB7.out.askR f8)
  have R78 := Lib.hid (R7.out.fr f8 (by simp)); clear HB7 f8 R7
  have R8 := Lib.hid r8
  obtain ⟨a8, c8, rfl⟩ := r8.slice
  clear r8 o8
  have hsm := same_w R78.out R8.out (by omega) (by omega)
  rw [decide_eq_true rfl] at hsm
  have HSm := Lib.hid hsm; clear hsm
  go_wp2_with fail
  refine HSm.out.mono ?_
  rintro _ _ ⟨rfl, k9, rfl⟩
  have HB9 := Lib.hid (HB8.out.drew k9); clear HSm R78 R8 HB8
  have HD1 := Lib.hid (fun (w' : World) (h : Both w w' pf g pr vK vL n key L) => dist_d h.lm b a)
  have HD2 := Lib.hid (fun (w' : World) (h : Both w w' pf g pr vK vL n key L) => dist_r h.ref h.el b a)
  have HS1 := Lib.hid (fun (w' : World) (h : Both w w' pf g pr vK vL n key L) => size_d h.lm c)
  have HS2 := Lib.hid (fun (w' : World) (h : Both w w' pf g pr vK vL n key L) => size_r h.ref h.el c)
  have HT1 := Lib.hid (fun (w' : World) (h : Both w w' pf g pr vK vL n key L) => trees_w h.lm)
  have HT2 := Lib.hid (fun (w' : World) (h : Both w w' pf g pr vK vL n key L) => trees_r h.ref h.el)
  have HK1 := Lib.hid (fun (w' : World) (h : Both w w' pf g pr vK vL n key L) => key_w h.lm a)
  have HK2 := Lib.hid (fun (w' : World) (h : Both w w' pf g pr vK vL n key L) => key_r h.ref a)
  generalize distI n (EK L) b a = di at *
  generalize sizeI n (EK L) c = si at *
  generalize keyI n key a = ki at *
  generalize w8.drewN k9 = w9 at *
  go_wp2_with fail
  refine (HD1.out _ HB9.out).mono ?_
  rintro _ w10 ⟨rfl, h10, f10⟩
  have HB10 := Lib.hid (HB9.out.ask h10 f10); clear HB9 h10 f10
  go_wp2_with fail
  refine (HD2.out _ HB10.out).mono ?_
  rintro _ w11 ⟨rfl, f11⟩
  have HB11 := Lib.hid (HB10.out.askR f11); clear HB10 f11 HD1 HD2
  go_wp2_with fail
  refine (HS1.out _ HB11.out).mono ?_
  rintro _ w12 ⟨rfl, h12, f12⟩
  have HB12 := Lib.hid (HB11.out.ask h12 f12); clear HB11 h12 f12
  go_wp2_with fail
  refine (HS2.out _ HB12.out).mono ?_
  rintro _ w13 ⟨rfl, f13⟩
  have HB13 := Lib.hid (HB12.out.askR f13); clear HB12 f13 HS1 HS2
  go_wp2_with fail
  refine (HT1.out _ HB13.out).mono ?_
  rintro _ _ ⟨rfl, k14, rfl⟩
  have HB14 := Lib.hid (HB13.out.drew k14); clear HB13
  generalize w13.drewN k14 = w14 at *
  go_wp2_with fail
  refine (HT2.out _ HB14.out).mono ?_
  rintro _ _ ⟨rfl, k15, rfl⟩
  have HB15 := Lib.hid (HB14.out.drew k15); clear HB14 HT1 HT2
  generalize w14.drewN k15 = w15 at *
  go_wp2_with fail
  refine (HK1.out _ HB15.out).mono ?_
  rintro _ w16 ⟨rfl, e16⟩
  rw [← e16] at HB15
  clear e16
  go_wp2_with fail
  refine (HK2.out _ HB15.out).mono ?_
  rintro _ w17 ⟨rfl, e17⟩
  rw [← e17] at HB15
  clear e17
  go_wp2
  go_ret
  exact ⟨rfl, HB15.out⟩
end

section
variable {w : World}
theorem nil_valid : Calls Try.prog 60 #[.pointer none] w fun e w' => e = .returned (.bool false) ∧ w' = w := by
  go_enter Try.func60, Try.ntmps60
  go_wp2
  go_ret
  exact ⟨rfl, rfl⟩
theorem nil_has (a : Int) : Calls Try.prog 58 #[.pointer none, .int .i64 a] w fun e w' => e = .returned (.bool false) ∧ w' = w := by
  go_enter Try.func58, Try.ntmps58
  go_wp2_with (go_at_call 60; refine nil_valid.mono ?_; rintro e w' ⟨rfl, rfl⟩)
  go_ret
  exact ⟨rfl, rfl⟩
theorem nil_key (a : Int) : Calls Try.prog 48 #[.pointer none, .int .i64 a] w fun e w' => e = .returned (.int .i64 0) ∧ w' = w := by
  go_enter Try.func48, Try.ntmps48
  go_wp2_with (go_at_call 58; refine (nil_has a).mono ?_; rintro e w' ⟨rfl, rfl⟩)
  go_ret
  exact ⟨rfl, rfl⟩
theorem nil_path (a b : Int) : Calls Try.prog 44 #[.pointer none, .int .i64 a, .int .i64 b] w fun e w' => e = .returned (.slice none 0 0) ∧ w' = w := by
  go_enter Try.func44, Try.ntmps44
  go_wp2_with (go_at_call 58; refine (nil_has a).mono ?_; rintro e w' ⟨rfl, rfl⟩)
  go_ret
  exact ⟨rfl, rfl⟩
theorem nil_connected (a b : Int) : Calls Try.prog 43 #[.pointer none, .int .i64 a, .int .i64 b] w fun e w' => e = .returned (.bool false) ∧ w' = w := by
  go_enter Try.func43, Try.ntmps43
  go_wp2_with (go_at_call 44; refine (nil_path a b).mono ?_; rintro e w' ⟨rfl, rfl⟩)
  go_ret
  exact ⟨rfl, rfl⟩
theorem nil_dist (a b : Int) : Calls Try.prog 45 #[.pointer none, .int .i64 a, .int .i64 b] w fun e w' => e = .returned (.int .i64 (-1)) ∧ w' = w := by
  go_enter Try.func45, Try.ntmps45
  go_wp2_with (go_at_call 44; refine (nil_path a b).mono ?_; rintro e w' ⟨rfl, rfl⟩)
  go_ret
  exact ⟨rfl, rfl⟩
theorem nil_min (a b : Int) : Calls Try.prog 41 #[.pointer none, .int .i64 a, .int .i64 b] w fun e w' => e = .returned (.tuple #[.int .i64 0, .bool false]) ∧ w' = w := by
  go_enter Try.func41, Try.ntmps41
  go_wp2_with (go_at_call 44; refine (nil_path a b).mono ?_; rintro e w' ⟨rfl, rfl⟩)
  go_ret2
  exact ⟨rfl, rfl⟩
theorem nil_size (a : Int) : Calls Try.prog 46 #[.pointer none, .int .i64 a] w fun e w' => e = .returned (.int .i64 0) ∧ w' = w := by
  go_enter Try.func46, Try.ntmps46
  go_wp2_with (go_at_call 58; refine (nil_has a).mono ?_; rintro e w' ⟨rfl, rfl⟩)
  go_ret
  exact ⟨rfl, rfl⟩
theorem nil_trees : Calls Try.prog 47 #[.pointer none] w fun e w' => e = .returned (.int .i64 0) ∧ w' = w := by
  go_enter Try.func47, Try.ntmps47
  go_wp2_with (go_at_call 60; refine nil_valid.mono ?_; rintro e w' ⟨rfl, rfl⟩)
  go_ret
  exact ⟨rfl, rfl⟩
theorem nil_meet (a b c : Int) : Calls Try.prog 42 #[.pointer none, .int .i64 a, .int .i64 b, .int .i64 c] w fun e w' => e = .returned (.tuple #[.int .i64 0, .bool false]) ∧ w' = w := by
  go_enter Try.func42, Try.ntmps42
  go_wp2_with fail
  refine (nil_path a b).mono ?_
  rintro _ w ⟨rfl, rfl⟩
  go_wp2_with fail
  refine (nil_path b c).mono ?_
  rintro _ w ⟨rfl, rfl⟩
  go_wp2_with fail
  refine (nil_path c a).mono ?_
  rintro _ w ⟨rfl, rfl⟩
  go_wp2
  go_loopw [13] (fun si wr => wr = w ∧ si = .int .i64 0) (fun _ _ => 0)
  case atStart => exact ⟨rfl, rfl⟩
  case round =>
    obtain ⟨rfl, rfl⟩ := hrel
    go_wp2
    go_ret2
    exact ⟨rfl, rfl⟩

theorem nil_agree (a b c : Int) :
    Calls Try.prog 25 #[.pointer none, .pointer none, .int .i64 a, .int .i64 b, .int .i64 c] w fun e w' => e = .returned (.bool true) ∧ Below w.heap.size w w' := by
  have hB : BadF w none := .inl rfl
  have HR := Lib.hid (show RowN w (.slice none 0 0) [] from World.ownsRow_nil _ _ _ _)
  have HSm := Lib.hid (same_w HR.out HR.out (by simp) (by simp)); clear HR
  rw [decide_eq_true rfl] at HSm
  go_enter Try.func25, Try.ntmps25
  go_wp2_with fail
  refine (bad_min hB a b).mono ?_
  rintro _ w ⟨rfl, rfl⟩
  go_wp2_with fail
  refine (nil_min a b).mono ?_
  rintro _ w ⟨rfl, rfl⟩
  go_wp2_with fail
  refine (bad_meet hB a b c).mono ?_
  rintro _ w ⟨rfl, rfl⟩
  go_wp2_with fail
  refine (nil_meet a b c).mono ?_
  rintro _ w ⟨rfl, rfl⟩
  go_wp2_with fail
  refine (bad_connected hB a b).mono ?_
  rintro _ w ⟨rfl, rfl⟩
  go_wp2_with fail
  refine (nil_connected a b).mono ?_
  rintro _ w ⟨rfl, rfl⟩
  go_wp2_with fail
  refine (bad_path hB a b).mono ?_
  rintro _ w ⟨rfl, rfl⟩
  go_wp2_with fail
  refine (nil_path a b).mono ?_
  rintro _ w ⟨rfl, rfl⟩
  go_wp2_with fail
  refine HSm.out.mono ?_
  rintro _ _ ⟨rfl, k, rfl⟩
  have hB : BadF (w.drewN k) none := .inl rfl
  go_wp2_with fail
  refine (bad_dist hB b a).mono ?_
  rintro _ w1 ⟨rfl, rfl⟩
  go_wp2_with fail
  refine (nil_dist b a).mono ?_
  rintro _ w1 ⟨rfl, rfl⟩
  go_wp2_with fail
  refine (bad_size hB c).mono ?_
  rintro _ w1 ⟨rfl, rfl⟩
  go_wp2_with fail
  refine (nil_size c).mono ?_
  rintro _ w1 ⟨rfl, rfl⟩
  go_wp2_with fail
  refine (bad_trees hB).mono ?_
  rintro _ w1 ⟨rfl, rfl⟩
  go_wp2_with fail
  refine nil_trees.mono ?_
  rintro _ w1 ⟨rfl, rfl⟩
  go_wp2_with fail
  refine (bad_key hB a).mono ?_
  rintro _ w1 ⟨rfl, rfl⟩
  go_wp2_with fail
  refine (nil_key a).mono ?_
  rintro _ w1 ⟨rfl, rfl⟩
  go_wp2
  go_ret
  exact ⟨rfl, (Fr.below ((Fr.refl [] w).drewN k) (by simp))⟩
end
end Go.Proofs.Ytoppjjgecgbbkaa

/- LctNews: the walk. -/
namespace Go.Proofs.Ytoppjjgecgbbkaa
open Go.RowKit Classical
set_option maxRecDepth 10000
set_option maxHeartbeats 800000

theorem EL.nil {n : Nat} (h : n ≤ 65536) (hf : Frs (EK [])) : EL n [] := ⟨h, hf, .nil, (fun p hp => by cases hp), by rw [EK_nil, nc_none]; simp⟩

theorem walk_lctNews (W : World) (n : Int) (_wn : (Lit.int .i64 n).wf = true) (a : Int) (_wa : (Lit.int .i64 a).wf = true) (b : Int) (_wb : (Lit.int .i64 b).wf = true) :
    Calls Try.prog 7 #[.int .i64 n, .int .i64 a, .int .i64 b] W fun e w' => e = .returned (.bool true) ∧ Below W.heap.size W w' := by
  clear _wn _wa _wb
  by_cases hbad : n < 0 ∨ 65536 < n
  · have HN1 := Lib.hid (new_no n W hbad)
    have HN2 := Lib.hid (new_bad W n hbad)
    have hAg := Lib.hid (nil_agree (w := W) a b a)
    rcases hbad with hb | hb
    · have t1 : decide (n > 2000) = false := decide_eq_false (by omega)
      clear hb
      go_enter Try.func7, Try.ntmps7
      go_wp2_with fail
      refine HN1.out.mono ?_
      rintro _ W ⟨rfl, rfl⟩
      go_wp2_with fail
      refine HN2.out.mono ?_
      rintro _ W ⟨rfl, rfl⟩
      go_wp2_with fail
      refine hAg.out.mono ?_
      rintro _ w2 ⟨rfl, hB⟩
      go_wp2_with fail
      refine (works_w w2).mono ?_
      rintro _ w3 ⟨rfl, hB3⟩
      go_wp2
      go_ret
      exact ⟨rfl, hB.trans (hB3.mono hB.size)⟩
    · have t1 : decide (n > 2000) = true := decide_eq_true (by omega)
      have t2 : decide (n ≤ 65536) = false := decide_eq_false (by omega)
      clear hb
      go_enter Try.func7, Try.ntmps7
      go_wp2_with fail
      refine HN1.out.mono ?_
      rintro _ W ⟨rfl, rfl⟩
      go_wp2_with fail
      refine HN2.out.mono ?_
      rintro _ W ⟨rfl, rfl⟩
      go_wp2_with fail
      refine hAg.out.mono ?_
      rintro _ w2 ⟨rfl, hB⟩
      go_wp2_with fail
      refine (works_w w2).mono ?_
      rintro _ w3 ⟨rfl, hB3⟩
      go_wp2
      go_ret
      exact ⟨rfl, hB.trans (hB3.mono hB.size)⟩
  · obtain ⟨n, rfl⟩ : ∃ m : Nat, n = m := ⟨n.toNat, by omega⟩
    have hn : n ≤ 65536 := by omega
    clear hbad
    by_cases hbig : 2000 < n
    · have t1 : decide ((n : Int) > 2000) = true := decide_eq_true (by omega)
      have t2 : decide ((n : Int) ≤ 65536) = true := decide_eq_true (by omega)
      go_enter Try.func7, Try.ntmps7
      go_wp2_with fail
      refine (new_w n W hn).mono ?_
      rintro _ w1 ⟨pf, g, rfl, h1, f1, hp, hg⟩
      have hT := trees_w h1
      rw [nc_none] at hT
      have HT := Lib.hid hT; clear hT h1
      have hB1 := f1.below (by simp)
      go_wp2_with fail
      refine HT.out.mono ?_
      rintro _ _ ⟨rfl, k, rfl⟩
      go_wp2_with fail
      refine (works_w _).mono ?_
      rintro _ w3 ⟨rfl, hB3⟩
      go_wp2
      go_ret
      exact ⟨rfl, hB1.trans ((Fr.below ((Fr.refl [] w1).drewN k) (by simp)).mono hB1.size |>.trans (hB3.mono (by simpa using hB1.size)))⟩
    · have t1 : decide ((n : Int) > 2000) = false := decide_eq_false (by omega)
      go_enter Try.func7, Try.ntmps7
      go_wp2_with fail
      refine (new_w n W hn).mono ?_
      rintro _ w1 ⟨pf, g, rfl, h1, f1, hp, hg⟩
      have H1 := Lib.hid (And.intro h1 f1); clear h1 f1
      go_wp2_with fail
      refine (new_r w1 n hn).mono ?_
      rintro _ w2 ⟨pr, vK, rfl, h2, f2, hr⟩
      have hBo : Both W w2 pf g pr vK (.slice none 0 0) n (fun _ => 0) [] := by
        have hl := LG.lts H1.out.1
        have hs := H1.out.2.size
        refine ⟨by rw [EK_nil]; exact LG.fr H1.out.1 f2 (by simp) (by simp), h2, EL.nil hn (by rw [EK_nil]; exact LG.frs H1.out.1), H1.out.2.trans' f2, ⟨hp, hg⟩, fun q hq => ?_⟩
        have := hr q hq; omega
      have HBo := Lib.hid hBo; clear hBo h2 f2 hr H1
      go_wp2_with fail
      refine (agree_w HBo.out a b a).mono ?_
      rintro _ w3 ⟨rfl, hB3⟩
      have hB := hB3.below
      clear hB3 HBo
      go_wp2_with fail
      refine (works_w _).mono ?_
      rintro _ w4 ⟨rfl, hB4⟩
      go_wp2
      go_ret
      exact ⟨rfl, hB.trans (hB4.mono hB.size)⟩
end Go.Proofs.Ytoppjjgecgbbkaa

namespace Go.Proofs.Ytoppjjgecgbbkaa.lctNews
open Go.ChangeShapes Go.WideShapes Go.ChangeAt Go.RowKit
set_option linter.unusedVariables false

theorem own : ownKnob Try.prog.godebug = none := by kernel_rfl
theorem laidOut : laidOutB Try.prog = true := by kernel_rfl

set_option maxRecDepth 100000 in
theorem lifted (os : Os) (started : os.Started) (H : Type) (enc : TypeId × Value → H) :
    ReturnsInHanded {} Try.checked os 7 .any (Rows.lctNewsSpec.pre6 enc Try.prog Try.f7 Rows.lctNewsRow.domain false) (Rows.lctNewsSpec.post enc Try.prog Try.f7 false true false false) := by
  refine returnsInHanded_of_change (C := Try.checked) own started (by kernel_rfl) Try.func7
    (ChangeSpec.witness6 (enc := enc) (C := Try.checked) false ⟨#[], #[.int .i64 0, .int .i64 0, .int .i64 0], []⟩ 8 (by kernel_rfl) (by kernel_rfl) (by kernel_rfl) (by kernel_rfl)) ?_
  intro W base args ds gs before hval0 hW hcnd _
  have hval : ∀ (j : Nat) t v, Try.f7.params[j]? = some t → args[j]? = some v → Value.okWide Try.prog W .any base t v := hval0
  have hW' := hW
  obtain ⟨p, q, hA0, hV, rfl, hfz, hnd⟩ := hW
  have hA : DataW.TrodAll enc Try.prog W 0 (fun _ => true) true Try.f7.params.toList args.toList ds p := hA0
  rw [Try.params7] at hA hval
  obtain ⟨v0, vs0, d0, ds0, p0, q0, hargs, rfl, rfl, h0, r0⟩ := trodAll_cons hA
  obtain ⟨v1, vs1, d1, ds1, p1, q1, rfl, rfl, rfl, h1, r1⟩ := trodAll_cons r0
  obtain ⟨v2, vs2, d2, ds2, p2, q2, rfl, rfl, rfl, h2, r2⟩ := trodAll_cons r1
  obtain ⟨rfl, rfl, rfl⟩ := trodAll_nil r2
  obtain rfl : args = #[v0, v1, v2] := by cases args; simp_all
  obtain ⟨rfl, rfl⟩ := trodVars_none hV
  obtain ⟨a0, rfl, rfl, rfl, w0⟩ := open_int Try.underlying3 (hval 0 3 v0 rfl rfl) h0
  obtain ⟨a1, rfl, rfl, rfl, w1⟩ := open_int Try.underlying3 (hval 1 3 v1 rfl rfl) h1
  obtain ⟨a2, rfl, rfl, rfl, w2⟩ := open_int Try.underlying3 (hval 2 3 v2 rfl rfl) h2
  clear hA0 hval0
  refine (walk_lctNews W a0 w0 a1 w1 a2 w2).mono fun e W' ⟨he, bel⟩ => ?_
  subst he
  exact ⟨_, rfl, _, _, _, [], _, [], hW', trodAll_mk1 (shut_bool Try.underlying4 _), (trodAll_cons_mk (shut_int Try.underlying3 w0) (trodAll_cons_mk (shut_int Try.underlying3 w1) (trodAll_cons_mk (shut_int Try.underlying3 w2) trodAll_mk0))), rfl, bel.frame _, fun h => by cases h⟩

theorem over : Rows.lctNewsRow.holds Try.pinned (OpenSpec.ofChange Rows.lctNewsSpec) :=
  OpenClaim.holds_of_wide 7 Try.f7 rfl rfl rfl rfl rfl rfl rfl ⟨rfl, rfl, rfl, rfl, rfl⟩ rfl rfl rfl rfl rfl (by kernel_rfl) Try.func7 (by kernel_rfl)
    (of_decide_eq_true (by kernel_rfl)) (by unfold Func.isWrapper; first | (rw [if_pos (by decide +kernel)]; kernel_rfl) | (rw [if_neg (by decide +kernel)]; exact ⟨rfl, rfl⟩))
    (fun os started H enc _ => lifted os started H enc)

end Go.Proofs.Ytoppjjgecgbbkaa.lctNews

namespace Go.Proofs.Ytoppjjgecgbbkaa
theorem lctNews_holds : Rows.LctNewsSaid := lctNews.over
#print axioms lctNews_holds
end Go.Proofs.Ytoppjjgecgbbkaa
