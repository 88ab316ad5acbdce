/- LctNil: the walk. -/
import Derived.Test.YtoppjjgecgbbkaaLctDet
import Derived.Test.YtoppjjgecgbbkaaLawKit
namespace Go.Proofs.Ytoppjjgecgbbkaa
open Go.RowKit
set_option maxRecDepth 10000
set_option maxHeartbeats 800000

@[go_sem] theorem eq_lct_nil (a : Addr) (w : World) : (binOp .eql 25 (.pointer none) (.pointer (some a))).run Try.prog w = .ok (.bool false) w := by
  have h : ∀ d : Nat, (Op.equalIn (d + 1) 25 (.pointer none) (.pointer (some a))).run Try.prog w = .ok false w := fun d => by
    simp [Op.equalIn, run_underlying Try.underlying25]
  simp only [binOp]
  simp [Op.equal, Op.maxDepth, h 9999]

/-- A nil forest, or one that was not made by New. -/
def BadF (w : World) (q : Option Addr) : Prop := q = none ∨ ∃ p, q = some ⟨p, 0, none⟩ ∧ p < w.heap.size ∧ w.cell? ⟨p, 0, none⟩ = some (.pointer none)
theorem BadF.fr {w w' : World} {q : Option Addr} (h : BadF w q) (hf : Below w.heap.size w w') : BadF w' q := by
  rcases h with h | ⟨p, h1, h2, h3⟩
  · exact .inl h
  · exact .inr ⟨p, h1, Nat.lt_of_lt_of_le h2 hf.size, (hf.cell (p := ⟨p, 0, none⟩) h2).trans h3⟩

section
variable {w : World} {q : Option Addr} (h : BadF w q)
include h
theorem bad_valid : Calls Try.prog 37 #[.pointer q] w fun e w' => e = .returned (.bool false) ∧ w' = w := by
  rcases h with rfl | ⟨pt, rfl, _, hc⟩
  · go_enter Try.func37, Try.ntmps37
    go_wp2
    go_ret
    exact ⟨rfl, rfl⟩
  · go_enter Try.func37, Try.ntmps37
    go_wp2
    go_ret
    exact ⟨rfl, rfl⟩
theorem bad_has (a : Int) : Calls Try.prog 33 #[.pointer q, .int .i64 a] w fun e w' => e = .returned (.bool false) ∧ w' = w := by
  have H := Lib.hid (bad_valid h); clear h
  go_enter Try.func33, Try.ntmps33
  go_wp2_with (go_at_call 37; refine H.out.mono ?_; rintro e w' ⟨rfl, rfl⟩)
  go_ret
  exact ⟨rfl, rfl⟩
theorem bad_check (v : Value) : Calls Try.prog 35 #[.pointer q, v] w fun e w' => e = .returned (.int .i64 1) ∧ w' = w := by
  have H := Lib.hid (bad_valid h); clear h
  go_enter Try.func35, Try.ntmps35
  go_wp2_with (go_at_call 37; refine H.out.mono ?_; rintro e w' ⟨rfl, rfl⟩)
  go_ret
  exact ⟨rfl, rfl⟩
theorem bad_key (a : Int) : Calls Try.prog 27 #[.pointer q, .int .i64 a] w fun e w' => e = .returned (.int .i64 0) ∧ w' = w := by
  have H := Lib.hid (bad_has h a); clear h
  go_enter Try.func27, Try.ntmps27
  go_wp2_with (go_at_call 33; refine H.out.mono ?_; rintro e w' ⟨rfl, rfl⟩)
  go_ret
  exact ⟨rfl, rfl⟩
theorem bad_size (a : Int) : Calls Try.prog 18 #[.pointer q, .int .i64 a] w fun e w' => e = .returned (.int .i64 0) ∧ w' = w := by
  have H := Lib.hid (bad_has h a); clear h
  go_enter Try.func18, Try.ntmps18
  go_wp2_with (go_at_call 33; refine H.out.mono ?_; rintro e w' ⟨rfl, rfl⟩)
  go_ret
  exact ⟨rfl, rfl⟩
theorem bad_connected (a b : Int) : Calls Try.prog 15 #[.pointer q, .int .i64 a, .int .i64 b] w fun e w' => e = .returned (.bool false) ∧ w' = w := by
  have H := Lib.hid (bad_has h a); clear h
  go_enter Try.func15, Try.ntmps15
  go_wp2_with (go_at_call 33; refine H.out.mono ?_; rintro e w' ⟨rfl, rfl⟩)
  go_ret
  exact ⟨rfl, rfl⟩
theorem bad_trees : Calls Try.prog 17 #[.pointer q] w fun e w' => e = .returned (.int .i64 0) ∧ w' = w := by
  have H := Lib.hid (bad_valid h); clear h
  go_enter Try.func17, Try.ntmps17
  go_wp2_with (go_at_call 37; refine H.out.mono ?_; rintro e w' ⟨rfl, rfl⟩)
  go_ret
  exact ⟨rfl, rfl⟩
theorem bad_copy : Calls Try.prog 29 #[.pointer q] w fun e w' => e = .returned (.pointer none) ∧ w' = w := by
  have H := Lib.hid (bad_valid h); clear h
  go_enter Try.func29, Try.ntmps29
  go_wp2_with (go_at_call 37; refine H.out.mono ?_; rintro e w' ⟨rfl, rfl⟩)
  go_ret
  exact ⟨rfl, rfl⟩
theorem bad_path (a b : Int) : Calls Try.prog 22 #[.pointer q, .int .i64 a, .int .i64 b] w fun e w' => e = .returned (.slice none 0 0) ∧ w' = w := by
  have H := Lib.hid (bad_connected h a b); clear h
  go_enter Try.func22, Try.ntmps22
  go_wp2_with (go_at_call 15; refine H.out.mono ?_; rintro e w' ⟨rfl, rfl⟩)
  go_ret
  exact ⟨rfl, rfl⟩
theorem bad_dist (a b : Int) : Calls Try.prog 21 #[.pointer q, .int .i64 a, .int .i64 b] w fun e w' => e = .returned (.int .i64 (-1)) ∧ w' = w := by
  have H := Lib.hid (bad_connected h a b); clear h
  go_enter Try.func21, Try.ntmps21
  go_wp2_with (go_at_call 15; refine H.out.mono ?_; rintro e w' ⟨rfl, rfl⟩)
  go_ret
  exact ⟨rfl, rfl⟩
theorem bad_min (a b : Int) : Calls Try.prog 28 #[.pointer q, .int .i64 a, .int .i64 b] w fun e w' => e = .returned (.tuple #[.int .i64 0, .bool false]) ∧ w' = w := by
  have H := Lib.hid (bad_connected h a b); clear h
  go_enter Try.func28, Try.ntmps28
  go_wp2_with (go_at_call 15; refine H.out.mono ?_; rintro e w' ⟨rfl, rfl⟩)
  go_ret2
  exact ⟨rfl, rfl⟩
theorem bad_meet (a b c : Int) : Calls Try.prog 20 #[.pointer q, .int .i64 a, .int .i64 b, .int .i64 c] w fun e w' => e = .returned (.tuple #[.int .i64 0, .bool false]) ∧ w' = w := by
  have H := Lib.hid (bad_connected h a b); clear h
  go_enter Try.func20, Try.ntmps20
  go_wp2_with (go_at_call 15; refine H.out.mono ?_; rintro e w' ⟨rfl, rfl⟩)
  go_ret2
  exact ⟨rfl, rfl⟩
theorem bad_set (a k : Int) : Calls Try.prog 26 #[.pointer q, .int .i64 a, .int .i64 k] w fun e w' => e = .returned (.int .i64 1) ∧ Below w.heap.size w w' := by
  have hB : Below w.heap.size w (w.alloc (.cells #[.int .i64 a] 3)) := (Below.refl _ w).alloc (Nat.le_refl _) _
  have H := Lib.hid (fun v => bad_check (h.fr hB) v); clear h
  go_enter Try.func26, Try.ntmps26
  go_wp2_with (go_at_call 35; refine (H.out _).mono ?_; rintro e w' ⟨rfl, rfl⟩)
  go_ret
  exact ⟨rfl, hB⟩
theorem bad_link (a b : Int) : Calls Try.prog 16 #[.pointer q, .int .i64 a, .int .i64 b] w fun e w' => e = .returned (.int .i64 1) ∧ Below w.heap.size w w' := by
  have hB : Below w.heap.size w (w.alloc (.cells #[.int .i64 a, .int .i64 b] 3)) := (Below.refl _ w).alloc (Nat.le_refl _) _
  have H := Lib.hid (fun v => bad_check (h.fr hB) v); clear h
  go_enter Try.func16, Try.ntmps16
  go_wp2_with (go_at_call 35; refine (H.out _).mono ?_; rintro e w' ⟨rfl, rfl⟩)
  go_ret
  exact ⟨rfl, hB⟩
theorem bad_cut (a b : Int) : Calls Try.prog 30 #[.pointer q, .int .i64 a, .int .i64 b] w fun e w' => e = .returned (.int .i64 1) ∧ Below w.heap.size w w' := by
  have hB : Below w.heap.size w (w.alloc (.cells #[.int .i64 a, .int .i64 b] 3)) := (Below.refl _ w).alloc (Nat.le_refl _) _
  have H := Lib.hid (fun v => bad_check (h.fr hB) v); clear h
  go_enter Try.func30, Try.ntmps30
  go_wp2_with (go_at_call 35; refine (H.out _).mono ?_; rintro e w' ⟨rfl, rfl⟩)
  go_ret
  exact ⟨rfl, hB⟩
end

theorem walk_lctNil (w : World) (a : Int) (_wa : (Lit.int .i64 a).wf = true) (b : Int) (_wb : (Lit.int .i64 b).wf = true) (c : Int) (_wc : (Lit.int .i64 c).wf = true) (k : Int) (_wk : (Lit.int .i64 k).wf = true) :
    Calls Try.prog 11 #[.int .i64 a, .int .i64 b, .int .i64 c, .int .i64 k] w fun e w' => e = .returned (.bool true) ∧ Below w.heap.size w w' := by
  clear _wa _wb _wc _wk
  go_enter Try.func11, Try.ntmps11
  go_wp2
  obtain ⟨W, hW⟩ : ∃ W, (w.alloc (.cells #[.pointer none, .slice none 0 0, .int .i64 0] 65)).alloc (.cells #[.pointer none, .pointer (some ⟨w.heap.size, 0, none⟩)] 25) = W := ⟨_, rfl⟩
  have e1 : Blk W w.heap.size 65 [.pointer none, .slice none 0 0, .int .i64 0] := by subst hW; exact (Blk.new w _ _).alloc _
  have e2 : Blk W (w.heap.size + 1) 25 [.pointer none, .pointer (some ⟨w.heap.size, 0, none⟩)] := by
    subst hW
    have := Blk.new (w.alloc (.cells #[.pointer none, .slice none 0 0, .int .i64 0] 65)) [.pointer none, .pointer (some ⟨w.heap.size, 0, none⟩)] 25
    rw [World.size_alloc] at this; exact this
  have hB : Below w.heap.size w W := by subst hW; exact ((Below.refl _ w).alloc (Nat.le_refl _) _).alloc (by simp) _
  rw [hW]
  clear hW
  have c0 : W.cell? ⟨w.heap.size + 1, 0, none⟩ = some (.pointer none) := e2.cell 0
  have c1 : W.cell? ⟨w.heap.size + 1, 1, none⟩ = some (.pointer (some ⟨w.heap.size, 0, none⟩)) := e2.cell 1
  have cz : W.cell? ⟨w.heap.size, 0, none⟩ = some (.pointer none) := e1.cell 0
  have l1 := e1.lt
  have l2 := e2.lt
  have HC := Lib.hid (And.intro (And.intro c0 c1) cz); clear c0 c1 cz e1 e2
  go_loopw [11] (fun x wr => ∃ j : Nat, j ≤ 2 ∧ x = .int .i64 j ∧ Below W.heap.size W wr) (fun x _ => 2 - (intOf x).toNat)
  case atStart => exact ⟨0, by omega, rfl, Below.refl _ _⟩
  case round =>
    obtain ⟨j, hj, rfl, hBr⟩ := hrel
    by_cases hlt : j < 2
    · obtain ⟨q, hv, hbt⟩ : ∃ q, wr.cell? ⟨w.heap.size + 1, j, none⟩ = some (.pointer q) ∧ BadF wr q := by
        rcases (show j = 0 ∨ j = 1 by omega) with rfl | rfl
        · exact ⟨_, (hBr.cell (p := ⟨w.heap.size + 1, 0, none⟩) l2).trans HC.out.1.1, .inl rfl⟩
        · exact ⟨_, (hBr.cell (p := ⟨w.heap.size + 1, 1, none⟩) l2).trans HC.out.1.2, .inr ⟨_, rfl, Nat.lt_of_lt_of_le l1 hBr.size, (hBr.cell (p := ⟨w.heap.size, 0, none⟩) l1).trans HC.out.2⟩⟩
      have HB := Lib.hid hbt; clear hbt
      have hj2 : (j : Int) < 2 := by omega
      go_wp2_with fail
      refine (bad_set HB.out a k).mono ?_
      rintro _ w2 ⟨rfl, b2⟩
      have H2 := Lib.hid (HB.out.fr b2)
      go_wp2_with fail
      refine (bad_link H2.out a b).mono ?_
      rintro _ w3 ⟨rfl, b3⟩
      have H3 := Lib.hid (H2.out.fr b3)
      go_wp2_with fail
      refine (bad_cut H3.out a b).mono ?_
      rintro _ w4 ⟨rfl, b4⟩
      have H4 := Lib.hid (H3.out.fr b4)
      have hB4 : Below W.heap.size W w4 := ((hBr.trans (b2.mono hBr.size)).trans (b3.mono (Nat.le_trans hBr.size b2.size))).trans (b4.mono (Nat.le_trans hBr.size (Nat.le_trans b2.size b3.size)))
      clear HB H2 H3 b2 b3 b4 hBr hv
      go_wp2_with (first | (go_at_call 28; refine (bad_min H4.out a b).mono ?_; rintro e w' ⟨rfl, rfl⟩) | (go_at_call 20; refine (bad_meet H4.out a b c).mono ?_; rintro e w' ⟨rfl, rfl⟩) | (go_at_call 27; refine (bad_key H4.out a).mono ?_; rintro e w' ⟨rfl, rfl⟩) | (go_at_call 15; refine (bad_connected H4.out a b).mono ?_; rintro e w' ⟨rfl, rfl⟩) | (go_at_call 18; refine (bad_size H4.out a).mono ?_; rintro e w' ⟨rfl, rfl⟩) | (go_at_call 17; refine (bad_trees H4.out).mono ?_; rintro e w' ⟨rfl, rfl⟩) | (go_at_call 22; refine (bad_path H4.out a b).mono ?_; rintro e w' ⟨rfl, rfl⟩) | (go_at_call 21; refine (bad_dist H4.out a b).mono ?_; rintro e w' ⟨rfl, rfl⟩) | (go_at_call 29; refine (bad_copy H4.out).mono ?_; rintro e w' ⟨rfl, rfl⟩))
      go_roundw
      case rel => exact ⟨j + 1, by omega, by go_num, hB4⟩
      case measure => simp [intOf]; omega
    · go_wp2_with fail
      refine (works_w _).mono ?_
      rintro _ w3 ⟨rfl, hB3⟩
      go_wp2
      go_ret
      exact ⟨rfl, hB.trans ((hBr.trans (hB3.mono hBr.size)).mono hB.size)⟩

end Go.Proofs.Ytoppjjgecgbbkaa
