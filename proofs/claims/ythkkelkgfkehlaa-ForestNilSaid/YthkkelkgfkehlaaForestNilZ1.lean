/- The statement 'ForestNil': for every input the call returns true, and each argument reads afterwards as it read before. -/
import Derived.Test.YthkkelkgfkehlaaB14
import Derived.Test.YthkkelkgfkehlaaB1
import Derived.Test.YthkkelkgfkehlaaB15
/- ForestNil: the walk. -/
namespace Go.Proofs.Ythkkelkgfkehlaa
open Go.RowKit
set_option maxRecDepth 10000
set_option maxHeartbeats 800000

@[go_sem] theorem eq_for_nil (a : Addr) (w : World) : (binOp .eql 25 (.pointer none) (.pointer (some a))).run Try.prog w = .ok (.bool false) w := by
  have h : ∀ d : Nat, (Op.equalIn (d + 1) 25 (.pointer none) (.pointer (some a))).run Try.prog w = .ok false w := fun d => by
    simp [Op.equalIn, run_underlying Try.underlying25]
  simp only [binOp]
  simp [Op.equal, Op.maxDepth, h 9999]

/-- A nil forest, or one that was not made by New. -/
def BadF (w : World) (q : Option Addr) : Prop := q = none ∨ ∃ p, q = some ⟨p, 0, none⟩ ∧ p < w.heap.size ∧ w.cell? ⟨p, 4, none⟩ = some (.map none)
theorem BadF.fr {w w' : World} {q : Option Addr} (h : BadF w q) (hf : Below w.heap.size w w') : BadF w' q := by
  rcases h with h | ⟨p, h1, h2, h3⟩
  · exact .inl h
  · exact .inr ⟨p, h1, Nat.lt_of_lt_of_le h2 hf.size, (hf.cell (p := ⟨p, 4, none⟩) h2).trans h3⟩

section
variable {w : World} {q : Option Addr} (h : BadF w q)
include h
theorem bad_valid : Calls Try.prog 29 #[.pointer q] w fun e w' => e = .returned (.bool false) ∧ w' = w := by
  rcases h with rfl | ⟨pt, rfl, _, hc⟩
  · go_enter Try.func29, Try.ntmps29
    go_wp2
    go_ret
    exact ⟨rfl, rfl⟩
  · go_enter Try.func29, Try.ntmps29
    go_wp2
    go_ret
    exact ⟨rfl, rfl⟩
theorem bad_has (a : Int) : Calls Try.prog 30 #[.pointer q, .int .i64 a] w fun e w' => e = .returned (.bool false) ∧ w' = w := by
  have H := Lib.hid (bad_valid h); clear h
  go_enter Try.func30, Try.ntmps30
  go_wp2_with (go_at_call 29; refine H.out.mono ?_; rintro e w' ⟨rfl, rfl⟩)
  go_ret
  exact ⟨rfl, rfl⟩
theorem bad_exp : Calls Try.prog 18 #[.pointer q] w fun e w' => e = .returned (.tuple #[.int .i64 0, .bool false]) ∧ w' = w := by
  have H := Lib.hid (bad_valid h); clear h
  go_enter Try.func18, Try.ntmps18
  go_wp2_with (go_at_call 29; refine H.out.mono ?_; rintro e w' ⟨rfl, rfl⟩)
  go_ret2
  exact ⟨rfl, rfl⟩
theorem bad_until (a b : Int) : Calls Try.prog 16 #[.pointer q, .int .i64 a, .int .i64 b] w fun e w' => e = .returned (.tuple #[.int .i64 0, .bool false]) ∧ w' = w := by
  have H := Lib.hid (bad_has h a); clear h
  go_enter Try.func16, Try.ntmps16
  go_wp2_with (go_at_call 30; refine H.out.mono ?_; rintro e w' ⟨rfl, rfl⟩)
  go_ret2
  exact ⟨rfl, rfl⟩
theorem bad_add (s a b x : Int) : Calls Try.prog 28 #[.pointer q, .int .i64 s, .int .i64 a, .int .i64 b, .int .i64 x] w fun e w' => e = .returned (.int .i64 1) ∧ w' = w := by
  have H := Lib.hid (bad_valid h); clear h
  go_enter Try.func28, Try.ntmps28
  go_wp2_with (go_at_call 29; refine H.out.mono ?_; rintro e w' ⟨rfl, rfl⟩)
  go_ret
  exact ⟨rfl, rfl⟩
theorem bad_size (a : Int) : Calls Try.prog 22 #[.pointer q, .int .i64 a] w fun e w' => e = .returned (.int .i64 0) ∧ w' = w := by
  have H := Lib.hid (bad_has h a); clear h
  go_enter Try.func22, Try.ntmps22
  go_wp2_with (go_at_call 30; refine H.out.mono ?_; rintro e w' ⟨rfl, rfl⟩)
  go_ret
  exact ⟨rfl, rfl⟩
theorem bad_conn (a b : Int) : Calls Try.prog 17 #[.pointer q, .int .i64 a, .int .i64 b] w fun e w' => e = .returned (.bool false) ∧ Below w.heap.size w w' := by
  have HH := Lib.hid (fun (w' : World) (hb : Below w.heap.size w w') => bad_has (h.fr hb) a); clear h
  go_enter Try.func17, Try.ntmps17
  go_wp2_with fail
  refine region_cw (fun w' => Below w.heap.size w w') (by kernel_rfl) (by kernel_rfl) (Fr.below ((Fr.refl [] w).drew) (by simp)) ?_
  iterate 2 (refine cw_pure (by kernel_rfl) (fun KK hK => ?_); go_simp; refine hK.out _ ?_; clear hK KK)
  refine cw_val (by kernel_rfl) (.bool false) (fun w' hw' => ?_) ?_
  · go_simp
    refine (HH.out _ hw').mono ?_
    rintro _ w2 ⟨rfl, rfl⟩
    exact ⟨rfl, hw'⟩
  (refine cw_pure (by kernel_rfl) (fun KK hK => ?_); go_simp; refine hK.out _ ?_; clear hK KK)
  iterate 3 (refine cw_skip (by kernel_rfl) ?_; go_frame)
  iterate 2 (refine cw_pure (by kernel_rfl) (fun KK hK => ?_); go_simp; refine hK.out _ ?_; clear hK KK)
  iterate 18 (refine cw_skip (by kernel_rfl) ?_; go_frame)
  iterate 2 (refine cw_pure (by kernel_rfl) (fun KK hK => ?_); go_simp; refine hK.out _ ?_; clear hK KK)
  refine cw_nil ?_
  intro w2 h2
  have H2 := Lib.hid h2; clear h2
  go_wp2
  go_ret
  exact ⟨rfl, H2.out⟩
theorem bad_count : Calls Try.prog 21 #[.pointer q] w fun e w' => e = .returned (.int .i64 0) ∧ w' = w := by
  have H := Lib.hid (bad_valid h); clear h
  go_enter Try.func21, Try.ntmps21
  go_wp2_with (go_at_call 29; refine H.out.mono ?_; rintro e w' ⟨rfl, rfl⟩)
  go_ret
  exact ⟨rfl, rfl⟩
theorem bad_tree (s : Int) : Calls Try.prog 14 #[.pointer q, .int .i64 s] w fun e w' => e = .returned (.bool false) ∧ w' = w := by
  have H := Lib.hid (bad_valid h); clear h
  go_enter Try.func14, Try.ntmps14
  go_wp2_with (go_at_call 29; refine H.out.mono ?_; rintro e w' ⟨rfl, rfl⟩)
  go_ret
  exact ⟨rfl, rfl⟩
theorem bad_edges : Calls Try.prog 20 #[.pointer q] w fun e w' => e = .returned (.slice none 0 0) ∧ w' = w := by
  have H := Lib.hid (bad_valid h); clear h
  go_enter Try.func20, Try.ntmps20
  go_wp2_with (go_at_call 29; refine H.out.mono ?_; rintro e w' ⟨rfl, rfl⟩)
  go_ret
  exact ⟨rfl, rfl⟩
theorem bad_len : Calls Try.prog 25 #[.pointer q] w fun e w' => e = .returned (.int .i64 0) ∧ w' = w := by
  have H := Lib.hid (bad_valid h); clear h
  go_enter Try.func25, Try.ntmps25
  go_wp2_with (go_at_call 29; refine H.out.mono ?_; rintro e w' ⟨rfl, rfl⟩)
  go_ret
  exact ⟨rfl, rfl⟩
theorem bad_copy : Calls Try.prog 27 #[.pointer q] w fun e w' => e = .returned (.pointer none) ∧ w' = w := by
  have H := Lib.hid (bad_valid h); clear h
  go_enter Try.func27, Try.ntmps27
  go_wp2_with (go_at_call 29; refine H.out.mono ?_; rintro e w' ⟨rfl, rfl⟩)
  go_ret
  exact ⟨rfl, rfl⟩
end

theorem walk_forestNil (w : World) (s : Int) (_ws : (Lit.int .i64 s).wf = true) (a : Int) (_wa : (Lit.int .i64 a).wf = true) (b : Int) (_wb : (Lit.int .i64 b).wf = true) (k : Int) (_wk : (Lit.int .i64 k).wf = true) :
    Calls Try.prog 10 #[.int .i64 s, .int .i64 a, .int .i64 b, .int .i64 k] w fun e w' => e = .returned (.bool true) ∧ Below w.heap.size w w' := by
  clear _ws _wa _wb _wk
  go_enter Try.func10, Try.ntmps10
  go_wp2
  obtain ⟨W, hW⟩ : ∃ W, (w.alloc (.cells #[.int .i64 0, .int .i64 0, .pointer none, .pointer none, .map none, .int .i64 0] 60)).alloc (.cells #[.pointer none, .pointer (some ⟨w.heap.size, 0, none⟩)] 25) = W := ⟨_, rfl⟩
  have e1 : Blk W w.heap.size 60 [.int .i64 0, .int .i64 0, .pointer none, .pointer none, .map none, .int .i64 0] := by subst hW; exact (Blk.new w _ _).alloc _
  have e2 : Blk W (w.heap.size + 1) 25 [.pointer none, .pointer (some ⟨w.heap.size, 0, none⟩)] := by
    subst hW
    have := Blk.new (w.alloc (.cells #[.int .i64 0, .int .i64 0, .pointer none, .pointer none, .map none, .int .i64 0] 60)) [.pointer none, .pointer (some ⟨w.heap.size, 0, none⟩)] 25
    rw [World.size_alloc] at this; exact this
  have hB : Below w.heap.size w W := by subst hW; exact ((Below.refl _ w).alloc (Nat.le_refl _) _).alloc (by simp) _
  rw [hW]
  clear hW
  have c0 : W.cell? ⟨w.heap.size + 1, 0, none⟩ = some (.pointer none) := e2.cell 0
  have c1 : W.cell? ⟨w.heap.size + 1, 1, none⟩ = some (.pointer (some ⟨w.heap.size, 0, none⟩)) := e2.cell 1
  have cz : W.cell? ⟨w.heap.size, 4, none⟩ = some (.map none) := e1.cell 4
  have l1 := e1.lt
  have l2 := e2.lt
  have HC := Lib.hid (And.intro (And.intro c0 c1) cz); clear c0 c1 cz e1 e2
  go_loopw [11] (fun x wr => ∃ j : Nat, j ≤ 2 ∧ x = .int .i64 j ∧ Below W.heap.size W wr) (fun x _ => 2 - (intOf x).toNat)
  case atStart => exact ⟨0, by omega, rfl, Below.refl _ _⟩
  case round =>
    obtain ⟨j, hj, rfl, hBr⟩ := hrel
    by_cases hlt : j < 2
    · obtain ⟨q, hv, hbt⟩ : ∃ q, wr.cell? ⟨w.heap.size + 1, j, none⟩ = some (.pointer q) ∧ BadF wr q := by
        rcases (show j = 0 ∨ j = 1 by omega) with rfl | rfl
        · exact ⟨_, (hBr.cell (p := ⟨w.heap.size + 1, 0, none⟩) l2).trans HC.out.1.1, .inl rfl⟩
        · exact ⟨_, (hBr.cell (p := ⟨w.heap.size + 1, 1, none⟩) l2).trans HC.out.1.2, .inr ⟨_, rfl, Nat.lt_of_lt_of_le l1 hBr.size, (hBr.cell (p := ⟨w.heap.size, 4, none⟩) l1).trans HC.out.2⟩⟩
      have HB := Lib.hid hbt; clear hbt
      have hj2 : (j : Int) < 2 := by omega
      have HBr := Lib.hid hBr; clear hBr
      go_wp2_with (first | (go_at_call 18; refine (bad_exp HB.out).mono ?_; rintro e w' ⟨rfl, rfl⟩) | (go_at_call 16; refine (bad_until HB.out a b).mono ?_; rintro e w' ⟨rfl, rfl⟩) | (go_at_call 28; refine (bad_add HB.out s a b k).mono ?_; rintro e w' ⟨rfl, rfl⟩) | fail)
      refine (bad_conn HB.out a b).mono ?_
      rintro _ w2 ⟨rfl, b2⟩
      have H2 := Lib.hid (HB.out.fr b2)
      have H2B := Lib.hid (HBr.out.trans (b2.mono HBr.out.size))
      clear HB HBr b2 hv
      go_wp2_with (first | (go_at_call 22; refine (bad_size H2.out a).mono ?_; rintro e w' ⟨rfl, rfl⟩) | (go_at_call 21; refine (bad_count H2.out).mono ?_; rintro e w' ⟨rfl, rfl⟩) | (go_at_call 14; refine (bad_tree H2.out s).mono ?_; rintro e w' ⟨rfl, rfl⟩) | (go_at_call 20; refine (bad_edges H2.out).mono ?_; rintro e w' ⟨rfl, rfl⟩) | (go_at_call 25; refine (bad_len H2.out).mono ?_; rintro e w' ⟨rfl, rfl⟩) | (go_at_call 27; refine (bad_copy H2.out).mono ?_; rintro e w' ⟨rfl, rfl⟩))
      go_roundw
      case rel => exact ⟨j + 1, by omega, by go_num, H2B.out⟩
      case measure => simp [intOf]; omega
    · have HBr := Lib.hid hBr; clear hBr
      go_wp2_with fail
      refine (works_w _).mono ?_
      rintro _ w3 ⟨rfl, hf⟩
      have hB3 := Lib.hid (hf.below (by simp)); clear hf
      go_wp2
      go_ret
      exact ⟨rfl, hB.trans ((HBr.out.trans (hB3.out.mono HBr.out.size)).mono hB.size)⟩
end Go.Proofs.Ythkkelkgfkehlaa

namespace Go.Proofs.Ythkkelkgfkehlaa.forestNil
open Go.ChangeShapes Go.WideShapes Go.ChangeAt Go.RowKit
set_option linter.unusedVariables false

theorem own : ownKnob Try.prog.godebug = none := by kernel_rfl
theorem laidOut : laidOutB Try.prog = true := by kernel_rfl

set_option maxRecDepth 100000 in
theorem lifted (os : Os) (started : os.Started) (H : Type) (enc : TypeId × Value → H) :
    ReturnsInHanded {} Try.checked os 10 .any (Rows.forestNilSpec.pre6 enc Try.prog Try.f10 Rows.forestNilRow.domain false) (Rows.forestNilSpec.post enc Try.prog Try.f10 false true false false) := by
  refine returnsInHanded_of_change (C := Try.checked) own started (by kernel_rfl) Try.func10
    (ChangeSpec.witness6 (enc := enc) (C := Try.checked) false ⟨#[], #[.int .i64 0, .int .i64 0, .int .i64 0, .int .i64 0], []⟩ 8 (by kernel_rfl) (by kernel_rfl) (by kernel_rfl) (by kernel_rfl)) ?_
  intro W base args ds gs before hval0 hW hcnd _
  have hval : ∀ (j : Nat) t v, Try.f10.params[j]? = some t → args[j]? = some v → Value.okWide Try.prog W .any base t v := hval0
  have hW' := hW
  obtain ⟨p, q, hA0, hV, rfl, hfz, hnd⟩ := hW
  have hA : DataW.TrodAll enc Try.prog W 0 (fun _ => true) true Try.f10.params.toList args.toList ds p := hA0
  rw [Try.params10] at hA hval
  obtain ⟨v0, vs0, d0, ds0, p0, q0, hargs, rfl, rfl, h0, r0⟩ := trodAll_cons hA
  obtain ⟨v1, vs1, d1, ds1, p1, q1, rfl, rfl, rfl, h1, r1⟩ := trodAll_cons r0
  obtain ⟨v2, vs2, d2, ds2, p2, q2, rfl, rfl, rfl, h2, r2⟩ := trodAll_cons r1
  obtain ⟨v3, vs3, d3, ds3, p3, q3, rfl, rfl, rfl, h3, r3⟩ := trodAll_cons r2
  obtain ⟨rfl, rfl, rfl⟩ := trodAll_nil r3
  obtain rfl : args = #[v0, v1, v2, v3] := by cases args; simp_all
  obtain ⟨rfl, rfl⟩ := trodVars_none hV
  obtain ⟨a0, rfl, rfl, rfl, w0⟩ := open_int Try.underlying3 (hval 0 3 v0 rfl rfl) h0
  obtain ⟨a1, rfl, rfl, rfl, w1⟩ := open_int Try.underlying3 (hval 1 3 v1 rfl rfl) h1
  obtain ⟨a2, rfl, rfl, rfl, w2⟩ := open_int Try.underlying3 (hval 2 3 v2 rfl rfl) h2
  obtain ⟨a3, rfl, rfl, rfl, w3⟩ := open_int Try.underlying2 (hval 3 2 v3 rfl rfl) h3
  clear hA0 hval0
  refine (walk_forestNil W a0 w0 a1 w1 a2 w2 a3 w3).mono fun e W' ⟨he, bel⟩ => ?_
  subst he
  exact ⟨_, rfl, _, _, _, [], _, [], hW', trodAll_mk1 (shut_bool Try.underlying4 _), (trodAll_cons_mk (shut_int Try.underlying3 w0) (trodAll_cons_mk (shut_int Try.underlying3 w1) (trodAll_cons_mk (shut_int Try.underlying3 w2) (trodAll_cons_mk (shut_int Try.underlying2 w3) trodAll_mk0)))), rfl, bel.frame _, fun h => by cases h⟩

theorem over : Rows.forestNilRow.holds Try.pinned (OpenSpec.ofChange Rows.forestNilSpec) :=
  OpenClaim.holds_of_wide 10 Try.f10 rfl rfl rfl rfl rfl rfl rfl ⟨rfl, rfl, rfl, rfl, rfl⟩ rfl rfl rfl rfl rfl (by kernel_rfl) Try.func10 (by kernel_rfl)
    (of_decide_eq_true (by kernel_rfl)) (by unfold Func.isWrapper; first | (rw [if_pos (by decide +kernel)]; kernel_rfl) | (rw [if_neg (by decide +kernel)]; exact ⟨rfl, rfl⟩))
    (fun os started H enc _ => lifted os started H enc)

end Go.Proofs.Ythkkelkgfkehlaa.forestNil

namespace Go.Proofs.Ythkkelkgfkehlaa
theorem forestNil_holds : Rows.ForestNilSaid := forestNil.over
#print axioms forestNil_holds
end Go.Proofs.Ythkkelkgfkehlaa
