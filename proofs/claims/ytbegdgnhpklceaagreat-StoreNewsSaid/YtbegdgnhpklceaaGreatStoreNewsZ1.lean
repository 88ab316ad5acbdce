/- The statement 'StoreNews': for every input the call returns true, and each argument reads afterwards as it read before. -/
import Derived.Test.YtbegdgnhpklceaaGreatB22
import Derived.Test.YtbegdgnhpklceaaGreatB5
set_option linter.unusedSimpArgs false
set_option linter.unusedVariables false
/- StoreNews: the walk. -/
namespace Go.Proofs.YtbegdgnhpklceaaGreat
open Go.RowKit
set_option maxRecDepth 10000
set_option maxHeartbeats 3200000

theorem both_nil {qt qr : Option Addr} (h : qt = none ↔ qr = none) : (qt = none ∧ qr = none) ∨ ∃ p q, qt = some p ∧ qr = some q := by
  cases qt with
  | none => exact .inl ⟨rfl, h.1 rfl⟩
  | some p =>
    cases qr with
    | none => exact absurd (h.2 rfl) (by simp)
    | some q => exact .inr ⟨p, q, rfl, rfl⟩
theorem walk_storeNews (W : World) (a1 : Int) (_w1 : (Lit.int .i64 a1).wf = true) (a2 : Int) (_w2 : (Lit.int .i64 a2).wf = true) (a3 : Int) (w3 : (Lit.int .u64 a3).wf = true) (a4 : Int) (_w4 : (Lit.int .i64 a4).wf = true) (a5 : Int) (w5 : (Lit.int .u64 a5).wf = true) :
    Calls Tryz.prog 3 #[.int .i64 a1, .int .i64 a2, .int .u64 a3, .int .i64 a4, .int .u64 a5] W fun e w' => e = .returned (.bool true) ∧ Below W.heap.size W w' := by
  obtain ⟨L, rfl, _⟩ := u64_of_wf w3
  obtain ⟨id, rfl, hid⟩ := u64_of_wf w5
  have HWk := Lib.hid (fun w => works_w w)
  have hid' : id < 18446744073709551616 := hid
  obtain ⟨v, hv⟩ : ∃ v, v = (id + 1) % 18446744073709551616 := ⟨_, rfl⟩
  have hvl : v < 18446744073709551616 := by rw [hv]; exact Nat.mod_lt _ (by omega)
  have hwv : IntKind.u64.wrap ((id : Int) + 1) = (v : Int) := by rw [hv]; simp [IntKind.wrap, IntKind.bits, IntKind.signed]
  clear hv w3 w5 hid _w1 _w2 _w4
  have HN := Lib.hid (new_s W W (Fr.refl [] W) a1 a2)
  go_enter Tryz.func3, Tryz.ntmps3
  go_wp2_with fail
  refine HN.out.mono ?_
  rintro _ w1 ⟨qt, c, rfl, hF1, hN⟩
  have HN2 := Lib.hid (hN w1 (Fr.refl _ _)); clear hN HN
  go_wp2_with fail
  refine HN2.out.mono ?_
  rintro _ w2 ⟨qr, rfl, hnil, hP, hF2⟩
  have HP := Lib.hid hP
  clear hP HN2 hF1 hF2
  have hcc : (c != c) = false := by simp
  rcases both_nil hnil with ⟨rfl, rfl⟩ | ⟨p, q, rfl, rfl⟩
  all_goals
    clear hnil
    go_wp2_with fail
    refine (agree_s HP.out a4 id hid').mono ?_
    rintro _ w3 ⟨rfl, hF3⟩
    have HF := Lib.hid (from_s W w3 (HP.out.fr.trans' hF3) a1 a2 L)
    clear HP hF3 hcc
    go_wp2_with fail
    refine HF.out.mono ?_
    rintro _ w4 ⟨qt, c, rfl, _, hN⟩
    have HN2 := Lib.hid (hN w4 (Fr.refl _ _)); clear hN HF
    go_wp2_with fail
    refine HN2.out.mono ?_
    rintro _ w5 ⟨qr, rfl, hnil, hP, _⟩
    have HP := Lib.hid hP
    clear hP HN2
    have hcc : (c != c) = false := by simp
    rcases both_nil hnil with ⟨rfl, rfl⟩ | ⟨p, q, rfl, rfl⟩
    all_goals
      clear hnil
      go_wp2_with fail
      refine (agree_s HP.out a4 id hid').mono ?_
      rintro _ w6 ⟨rfl, hF6⟩
      have HI := Lib.hid (ins_s (HP.out.go0 hF6) (by omega) id v hid' hvl 0 0 7)
      clear HP hF6 hcc
      go_wp2_with fail
      refine HI.out.mono ?_
      rintro _ w7 ⟨y, code, rfl, _, hN⟩
      have hN2 := hN (w7.alloc (.cells #[.int .i64 y.slot, .int .u64 y.seq, .int .u64 y.u, .int .u64 y.v, .int .i64 y.wt, .int .i64 y.t, .int .i64 y.x] 36)) ((Fr.refl [] w7).alloc _) [w7.heap.size] (fun z hz => .inr (by simp at hz; simp; omega))
      have HN2 := Lib.hid hN2; clear hN hN2 HI
      have hb7 : Blk (w7.alloc (.cells #[.int .i64 y.slot, .int .u64 y.seq, .int .u64 y.u, .int .u64 y.v, .int .i64 y.wt, .int .i64 y.t, .int .i64 y.x] 36)) w7.heap.size 36 (lvC y) := Blk.new w7 (lvC y) 36
      have HB7 := Lib.hid hb7; clear hb7
      go_wp2_with fail
      refine HN2.out.mono ?_
      rintro _ w8 ⟨rfl, hP8, hG8⟩
      have hx8 := (hG8.blk HB7.out (by simp)).fr1 ((Fr.refl [] w8).alloc (.cells #[.int .i64 y.slot, .int .u64 y.seq, .int .u64 y.u, .int .u64 y.v, .int .i64 y.wt, .int .i64 y.t, .int .i64 y.x] 36))
      have hy8 : Blk (w8.alloc (.cells #[.int .i64 y.slot, .int .u64 y.seq, .int .u64 y.u, .int .u64 y.v, .int .i64 y.wt, .int .i64 y.t, .int .i64 y.x] 36)) w8.heap.size 36 (lvC y) := Blk.new w8 (lvC y) 36
      have hlt := (hG8.blk HB7.out (by simp)).lt
      have HP9 := Lib.hid (hP8.go0 ((Fr.refl [] w8).alloc (.cells #[.int .i64 y.slot, .int .u64 y.seq, .int .u64 y.u, .int .u64 y.v, .int .i64 y.wt, .int .i64 y.t, .int .i64 y.x] 36)))
      obtain ⟨x0, x1, x2, x3, x4, x5, x6⟩ := hx8.lvAt
      obtain ⟨y0, y1, y2, y3, y4, y5, y6⟩ := hy8.lvAt
      simp only [Nat.zero_add] at x0 x1 x2 x3 x4 x5 x6 y0 y1 y2 y3 y4 y5 y6
      have hee : lvEq y y = true := decide_eq_true rfl
      have hne : w7.heap.size ≠ w8.heap.size := by omega
      have hkk : ((code : Int) == (code : Int)) = true := by simp
      clear hP8 hG8 hx8 hy8 hlt HN2 HB7
      go_wp2_with fail
      generalize w8.alloc (.cells #[.int .i64 y.slot, .int .u64 y.seq, .int .u64 y.u, .int .u64 y.v, .int .i64 y.wt, .int .i64 y.t, .int .i64 y.x] 36) = w9 at *
      clear x0 x1 x2 x3 x4 x5 x6 y0 y1 y2 y3 y4 y5 y6 hee hne hkk
      refine (HWk.out _).mono ?_
      rintro _ w10 ⟨rfl, hF10⟩
      have HE := Lib.hid (HP9.out.fr.trans' hF10); clear hF10 HP9
      go_wp2_with fail
      go_ret
      exact ⟨rfl, HE.out.below (by simp)⟩
end Go.Proofs.YtbegdgnhpklceaaGreat

namespace Go.Proofs.YtbegdgnhpklceaaGreat.storeNews
open Go.ChangeShapes Go.WideShapes Go.ChangeAt Go.RowKit
set_option linter.unusedVariables false

theorem own : ownKnob Tryz.prog.godebug = none := by kernel_rfl
theorem laidOut : laidOutB Tryz.prog = true := by kernel_rfl

set_option maxRecDepth 100000 in
theorem lifted (os : Os) (started : os.Started) (H : Type) (enc : TypeId × Value → H) :
    ReturnsInHanded {} Tryz.checked os 3 .any (Rows.storeNewsSpec.pre6 enc Tryz.prog Tryz.f3 Rows.storeNewsRow.domain false) (Rows.storeNewsSpec.post enc Tryz.prog Tryz.f3 false true false false) := by
  refine returnsInHanded_of_change (C := Tryz.checked) own started (by kernel_rfl) Tryz.func3
    (ChangeSpec.witness6 (enc := enc) (C := Tryz.checked) false ⟨#[], #[.int .i64 0, .int .i64 0, .int .u64 0, .int .i64 0, .int .u64 0], []⟩ 8 (by kernel_rfl) (by kernel_rfl) (by kernel_rfl) (by kernel_rfl)) ?_
  intro W base args ds gs before hval0 hW hcnd _
  have hval : ∀ (j : Nat) t v, Tryz.f3.params[j]? = some t → args[j]? = some v → Value.okWide Tryz.prog W .any base t v := hval0
  have hW' := hW
  obtain ⟨p, q, hA0, hV, rfl, hfz, hnd⟩ := hW
  have hA : DataW.TrodAll enc Tryz.prog W 0 (fun _ => true) true Tryz.f3.params.toList args.toList ds p := hA0
  rw [Tryz.params3] at hA hval
  obtain ⟨v0, vs0, d0, ds0, p0, q0, hargs, rfl, rfl, h0, r0⟩ := trodAll_cons hA
  obtain ⟨v1, vs1, d1, ds1, p1, q1, rfl, rfl, rfl, h1, r1⟩ := trodAll_cons r0
  obtain ⟨v2, vs2, d2, ds2, p2, q2, rfl, rfl, rfl, h2, r2⟩ := trodAll_cons r1
  obtain ⟨v3, vs3, d3, ds3, p3, q3, rfl, rfl, rfl, h3, r3⟩ := trodAll_cons r2
  obtain ⟨v4, vs4, d4, ds4, p4, q4, rfl, rfl, rfl, h4, r4⟩ := trodAll_cons r3
  obtain ⟨rfl, rfl, rfl⟩ := trodAll_nil r4
  obtain rfl : args = #[v0, v1, v2, v3, v4] := by cases args; simp_all
  obtain ⟨rfl, rfl⟩ := trodVars_none hV
  obtain ⟨a0, rfl, rfl, rfl, w0⟩ := open_int Tryz.underlying3 (hval 0 3 v0 rfl rfl) h0
  obtain ⟨a1, rfl, rfl, rfl, w1⟩ := open_int Tryz.underlying3 (hval 1 3 v1 rfl rfl) h1
  obtain ⟨a2, rfl, rfl, rfl, w2⟩ := open_int Tryz.underlying22 (hval 2 22 v2 rfl rfl) h2
  obtain ⟨a3, rfl, rfl, rfl, w3⟩ := open_int Tryz.underlying3 (hval 3 3 v3 rfl rfl) h3
  obtain ⟨a4, rfl, rfl, rfl, w4⟩ := open_int Tryz.underlying22 (hval 4 22 v4 rfl rfl) h4
  clear hA0 hval0
  refine (walk_storeNews W a0 w0 a1 w1 a2 w2 a3 w3 a4 w4).mono fun e W' ⟨he, bel⟩ => ?_
  subst he
  exact ⟨_, rfl, _, _, _, [], _, [], hW', trodAll_mk1 (shut_bool Tryz.underlying4 _), (trodAll_cons_mk (shut_int Tryz.underlying3 w0) (trodAll_cons_mk (shut_int Tryz.underlying3 w1) (trodAll_cons_mk (shut_int Tryz.underlying22 w2) (trodAll_cons_mk (shut_int Tryz.underlying3 w3) (trodAll_cons_mk (shut_int Tryz.underlying22 w4) trodAll_mk0))))), rfl, bel.frame _, fun h => by cases h⟩

theorem over : Rows.storeNewsRow.holds Tryz.pinned (OpenSpec.ofChange Rows.storeNewsSpec) :=
  OpenClaim.holds_of_wide 3 Tryz.f3 rfl rfl rfl rfl rfl rfl rfl ⟨rfl, rfl, rfl, rfl, rfl⟩ rfl rfl rfl rfl rfl (by kernel_rfl) Tryz.func3 (by kernel_rfl)
    (of_decide_eq_true (by kernel_rfl)) (by unfold Func.isWrapper; first | (rw [if_pos (by decide +kernel)]; kernel_rfl) | (rw [if_neg (by decide +kernel)]; exact ⟨rfl, rfl⟩))
    (fun os started H enc _ => lifted os started H enc)

end Go.Proofs.YtbegdgnhpklceaaGreat.storeNews

namespace Go.Proofs.YtbegdgnhpklceaaGreat
theorem storeNews_holds : Rows.StoreNewsSaid := storeNews.over
#print axioms storeNews_holds
end Go.Proofs.YtbegdgnhpklceaaGreat
