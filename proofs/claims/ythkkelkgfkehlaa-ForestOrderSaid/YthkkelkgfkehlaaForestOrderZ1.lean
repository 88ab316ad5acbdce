/- The statement 'ForestOrder': for every input the call returns true, and each argument reads afterwards as it read before. -/
import Derived.Test.YthkkelkgfkehlaaB15
import Derived.Test.YthkkelkgfkehlaaB1
/- ForestOrder: the walk. -/
namespace Go.Proofs.Ythkkelkgfkehlaa
open Go.RowKit Classical
set_option maxRecDepth 10000
set_option maxHeartbeats 1600000

theorem treeL_len (S : Nat) (G : EMap) : (treeL S G).length ≤ S := cntT_le S (isTree G)
theorem walk_forestOrder (W : World) (n : Int) (_ : (Lit.int .i64 n).wf = true) (a : Option Addr) (len cap : Nat) (z : Nat → Int × Int × Int) (hz : EdgesF W a len z) (x : Int) (_ : (Lit.int .i64 x).wf = true) (y : Int) (_ : (Lit.int .i64 y).wf = true) :
    Calls Try.prog 5 #[.int .i64 n, .slice a len cap, .int .i64 x, .int .i64 y] W fun e w' => e = .returned (.bool true) ∧ Below W.heap.size W w' := by
  have HS := Lib.hid (small_w36 W n a len cap hz.1)
  have HWk := Lib.hid (fun w => works_w w)
  cases hsm : smallF n len with
  | false =>
    rw [hsm] at HS
    clear hz hsm
    go_enter Try.func5, Try.ntmps5
    go_wp2_with fail
    refine HS.out.mono ?_
    rintro _ w1 ⟨rfl, rfl⟩
    go_wp2_with fail
    refine (HWk.out _).mono ?_
    rintro _ w2 ⟨rfl, hf⟩
    have HF := Lib.hid hf; clear hf
    go_wp2_with fail
    go_ret
    exact ⟨rfl, HF.out.below (by simp)⟩
  | true =>
    rw [hsm] at HS
    obtain ⟨n, rfl, hn, hl⟩ : ∃ m : Nat, n = m ∧ m ≤ 30 ∧ len ≤ 80 := by
      unfold smallF at hsm
      simp only [Bool.and_eq_true, decide_eq_true_eq] at hsm
      exact ⟨n.toNat, by omega, by omega, hsm.2.2⟩
    have HG1 := Lib.hid (grown_w36 W W (Fr.refl _ _) n hn a len cap hl z hz false)
    have HG2 := Lib.hid (fun (w : World) (h : Fr [] W w) => grown_w36 W w h n hn a len cap hl z hz true)
    clear hz hsm
    go_enter Try.func5, Try.ntmps5
    go_wp2_with fail
    refine HS.out.mono ?_
    rintro _ w1 ⟨rfl, rfl⟩
    go_wp2_with fail
    refine HG1.out.mono ?_
    rintro _ w1 ⟨pf, tb, rfl, L, hO, hF, hQ, _⟩
    have H1 := Lib.hid (And.intro hO hO.lt)
    have HG3 := Lib.hid (HG2.out _ hF)
    clear hO hF hQ HG1 HG2
    go_wp2_with fail
    refine HG3.out.mono ?_
    rintro _ w2 ⟨pg, tb2, rfl, L2, hO, hF, hQ, _⟩
    have H2 := Lib.hid (And.intro (H1.out.1.keep0 hF) (And.intro hO (show ∀ q ∈ L, q ∉ L2 from fun q hq hm => by have := hQ q hm; have := H1.out.2 q hq; omega)))
    clear hO hF hQ HG3 H1
    generalize EG len n z (fun _ => True) = G at *
    have A1 := Lib.hid (fo_until H2.out.1 x y)
    go_wp2_with fail
    refine A1.out.mono ?_
    rintro _ w3 ⟨rfl, L', h1, h2, h3⟩
    have H3 := Lib.hid (And.intro h1 (And.intro (H2.out.2.1.keep h2 (fun q hq hm => H2.out.2.2 q hm hq) H2.out.1.new) (show ∀ q ∈ L', q ∉ L2 from fun q hq hm => by
      rcases h3 q hq with e | e
      · exact H2.out.2.2 q e hm
      · have := H2.out.2.1.lt q hm; omega)))
    clear h1 h2 h3 H2 A1
    have A2 := Lib.hid (fo_until H3.out.2.1 x y)
    generalize untilV n G x y = t at *
    generalize untilB n G x y = ok at *
    go_wp2_with fail
    refine A2.out.mono ?_
    rintro _ w4 ⟨rfl, L2', h1, h2, h3⟩
    have H4 := Lib.hid (And.intro (H3.out.1.keep h2 (fun q hq hm => H3.out.2.2 q hq hm) H3.out.2.1.new) (And.intro h1 (show ∀ q ∈ L', q ∉ L2' from fun q hq hm => by
      rcases h3 q hm with e | e
      · exact H3.out.2.2 q hq e
      · have := H3.out.1.lt q hq; omega)))
    clear h1 h2 h3 H3 A2
    have A3 := Lib.hid (fo_edges H4.out.1)
    go_wp2_with fail
    refine A3.out.mono ?_
    rintro _ w5 ⟨v, rfl, r1, q1, h1, f1⟩
    have H5 := Lib.hid (And.intro h1 (And.intro (H4.out.2.1.keep0 f1) r1))
    have hlt5 := fun q (hq : v.ownBlock = some q) => ownsRow_lt r1 hq
    have HL5 := Lib.hid (And.intro H4.out.2.2 hlt5)
    clear h1 f1 r1 q1 A3 H4 hlt5
    have A4 := Lib.hid (fo_edges H5.out.2.1)
    go_wp2_with fail
    refine A4.out.mono ?_
    rintro _ w6 ⟨u, rfl, r1, q1, h1, f1⟩
    have H6 := Lib.hid (And.intro (H5.out.1.keep0 f1) h1)
    have hr5 : RowN w6 v (treeL len G) := RowN.fr H5.out.2.2 f1 (by simp)
    have hSame := same_w hr5 (show RowN w6 u (treeL len G) from r1) (by have := treeL_len len G; omega) (by have := treeL_len len G; omega)
    rw [decide_eq_true rfl] at hSame
    have A5 := Lib.hid hSame
    clear h1 f1 r1 q1 A4 hr5 hSame H5
    go_wp2_with fail
    refine A5.out.mono ?_
    rintro _ w7 ⟨rfl, k, rfl⟩
    have hfk : Fr [] w6 (w6.drewN k) := (Fr.refl _ _).drewN k
    have H7 := Lib.hid (And.intro (H6.out.1.keep0 hfk) (H6.out.2.keep0 hfk))
    clear hfk A5 H6
    generalize w6.drewN k = w7 at *
    have A6 := Lib.hid (fo_count H7.out.1)
    go_wp2_with fail
    refine A6.out.mono ?_
    rintro _ w8 ⟨rfl, h1, f1⟩
    have H8 := Lib.hid (And.intro h1 (H7.out.2.keep0 f1))
    clear h1 f1 A6 H7
    have A7 := Lib.hid (fo_count H8.out.2)
    generalize compG n G = c at *
    go_wp2_with fail
    refine A7.out.mono ?_
    rintro _ w9 ⟨rfl, h1, f1⟩
    have H9 := Lib.hid (And.intro (H8.out.1.keep0 f1) h1)
    clear h1 f1 A7 H8
    have A8 := Lib.hid (fo_size H9.out.1 x)
    go_wp2_with fail
    refine A8.out.mono ?_
    rintro _ wa ⟨rfl, L3, h1, h2, h3⟩
    have Ha := Lib.hid (H9.out.2.keep h2 (fun q hq hm => HL5.out.1 q hm hq) H9.out.1.new)
    clear h1 h2 h3 A8 H9
    have A9 := Lib.hid (fo_size Ha.out x)
    generalize sizeG n G x = s at *
    go_wp2_with fail
    refine A9.out.mono ?_
    rintro _ wb ⟨rfl, L4, h1, h2, h3⟩
    have Hb := Lib.hid h1
    clear h1 h2 h3 A9 Ha
    go_wp2_with fail
    refine (HWk.out _).mono ?_
    rintro _ wc ⟨rfl, hf⟩
    have HF := Lib.hid (Hb.out.fr.trans' hf); clear hf
    go_wp2_with fail
    go_ret
    exact ⟨rfl, HF.out.below (by simp)⟩
end Go.Proofs.Ythkkelkgfkehlaa

namespace Go.Proofs.Ythkkelkgfkehlaa.forestOrder
open Go.ChangeShapes Go.WideShapes Go.ChangeAt Go.RowKit
set_option linter.unusedVariables false

theorem own : ownKnob Try.prog.godebug = none := by kernel_rfl
theorem laidOut : laidOutB Try.prog = true := by kernel_rfl

set_option maxRecDepth 100000 in
theorem lifted (os : Os) (started : os.Started) (H : Type) (enc : TypeId × Value → H) :
    ReturnsInHanded {} Try.checked os 5 .any (Rows.forestOrderSpec.pre6 enc Try.prog Try.f5 Rows.forestOrderRow.domain false) (Rows.forestOrderSpec.post enc Try.prog Try.f5 false true false false) := by
  refine returnsInHanded_of_change (C := Try.checked) own started (by kernel_rfl) Try.func5
    (ChangeSpec.witness6 (enc := enc) (C := Try.checked) false ⟨#[], #[.int .i64 0, .slice none 0 0, .int .i64 0, .int .i64 0], []⟩ 8 (by kernel_rfl) (by kernel_rfl) (by kernel_rfl) (by kernel_rfl)) ?_
  intro W base args ds gs before hval0 hW hcnd _
  have hval : ∀ (j : Nat) t v, Try.f5.params[j]? = some t → args[j]? = some v → Value.okWide Try.prog W .any base t v := hval0
  have hW' := hW
  obtain ⟨p, q, hA0, hV, rfl, hfz, hnd⟩ := hW
  have hA : DataW.TrodAll enc Try.prog W 0 (fun _ => true) true Try.f5.params.toList args.toList ds p := hA0
  rw [Try.params5] at hA hval
  obtain ⟨v0, vs0, d0, ds0, p0, q0, hargs, rfl, rfl, h0, r0⟩ := trodAll_cons hA
  obtain ⟨v1, vs1, d1, ds1, p1, q1, rfl, rfl, rfl, h1, r1⟩ := trodAll_cons r0
  obtain ⟨v2, vs2, d2, ds2, p2, q2, rfl, rfl, rfl, h2, r2⟩ := trodAll_cons r1
  obtain ⟨v3, vs3, d3, ds3, p3, q3, rfl, rfl, rfl, h3, r3⟩ := trodAll_cons r2
  obtain ⟨rfl, rfl, rfl⟩ := trodAll_nil r3
  obtain rfl : args = #[v0, v1, v2, v3] := by cases args; simp_all
  obtain ⟨rfl, rfl⟩ := trodVars_none hV
  obtain ⟨a0, rfl, rfl, rfl, w0⟩ := open_int Try.underlying3 (hval 0 3 v0 rfl rfl) h0
  obtain ⟨a1, len1, cap1, rfl⟩ := okWide_slice Try.underlying22 (hval 1 22 v1 rfl rfl)
  have k1 := h1
  have lt1 : ∀ x ∈ p1, x.block < W.heap.size := by obtain ⟨m, hm⟩ := k1; exact DataW.trod_lt m _ _ _ hm
  obtain ⟨z1, w1⟩ := open_edges h1
  obtain ⟨a2, rfl, rfl, rfl, w2⟩ := open_int Try.underlying3 (hval 2 3 v2 rfl rfl) h2
  obtain ⟨a3, rfl, rfl, rfl, w3⟩ := open_int Try.underlying3 (hval 3 3 v3 rfl rfl) h3
  clear hA0 hval0
  refine (walk_forestOrder W a0 w0 a1 len1 cap1 z1 w1 a2 w2 a3 w3).mono fun e W' ⟨he, bel⟩ => ?_
  subst he
  exact ⟨_, rfl, _, _, _, [], _, [], hW', trodAll_mk1 (shut_bool Try.underlying4 _), (trodAll_cons_mk (shut_int Try.underlying3 w0) (trodAll_cons_mk (Below.trod laidOut (by kernel_rfl) (of_decide_eq_true (by kernel_rfl)) k1 bel lt1) (trodAll_cons_mk (shut_int Try.underlying3 w2) (trodAll_cons_mk (shut_int Try.underlying3 w3) trodAll_mk0)))), rfl, bel.frame _, fun h => by cases h⟩

theorem over : Rows.forestOrderRow.holds Try.pinned (OpenSpec.ofChange Rows.forestOrderSpec) :=
  OpenClaim.holds_of_wide 5 Try.f5 rfl rfl rfl rfl rfl rfl rfl ⟨rfl, rfl, rfl, rfl, rfl⟩ rfl rfl rfl rfl rfl (by kernel_rfl) Try.func5 (by kernel_rfl)
    (of_decide_eq_true (by kernel_rfl)) (by unfold Func.isWrapper; first | (rw [if_pos (by decide +kernel)]; kernel_rfl) | (rw [if_neg (by decide +kernel)]; exact ⟨rfl, rfl⟩))
    (fun os started H enc _ => lifted os started H enc)

end Go.Proofs.Ythkkelkgfkehlaa.forestOrder

namespace Go.Proofs.Ythkkelkgfkehlaa
theorem forestOrder_holds : Rows.ForestOrderSaid := forestOrder.over
#print axioms forestOrder_holds
end Go.Proofs.Ythkkelkgfkehlaa
