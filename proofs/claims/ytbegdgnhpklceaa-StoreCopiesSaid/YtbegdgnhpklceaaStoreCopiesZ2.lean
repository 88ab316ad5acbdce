/- The statement 'StoreCopies': for every input the call returns true, and each argument reads afterwards as it read before. -/
import Derived.Test.YtbegdgnhpklceaaStoreCopiesZ1
import Derived.Test.YtbegdgnhpklceaaB1
set_option linter.unusedSimpArgs false
set_option linter.unusedVariables false
/- StoreCopies: the walk. -/
namespace Go.Proofs.Ytbegdgnhpklceaa
open Go.RowKit
set_option maxRecDepth 10000
set_option maxHeartbeats 1600000

theorem walk_storeCopies (W : World) (a : Option Addr) (len cap : Nat) (z : Nat → Bool × Nat × Nat × Nat) (hz : MovesF W a len z) (a1 : Int) (w1 : (Lit.int .u8 a1).wf = true) (a2 : Int) (w2 : (Lit.int .u8 a2).wf = true) :
    Calls Try.prog 8 #[.slice a len cap, .int .u8 a1, .int .u8 a2] W fun e w' => e = .returned (.bool true) ∧ Below W.heap.size W w' := by
  obtain ⟨mu, rfl, l1⟩ := u8_of_wf w1
  obtain ⟨mvv, rfl, l2⟩ := u8_of_wf w2
  have HM := Lib.hid (moved_w W a len cap z hz)
  have HWk := Lib.hid (fun w => works_w w)
  have hwu : IntKind.u64.wrap ((mu : Int).tmod 16) = ((mu % 16 : Nat) : Int) := by rw [Int.tmod_eq_emod_of_nonneg (by omega)]; simp [IntKind.wrap, IntKind.bits, IntKind.signed]; omega
  have hwv : IntKind.u64.wrap ((mvv : Int).tmod 16) = ((mvv % 16 : Nat) : Int) := by rw [Int.tmod_eq_emod_of_nonneg (by omega)]; simp [IntKind.wrap, IntKind.bits, IntKind.signed]; omega
  have hu16 : ((mu : Int) % 16) = ((mu % 16 : Nat) : Int) := by omega
  have hv16 : ((mvv : Int) % 16) = ((mvv % 16 : Nat) : Int) := by omega
  have hlu : mu % 16 < 16 := Nat.mod_lt _ (by omega)
  have hlv : mvv % 16 < 16 := Nat.mod_lt _ (by omega)
  generalize mu % 16 = u at *
  generalize mvv % 16 = v at *
  clear hz w1 w2
  go_enter Try.func8, Try.ntmps8
  go_wp2_with fail
  refine HM.out.mono ?_
  rintro _ w1 ⟨ps, s, va, rfl, hS, hr, hb⟩
  clear HM
  have hn := hb.len hS.ok
  have hil : (idsOf s.L).length ≤ 16 := idsN_len _ _
  obtain ⟨av, cv, rfl⟩ := hr.slice
  have HOK := Lib.hid hS.ok
  have HBD := Lib.hid hb
  have HCP := Lib.hid (sg_copy hS)
  have HR0 := Lib.hid hr; clear hS hr hb
  go_wp2_with fail
  refine HCP.out.mono ?_
  rintro _ w2 ⟨pc, rfl, hP2, hF2⟩
  have HP := Lib.hid hP2
  have HR := Lib.hid (HR0.out.fr0 hF2)
  clear hP2 hF2 HCP HR0
  have HL1 := Lib.hid (sg_list HP.out.snd)
  go_wp2_with fail
  refine HL1.out.mono ?_
  rintro _ wa1 ⟨va1, rfl, hra1, _, hFa1⟩
  have hsm1 := same_w hra1 (HR.out.fr0 hFa1) (by omega) (by omega)
  rw [decide_eq_true (rfl : s.L = s.L)] at hsm1
  have HSm1 := Lib.hid hsm1
  have HFa1 := Lib.hid hFa1
  clear hsm1 hra1 hFa1 HL1
  go_wp2_with fail
  refine HSm1.out.mono ?_
  rintro _ wb1 ⟨rfl, hFb1⟩
  have HFb1 := Lib.hid (HFa1.out.trans' hFb1)
  have hid1 := sg_ids (HP.out.snd.go0 HFb1.out)
  rw [ids_of HOK.out HBD.out.id] at hid1
  have HID1 := Lib.hid hid1
  clear HSm1 hFb1 HFa1 hid1
  go_wp2_with fail
  refine HID1.out.mono ?_
  rintro _ wc1 ⟨vc1, rfl, huc1, _, hFc1⟩
  have HFc1 := Lib.hid (HFb1.out.trans' hFc1)
  have HIW1 := Lib.hid (ids_w (HR.out.fr0 HFc1.out) (by omega))
  have HUc1 := Lib.hid huc1
  clear HID1 huc1 hFc1 HFb1
  go_wp2_with fail
  refine HIW1.out.mono ?_
  rintro _ wd1 ⟨vd1, rfl, hud1, _, hFd1⟩
  have hsi1 := sameIDs_w (HUc1.out.fr0 hFd1) hud1 (by omega) (by omega)
  rw [decide_eq_true (rfl : idsOf s.L = idsOf s.L)] at hsi1
  have HSi1 := Lib.hid hsi1
  have HFd1 := Lib.hid (HFc1.out.trans' hFd1)
  clear hsi1 hud1 hFd1 HFc1 HIW1 HUc1
  go_wp2_with fail
  refine HSi1.out.mono ?_
  rintro _ we1 ⟨rfl, hFe1⟩
  have HFe1 := Lib.hid (HFd1.out.trans' hFe1)
  have HIn1 := Lib.hid (incident_w (HP.out.snd.go0 HFe1.out) (HR.out.fr0 HFe1.out) (by omega))
  clear HSi1 hFe1 HFd1
  go_wp2_with fail
  refine HIn1.out.mono ?_
  rintro _ wf1 ⟨rfl, hFf1⟩
  have HFf1 := Lib.hid (HFe1.out.trans' hFf1)
  clear hFf1 HFe1 HIn1
  have hPf := HP.out.go0 HFf1.out
  have hb2 := Blk.new wf1 [.int .u64 u, .int .u64 v, .int .i64 0, .int .i64 0] 32
  have hf2 : Fr [] wf1 (wf1.alloc (.cells #[.int .u64 u, .int .u64 v, .int .i64 0, .int .i64 0] 32)) := (Fr.refl [] wf1).alloc _
  have hPa := hPf.alloc (.cells #[.int .u64 u, .int .u64 v, .int .i64 0, .int .i64 0] 32)
  have HI := Lib.hid (hPa.stepC (fun Z' h => sg_ins h u v 0 0 3 (by omega) (by omega) (by have := HBD.out.last; omega)))
  have H2 := Lib.hid (And.intro hb2 ((HR.out.fr0 HFf1.out).fr0 hf2))
  clear hPf hb2 hf2 hPa HFf1 HP HR
  go_wp2_with fail
  refine HI.out.mono ?_
  rintro _ w3 ⟨rfl, hP3, hG3⟩
  obtain ⟨x, hx⟩ : ∃ x, x = s.insR u v 0 0 3 := ⟨_, rfl⟩
  obtain ⟨code, hcode⟩ : ∃ code : Nat, code = s.chk u v := ⟨_, rfl⟩
  rw [← hx, ← hcode]
  have HXC := Lib.hid (And.intro hx hcode); clear hx hcode
  have hx4 : Blk (w3.alloc (.cells #[.int .i64 x.slot, .int .u64 x.seq, .int .u64 x.u, .int .u64 x.v, .int .i64 x.wt, .int .i64 x.t, .int .i64 x.x] 34)) w3.heap.size 34 (lvC x) := Blk.new w3 (lvC x) 34
  have hf4 : Fr [] w3 (w3.alloc (.cells #[.int .i64 x.slot, .int .u64 x.seq, .int .u64 x.u, .int .u64 x.v, .int .i64 x.wt, .int .i64 x.t, .int .i64 x.x] 34)) := (Fr.refl [] w3).alloc _
  have H4 := Lib.hid (And.intro (hP3.alloc (.cells #[.int .i64 x.slot, .int .u64 x.seq, .int .u64 x.u, .int .u64 x.v, .int .i64 x.wt, .int .i64 x.t, .int .i64 x.x] 34)) (And.intro hx4 (And.intro ((hG3.blk H2.out.1 (List.mem_cons_self ..)).fr0' hf4) ((hG3.rowV H2.out.2 (fun q hq => List.mem_cons_of_mem _ (by simpa using hq))).fr0 hf4))))
  clear hx4 hf4 hP3 hG3 H2 HI
  go_wp2_with fail
  generalize w3.alloc (.cells #[.int .i64 x.slot, .int .u64 x.seq, .int .u64 x.u, .int .u64 x.v, .int .i64 x.wt, .int .i64 x.t, .int .i64 x.x] 34) = w4 at *
  go_loopw [14] (fun i wr => ∃ (k : Nat) (c' : Sm), k ≤ s.L.length + 1 ∧ i = .int .i64 k ∧ Hid (P2 W wr ps s pc c' (w3.heap.size :: wf1.heap.size :: (Value.slice av s.L.length cv).ownBlock.toList) ∧ Blk wr w3.heap.size 34 (lvC x) ∧ Blk wr wf1.heap.size 32 [.int .u64 u, .int .u64 v, .int .i64 0, .int .i64 0] ∧ RowV wr (.slice av s.L.length cv) s.L)) (fun i _ => s.L.length + 1 - (intOf i).toNat)
  case atStart => exact ⟨0, _, by omega, rfl, H4⟩
  case round =>
    clear H4
    obtain ⟨k, c', hk, rfl, HR⟩ := hrel
    rename World => wr
    by_cases hlt : k < s.L.length
    · have hki : (k : Int) < s.L.length := by omega
      obtain ⟨b, cv', ev, _, _, _, hat⟩ := HR.out.2.2.2.at hlt
      simp only [Value.slice.injEq, true_and] at ev
      obtain ⟨rfl, rfl⟩ := ev
      have x0 := hat.1
      obtain ⟨sl, hsl⟩ : ∃ sl : Nat, sl = (s.L[k]'hlt).slot := ⟨_, rfl⟩
      rw [← hsl] at x0
      have HRM := Lib.hid (P2.stepC (c' := c'.remS sl) (f := 25) (args := #[sptr pc, .int .i64 sl]) (r := .tuple #[lvA (c'.got sl), .int .i64 (c'.remC sl)]) HR.out.1 (fun Z' h => sg_rem h sl))
      clear hat hsl
      go_wp2_with fail
      refine HRM.out.mono ?_
      rintro _ w5 ⟨rfl, hP5, hG5⟩
      have H5 := Lib.hid (And.intro hP5 (And.intro (hG5.blk HR.out.2.1 (by simp)) (And.intro (hG5.blk HR.out.2.2.1 (by simp)) (hG5.rowV HR.out.2.2.2 (fun q hq => List.mem_cons_of_mem _ (List.mem_cons_of_mem _ (by simpa using hq)))))))
      clear hP5 hG5 HRM x0
      go_wp2_with fail
      exact ⟨⟨k + 2, _, by omega, by go_num, H5⟩, by simp [intOf]; omega⟩
    · have hki : ¬ ((k : Int) < s.L.length) := by omega
      have HP := Lib.hid HR.out.1
      have HR2 := Lib.hid HR.out.2.2.2
      have HL2 := Lib.hid (sg_list HP.out.fst)
      go_wp2_with fail
      refine HL2.out.mono ?_
      rintro _ wa2 ⟨va2, rfl, hra2, _, hFa2⟩
      have hsm2 := same_w hra2 (HR2.out.fr0 hFa2) (by omega) (by omega)
      rw [decide_eq_true (rfl : s.L = s.L)] at hsm2
      have HSm2 := Lib.hid hsm2
      have HFa2 := Lib.hid hFa2
      clear hsm2 hra2 hFa2 HL2
      go_wp2_with fail
      refine HSm2.out.mono ?_
      rintro _ wb2 ⟨rfl, hFb2⟩
      have HFb2 := Lib.hid (HFa2.out.trans' hFb2)
      have hid2 := sg_ids (HP.out.fst.go0 HFb2.out)
      rw [ids_of HOK.out HBD.out.id] at hid2
      have HID2 := Lib.hid hid2
      clear HSm2 hFb2 HFa2 hid2
      go_wp2_with fail
      refine HID2.out.mono ?_
      rintro _ wc2 ⟨vc2, rfl, huc2, _, hFc2⟩
      have HFc2 := Lib.hid (HFb2.out.trans' hFc2)
      have HIW2 := Lib.hid (ids_w (HR2.out.fr0 HFc2.out) (by omega))
      have HUc2 := Lib.hid huc2
      clear HID2 huc2 hFc2 HFb2
      go_wp2_with fail
      refine HIW2.out.mono ?_
      rintro _ wd2 ⟨vd2, rfl, hud2, _, hFd2⟩
      have hsi2 := sameIDs_w (HUc2.out.fr0 hFd2) hud2 (by omega) (by omega)
      rw [decide_eq_true (rfl : idsOf s.L = idsOf s.L)] at hsi2
      have HSi2 := Lib.hid hsi2
      have HFd2 := Lib.hid (HFc2.out.trans' hFd2)
      clear hsi2 hud2 hFd2 HFc2 HIW2 HUc2
      go_wp2_with fail
      refine HSi2.out.mono ?_
      rintro _ we2 ⟨rfl, hFe2⟩
      have HFe2 := Lib.hid (HFd2.out.trans' hFe2)
      have HIn2 := Lib.hid (incident_w (HP.out.fst.go0 HFe2.out) (HR2.out.fr0 HFe2.out) (by omega))
      clear HSi2 hFe2 HFd2
      go_wp2_with fail
      refine HIn2.out.mono ?_
      rintro _ wf2 ⟨rfl, hFf2⟩
      have HFf2 := Lib.hid (HFe2.out.trans' hFf2)
      clear hFf2 HFe2 HIn2
      have hPn := HP.out.go0 HFf2.out
      have hcl := sg_len hPn.snd
      have HCL := Lib.hid hcl
      have hsi := hPn.swap.stepC (fun Z' h => sg_ins h u v 0 0 3 (by omega) (by omega) (by have := HBD.out.last; omega))
      rw [← HXC.out.1, ← HXC.out.2] at hsi
      have HSI := Lib.hid hsi
      have hrb := HR.out.2.2.1.fr0' HFf2.out
      have q0 := hrb.cell 0; have q1 := hrb.cell 1; have q2 := hrb.cell 2; have q3 := hrb.cell 3
      simp only [List.getElem?_cons_zero, List.getElem?_cons_succ] at q0 q1 q2 q3
      have hxb := HR.out.2.1.fr0' HFf2.out
      have HXB := Lib.hid hxb
      clear hPn hcl hsi hrb hxb HP HR2 HR
      go_wp2_with fail
      refine HCL.out.mono ?_
      rintro _ wg ⟨rfl, rfl⟩
      go_wp2_with fail
      refine HSI.out.mono ?_
      rintro _ wh ⟨rfl, hPh, hGh⟩
      clear q0 q1 q2 q3 HCL HSI
      have hf9 : Fr [] wh (wh.alloc (.cells #[.int .i64 x.slot, .int .u64 x.seq, .int .u64 x.u, .int .u64 x.v, .int .i64 x.wt, .int .i64 x.t, .int .i64 x.x] 34)) := (Fr.refl [] wh).alloc _
      have hy9 : Blk (wh.alloc (.cells #[.int .i64 x.slot, .int .u64 x.seq, .int .u64 x.u, .int .u64 x.v, .int .i64 x.wt, .int .i64 x.t, .int .i64 x.x] 34)) wh.heap.size 34 (lvC x) := Blk.new wh (lvC x) 34
      have hxk := hGh.blk HXB.out (by simp)
      have hne : w3.heap.size ≠ wh.heap.size := by have := hxk.lt; omega
      obtain ⟨x0, x1, x2, x3, x4, x5, x6⟩ := (hxk.fr0' hf9).lvAt
      obtain ⟨y0, y1, y2, y3, y4, y5, y6⟩ := hy9.lvAt
      simp only [Nat.zero_add] at x0 x1 x2 x3 x4 x5 x6 y0 y1 y2 y3 y4 y5 y6
      have hee : lvEq x x = true := decide_eq_true rfl
      have hP9 := hPh.alloc (.cells #[.int .i64 x.slot, .int .u64 x.seq, .int .u64 x.u, .int .u64 x.v, .int .i64 x.wt, .int .i64 x.t, .int .i64 x.x] 34)
      have HLc := Lib.hid (sg_len hP9.fst)
      have H9 := Lib.hid hP9
      clear hf9 hy9 hxk hP9 hPh hGh
      go_wp2_with fail
      refine HLc.out.mono ?_
      rintro _ wi ⟨rfl, rfl⟩
      clear HLc x0 x1 x2 x3 x4 x5 x6 y0 y1 y2 y3 y4 y5 y6
      go_wp2_with fail
      refine (HWk.out _).mono ?_
      rintro _ w15 ⟨rfl, hF15⟩
      have HF15 := Lib.hid (H9.out.fst.go0 hF15); clear hF15
      go_wp2_with fail
      go_ret
      exact ⟨rfl, HF15.out.below⟩
end Go.Proofs.Ytbegdgnhpklceaa

namespace Go.Proofs.Ytbegdgnhpklceaa.storeCopies
open Go.ChangeShapes Go.WideShapes Go.ChangeAt Go.RowKit
set_option linter.unusedVariables false

theorem own : ownKnob Try.prog.godebug = none := by kernel_rfl
theorem laidOut : laidOutB Try.prog = true := by kernel_rfl

set_option maxRecDepth 100000 in
theorem lifted (os : Os) (started : os.Started) (H : Type) (enc : TypeId × Value → H) :
    ReturnsInHanded {} Try.checked os 8 .any (Rows.storeCopiesSpec.pre6 enc Try.prog Try.f8 Rows.storeCopiesRow.domain false) (Rows.storeCopiesSpec.post enc Try.prog Try.f8 false true false false) := by
  refine returnsInHanded_of_change (C := Try.checked) own started (by kernel_rfl) Try.func8
    (ChangeSpec.witness6 (enc := enc) (C := Try.checked) false ⟨#[], #[.slice none 0 0, .int .u8 0, .int .u8 0], []⟩ 8 (by kernel_rfl) (by kernel_rfl) (by kernel_rfl) (by kernel_rfl)) ?_
  intro W base args ds gs before hval0 hW hcnd _
  have hval : ∀ (j : Nat) t v, Try.f8.params[j]? = some t → args[j]? = some v → Value.okWide Try.prog W .any base t v := hval0
  have hW' := hW
  obtain ⟨p, q, hA0, hV, rfl, hfz, hnd⟩ := hW
  have hA : DataW.TrodAll enc Try.prog W 0 (fun _ => true) true Try.f8.params.toList args.toList ds p := hA0
  rw [Try.params8] at hA hval
  obtain ⟨v0, vs0, d0, ds0, p0, q0, hargs, rfl, rfl, h0, r0⟩ := trodAll_cons hA
  obtain ⟨v1, vs1, d1, ds1, p1, q1, rfl, rfl, rfl, h1, r1⟩ := trodAll_cons r0
  obtain ⟨v2, vs2, d2, ds2, p2, q2, rfl, rfl, rfl, h2, r2⟩ := trodAll_cons r1
  obtain ⟨rfl, rfl, rfl⟩ := trodAll_nil r2
  obtain rfl : args = #[v0, v1, v2] := by cases args; simp_all
  obtain ⟨rfl, rfl⟩ := trodVars_none hV
  obtain ⟨a0, len0, cap0, rfl⟩ := okWide_slice Try.underlying22 (hval 0 22 v0 rfl rfl)
  have k0 := h0
  have lt0 : ∀ x ∈ p0, x.block < W.heap.size := by obtain ⟨m, hm⟩ := k0; exact DataW.trod_lt m _ _ _ hm
  obtain ⟨z0, w0⟩ := open_moves h0
  obtain ⟨a1, rfl, rfl, rfl, w1⟩ := open_int Try.underlying5 (hval 1 5 v1 rfl rfl) h1
  obtain ⟨a2, rfl, rfl, rfl, w2⟩ := open_int Try.underlying5 (hval 2 5 v2 rfl rfl) h2
  clear hA0 hval0
  refine (walk_storeCopies W a0 len0 cap0 z0 w0 a1 w1 a2 w2).mono fun e W' ⟨he, bel⟩ => ?_
  subst he
  exact ⟨_, rfl, _, _, _, [], _, [], hW', trodAll_mk1 (shut_bool Try.underlying4 _), (trodAll_cons_mk (Below.trod laidOut (by kernel_rfl) (of_decide_eq_true (by kernel_rfl)) k0 bel lt0) (trodAll_cons_mk (shut_int Try.underlying5 w1) (trodAll_cons_mk (shut_int Try.underlying5 w2) trodAll_mk0))), rfl, bel.frame _, fun h => by cases h⟩

theorem over : Rows.storeCopiesRow.holds Try.pinned (OpenSpec.ofChange Rows.storeCopiesSpec) :=
  OpenClaim.holds_of_wide 8 Try.f8 rfl rfl rfl rfl rfl rfl rfl ⟨rfl, rfl, rfl, rfl, rfl⟩ rfl rfl rfl rfl rfl (by kernel_rfl) Try.func8 (by kernel_rfl)
    (of_decide_eq_true (by kernel_rfl)) (by unfold Func.isWrapper; first | (rw [if_pos (by decide +kernel)]; kernel_rfl) | (rw [if_neg (by decide +kernel)]; exact ⟨rfl, rfl⟩))
    (fun os started H enc _ => lifted os started H enc)

end Go.Proofs.Ytbegdgnhpklceaa.storeCopies

namespace Go.Proofs.Ytbegdgnhpklceaa
theorem storeCopies_holds : Rows.StoreCopiesSaid := storeCopies.over
#print axioms storeCopies_holds
end Go.Proofs.Ytbegdgnhpklceaa
