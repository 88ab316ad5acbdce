/- The statement 'StoreKeeps': for every input the call returns true, and each argument reads afterwards as it read before. -/
import Derived.Test.YtbegdgnhpklceaaB15
import Derived.Test.YtbegdgnhpklceaaB1
set_option linter.unusedSimpArgs false
set_option linter.unusedVariables false
/- StoreKeeps: the walk. -/
namespace Go.Proofs.Ytbegdgnhpklceaa
open Go.RowKit
set_option maxRecDepth 10000
set_option maxHeartbeats 1600000

/-- How many of the first m slots from -1 on are in use. -/
def foundN (s : Sm) : Nat → Nat
  | 0 => 0
  | m + 1 => foundN s m + if s.has ((m : Int) - 1) = true then 1 else 0
theorem foundN_filter (s : Sm) : ∀ m, foundN s m = ((List.range m).filter fun j : Nat => s.has ((j : Int) - 1)).length
  | 0 => rfl
  | m + 1 => by
    rw [List.range_succ, List.filter_append, List.length_append, ← foundN_filter s m]
    show foundN s m + _ = _
    cases h : s.has ((m : Int) - 1) <;> simp [h]
theorem foundN_all {s : Sm} (h : s.Ok) (hE : s.E = 20) : foundN s 22 = s.L.length := by
  rw [foundN_filter]
  have hp : ((List.range 22).filter fun j : Nat => s.has ((j : Int) - 1)).Perm ((s.L.map (·.slot)).map (· + 1)) := by
    refine (List.perm_ext_iff_of_nodup (List.nodup_range.filter _) ?_).2 fun j => ?_
    · exact List.pairwise_map.2 (h.one.imp fun hab e => hab (by omega))
    · rw [List.mem_filter, List.mem_range, List.map_map, List.mem_map]
      constructor
      · rintro ⟨_, hj⟩
        obtain ⟨h0, hu⟩ := (Sm.has_iff h _).1 hj
        obtain ⟨e, he, hs⟩ := (h.used _).1 hu
        exact ⟨e, he, by simp only [Function.comp]; omega⟩
      · rintro ⟨e, he, rfl⟩
        have hu := (h.used _).2 ⟨e, he, rfl⟩
        have h1 := hu.1
        have h2 := h.ar.hb
        have h3 := h.sl
        simp only [Function.comp]
        refine ⟨by omega, (Sm.has_iff h _).2 ⟨by omega, ?_⟩⟩
        rw [show ((e.slot + 1 : Nat) : Int) - 1 = (e.slot : Int) by omega, Int.toNat_natCast]
        exact hu
  have := hp.length_eq
  rw [List.length_map, List.length_map] at this
  exact this
theorem has_mem {s : Sm} (h : s.Ok) {e : Lv} (he : e ∈ s.L) : s.has e.slot = true ∧ s.got e.slot = e := by
  refine ⟨(Sm.has_iff h _).2 ⟨by omega, (h.used _).2 ⟨e, he, by simp⟩⟩, ?_⟩
  unfold Sm.got
  rw [if_pos (by omega), Int.toNat_natCast]
  exact liveAt_mem h.one he

theorem walk_storeKeeps (W : World) (a : Option Addr) (len cap : Nat) (z : Nat → Bool × Nat × Nat × Nat) (hz : MovesF W a len z) :
    Calls Try.prog 3 #[.slice a len cap] W fun e w' => e = .returned (.bool true) ∧ Below W.heap.size W w' := by
  have HM := Lib.hid (moved_w W a len cap z hz)
  have HWk := Lib.hid (fun w => works_w w)
  clear hz
  go_enter Try.func3, Try.ntmps3
  go_wp2_with fail
  refine HM.out.mono ?_
  rintro _ w1 ⟨ps, s, v, rfl, hS, hr, hb⟩
  clear HM
  have hn := hb.len hS.ok
  obtain ⟨av, cv, rfl⟩ := hr.slice
  have HL := Lib.hid (sg_len hS)
  have HLi := Lib.hid (sg_list hS)
  have HR := Lib.hid (And.intro hr hb); clear hS hr hb
  go_wp2_with fail
  refine HL.out.mono ?_
  rintro _ w1 ⟨rfl, rfl⟩
  clear HL
  go_wp2_with fail
  refine HLi.out.mono ?_
  rintro _ w2 ⟨v2, rfl, hr2, hS2, hF2⟩
  have hsm := same_w hr2 (HR.out.1.fr0 hF2) (by omega) (by omega)
  rw [decide_eq_true (rfl : s.L = s.L)] at hsm
  have HSm := Lib.hid hsm
  have HX := Lib.hid (And.intro (hS2.sub (Y := (Value.slice av s.L.length cv).ownBlock.toList) (fun y hy => List.mem_append.2 (.inr hy))) (And.intro (HR.out.1.fr0 hF2) HR.out.2))
  clear HLi hsm hr2 hS2 hF2 HR
  go_wp2_with fail
  refine HSm.out.mono ?_
  rintro _ w3 ⟨rfl, hF3⟩
  have HY := Lib.hid (And.intro (HX.out.1.go0 hF3) (And.intro (HX.out.2.1.fr0 hF3) HX.out.2.2))
  clear HX HSm hF3
  go_wp2_with fail
  go_loopw [6] (fun i wr => ∃ k : Nat, k ≤ s.L.length ∧ i = .int .i64 k ∧ Hid (SG W wr ps s (Value.slice av s.L.length cv).ownBlock.toList ∧ RowV wr (.slice av s.L.length cv) s.L)) (fun i _ => s.L.length - (intOf i).toNat)
  case atStart => exact ⟨0, Nat.zero_le _, rfl, Lib.hid ⟨HY.out.1, HY.out.2.1⟩⟩
  case round =>
    obtain ⟨k, hk, rfl, HR⟩ := hrel
    rename World => wr
    by_cases hlt : k < s.L.length
    · have hki : (k : Int) < s.L.length := by omega
      obtain ⟨b, cv', ev, _, hbl, _, hat⟩ := HR.out.2.at hlt
      simp only [Value.slice.injEq, true_and] at ev
      obtain ⟨rfl, rfl⟩ := ev
      obtain ⟨e, he⟩ : ∃ e, e = s.L[k] := ⟨_, rfl⟩
      rw [← he] at hat
      have hem := has_mem HR.out.1.ok (e := e) (by rw [he]; exact List.getElem_mem hlt)
      have HG := Lib.hid (sg_get HR.out.1 e.slot)
      rw [hem.1, hem.2] at HG
      clear he hem
      have x0 := hat.1
      go_wp2_with fail
      refine HG.out.mono ?_
      rintro _ w5 ⟨rfl, hS5, hF5⟩
      clear HG x0
      have hf6 : Fr [] w5 (w5.alloc (.cells #[.int .i64 e.slot, .int .u64 e.seq, .int .u64 e.u, .int .u64 e.v, .int .i64 e.wt, .int .i64 e.t, .int .i64 e.x] 34)) := (Fr.refl [] w5).alloc _
      obtain ⟨x0, x1, x2, x3, x4, x5, x6⟩ := (hat.fr hF5 (by simp)).fr hf6 (by simp)
      have HS6 := Lib.hid (And.intro (hS5.go0 hf6) ((HR.out.2.fr0 hF5).fr0 hf6))
      have hbb : b ≠ w5.heap.size := by have := hF5.size; omega
      have hee : lvEq e e = true := decide_eq_true rfl
      clear hat hS5 hF5 hf6
      go_wp2_with fail
      go_quiet (fail)
      go_wp2_with fail
      exact ⟨⟨k + 1, by omega, by go_num, Lib.hid ⟨HS6.out.1.go0 (Fr.of_drewN _ _), HS6.out.2.fr0 (Fr.of_drewN _ _)⟩⟩, by simp [intOf]; omega⟩
    · obtain rfl : k = s.L.length := by omega
      have HS := Lib.hid HR.out.1
      clear HR hlt
      go_wp2_with fail
      go_loopw [9, 10] (fun f i wr => ∃ m : Nat, m ≤ 22 ∧ i = .int .i64 ((m : Int) - 1) ∧ f = .int .i64 (foundN s m) ∧ Hid (SG W wr ps s (Value.slice av s.L.length cv).ownBlock.toList)) (fun _ i _ => (21 - intOf i).toNat)
      case atStart => exact ⟨0, by omega, rfl, rfl, HS⟩
      case round =>
        clear HS
        obtain ⟨m, hm, rfl, rfl, HS⟩ := hrel
        rename World => wq
        by_cases hml : m < 22
        · have hmi : (m : Int) - 1 ≤ 20 := by omega
          have HG := Lib.hid (sg_get HS.out ((m : Int) - 1))
          have hfm : foundN s (m + 1) = foundN s m + if s.has ((m : Int) - 1) = true then 1 else 0 := rfl
          have hfl : foundN s m ≤ m := by rw [foundN_filter]; exact Nat.le_trans (List.length_filter_le _ _) (by simp)
          generalize s.has ((m : Int) - 1) = yes at *
          generalize s.got ((m : Int) - 1) = e at *
          have HFM := Lib.hid hfm; clear hfm
          go_wp2_with fail
          refine HG.out.mono ?_
          rintro _ w5 ⟨rfl, hS5, hF5⟩
          have HS5 := Lib.hid hS5; clear hS5 hF5 HG
          cases yes with
          | true =>
            rw [if_pos rfl] at HFM
            go_wp2_with fail
            exact ⟨⟨m + 1, by omega, by go_num, by rw [HFM.out]; go_num, Lib.hid ((HS5.out.alloc _).sub (fun y hy => List.mem_cons_of_mem _ hy))⟩, by simp [intOf]; omega⟩
          | false =>
            rw [if_neg (by simp)] at HFM
            go_wp2_with fail
            exact ⟨⟨m + 1, by omega, by go_num, by rw [HFM.out]; rfl, Lib.hid ((HS5.out.alloc _).sub (fun y hy => List.mem_cons_of_mem _ hy))⟩, by simp [intOf]; omega⟩
        · obtain rfl : m = 22 := by omega
          have hfa := foundN_all HS.out.ok HY.out.2.2.E
          rw [hfa]
          clear hfa hml hm
          go_wp2_with fail
          refine (HWk.out _).mono ?_
          rintro _ w9 ⟨rfl, hF9⟩
          have HF9 := Lib.hid (HS.out.go0 hF9); clear hF9
          go_wp2_with fail
          go_ret
          exact ⟨rfl, HF9.out.below⟩
end Go.Proofs.Ytbegdgnhpklceaa

namespace Go.Proofs.Ytbegdgnhpklceaa.storeKeeps
open Go.ChangeShapes Go.WideShapes Go.ChangeAt Go.RowKit
set_option linter.unusedVariables false

theorem own : ownKnob Try.prog.godebug = none := by kernel_rfl
theorem laidOut : laidOutB Try.prog = true := by kernel_rfl

set_option maxRecDepth 100000 in
theorem lifted (os : Os) (started : os.Started) (H : Type) (enc : TypeId × Value → H) :
    ReturnsInHanded {} Try.checked os 3 .any (Rows.storeKeepsSpec.pre6 enc Try.prog Try.f3 Rows.storeKeepsRow.domain false) (Rows.storeKeepsSpec.post enc Try.prog Try.f3 false true false false) := by
  refine returnsInHanded_of_change (C := Try.checked) own started (by kernel_rfl) Try.func3
    (ChangeSpec.witness6 (enc := enc) (C := Try.checked) false ⟨#[], #[.slice none 0 0], []⟩ 8 (by kernel_rfl) (by kernel_rfl) (by kernel_rfl) (by kernel_rfl)) ?_
  intro W base args ds gs before hval0 hW hcnd _
  have hval : ∀ (j : Nat) t v, Try.f3.params[j]? = some t → args[j]? = some v → Value.okWide Try.prog W .any base t v := hval0
  have hW' := hW
  obtain ⟨p, q, hA0, hV, rfl, hfz, hnd⟩ := hW
  have hA : DataW.TrodAll enc Try.prog W 0 (fun _ => true) true Try.f3.params.toList args.toList ds p := hA0
  rw [Try.params3] at hA hval
  obtain ⟨v0, vs0, d0, ds0, p0, q0, hargs, rfl, rfl, h0, r0⟩ := trodAll_cons hA
  obtain ⟨rfl, rfl, rfl⟩ := trodAll_nil r0
  obtain rfl : args = #[v0] := by cases args; simp_all
  obtain ⟨rfl, rfl⟩ := trodVars_none hV
  obtain ⟨a0, len0, cap0, rfl⟩ := okWide_slice Try.underlying22 (hval 0 22 v0 rfl rfl)
  have k0 := h0
  have lt0 : ∀ x ∈ p0, x.block < W.heap.size := by obtain ⟨m, hm⟩ := k0; exact DataW.trod_lt m _ _ _ hm
  obtain ⟨z0, w0⟩ := open_moves h0
  clear hA0 hval0
  refine (walk_storeKeeps W a0 len0 cap0 z0 w0).mono fun e W' ⟨he, bel⟩ => ?_
  subst he
  exact ⟨_, rfl, _, _, _, [], _, [], hW', trodAll_mk1 (shut_bool Try.underlying4 _), (trodAll_cons_mk (Below.trod laidOut (by kernel_rfl) (of_decide_eq_true (by kernel_rfl)) k0 bel lt0) trodAll_mk0), rfl, bel.frame _, fun h => by cases h⟩

theorem over : Rows.storeKeepsRow.holds Try.pinned (OpenSpec.ofChange Rows.storeKeepsSpec) :=
  OpenClaim.holds_of_wide 3 Try.f3 rfl rfl rfl rfl rfl rfl rfl ⟨rfl, rfl, rfl, rfl, rfl⟩ rfl rfl rfl rfl rfl (by kernel_rfl) Try.func3 (by kernel_rfl)
    (of_decide_eq_true (by kernel_rfl)) (by unfold Func.isWrapper; first | (rw [if_pos (by decide +kernel)]; kernel_rfl) | (rw [if_neg (by decide +kernel)]; exact ⟨rfl, rfl⟩))
    (fun os started H enc _ => lifted os started H enc)

end Go.Proofs.Ytbegdgnhpklceaa.storeKeeps

namespace Go.Proofs.Ytbegdgnhpklceaa
theorem storeKeeps_holds : Rows.StoreKeepsSaid := storeKeeps.over
#print axioms storeKeeps_holds
end Go.Proofs.Ytbegdgnhpklceaa
