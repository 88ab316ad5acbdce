/- slices.Sort at uint64: partitionOrdered. -/
import Derived.Sort.WalkC4
import Derived.Test.YtbegdgnhpklceaaGreatB8
set_option linter.unusedSimpArgs false
set_option linter.unusedVariables false
namespace Go.Proofs.YtbegdgnhpklceaaGreat
open Go.RowKit Go.Sort
set_option maxRecDepth 10000
set_option maxHeartbeats 12800000

theorem part_u {w wr : World} {blk off cap a b pivot n : Nat} {d : Array Int} (h : SR w wr blk off d) (hn : d.size = n) (hap : a ≤ pivot) (hpb : pivot < b) (hb : b ≤ n) (hsz : n < 4611686018427387904) :
    Calls Tryz.prog 121 #[.slice (some ⟨blk, off, none⟩) n cap, .int .i64 a, .int .i64 b, .int .i64 pivot] wr fun e w' =>
      e = .returned (.tuple #[.int .i64 (partition ltInt d a b pivot).1, .bool (partition ltInt d a b pivot).2.1]) ∧ SR w w' blk off (partition ltInt d a b pivot).2.2 := by
  obtain ⟨G, hG⟩ : ∃ G : Nat → Int, ∀ t, d[t]! = G t := ⟨fun t => d[t]!, fun _ => rfl⟩
  have ca : wr.cell? ⟨blk, off + a, none⟩ = some (.int .u64 (G a)) := by rw [h.cell (by omega), hG]
  have fa : wr.frozen? ⟨blk, off + a, none⟩ = false := h.frozen _
  have cp : wr.cell? ⟨blk, off + pivot, none⟩ = some (.int .u64 (G pivot)) := by rw [h.cell (by omega), hG]
  have fp : wr.frozen? ⟨blk, off + pivot, none⟩ = false := h.frozen _
  have an : (a : Int) < n := by omega
  have pn : (pivot : Int) < n := by omega
  have hsw := h.swapD (i := a) (j := pivot) (by omega) (by omega)
  rw [hG, hG] at hsw
  have HS := Lib.hid hsw; clear hsw h hG
  obtain ⟨i, hi⟩ : ∃ i : Nat, i = a + 1 := ⟨_, rfl⟩
  obtain ⟨j, hj⟩ : ∃ j : Nat, j = b - 1 := ⟨_, rfl⟩
  have hii : (a : Int) + 1 = (i : Int) := by omega
  have hji : (b : Int) - 1 = (j : Int) := by omega
  have hai : a + 1 ≤ i := by omega
  have hij1 : i ≤ j + 1 := by omega
  have hjb : j < b := by omega
  have Hij := Lib.hid (And.intro hi hj); clear hi hj
  obtain ⟨res, hres⟩ : ∃ res, partition ltInt d a b pivot = res := ⟨_, rfl⟩
  rw [hres]
  have HR0 := Lib.hid hres; clear hres
  go_enter Tryz.func121, Tryz.ntmps121
  go_wp2
  by_cases hEq : a = pivot
  · have HEq := Lib.hid hEq
    rw [← hEq] at HS cp fp ⊢
    clear hEq
    go_region
    all_goals go_wp2
    obtain ⟨dk, hdk⟩ : ∃ dk, dk = swp d a pivot := ⟨_, rfl⟩
    have hsk : dk.size = n := by rw [hdk, size_swp]; exact hn
    have Hdk := Lib.hid hdk
    rw [← HEq.out] at hdk
    rw [← hdk] at HS
    clear hdk
    generalize ((wr.setCell ⟨blk, off + a, none⟩ (.int .u64 (G a))).setCell ⟨blk, off + a, none⟩ (.int .u64 (G a))).drew = w1 at *
    clear ca fa cp fp
    obtain ⟨G, hG⟩ : ∃ G : Nat → Int, ∀ t, dk[t]! = G t := ⟨fun t => dk[t]!, fun _ => rfl⟩
    have HG := Lib.hid hG; clear hG
    go_loopw [10] (fun vi wr2 => ∃ (i2 : Nat), vi = .int .i64 i2 ∧ i ≤ i2 ∧ i2 ≤ j + 1 ∧ Hid (SR w wr2 blk off dk) ∧ Hid (scanUp (fun x => ltInt x dk[a]!) dk j i2 = scanUp (fun x => ltInt x dk[a]!) dk j i)) (fun vi _ => j + 1 - (intOf vi).toNat)
    case atStart => exact ⟨i, rfl, Nat.le_refl _, by omega, HS, Lib.hid rfl⟩
    case round =>
      clear HS
      obtain ⟨i2, rfl, hi2a, hi2b, HS, HU⟩ := hrel
      by_cases hij : i2 ≤ j
      · have hd : decide (i2 ≤ j) = true := decide_eq_true hij
        have an : (a : Int) < n := by omega
        have in2 : (i2 : Int) < n := by omega
        have ci : wr.cell? ⟨blk, off + i2, none⟩ = some (.int .u64 (G i2)) := by rw [HS.out.cell (by omega), HG.out]
        have ca : wr.cell? ⟨blk, off + a, none⟩ = some (.int .u64 (G a)) := by rw [HS.out.cell (by omega), HG.out]
        cases hl : ltInt (G i2) (G a) with
        | true =>
          have HU2 := Lib.hid (show scanUp (fun x => ltInt x dk[a]!) dk j (i2 + 1) = scanUp (fun x => ltInt x dk[a]!) dk j i by rw [← HU.out, scanUp_go (fun x => ltInt x dk[a]!) dk j i2 hij (by simp only [HG.out, hl])])
          go_wp2
          go_quiet (first | (go_at_call 119; refine Calls.quiet_of_same (less_is hl _)))
          go_wp2
          go_roundw
          case rel => exact ⟨i2 + 1, by go_num, by omega, by omega, Lib.hid (HS.out.drewN nq), HU2⟩
          case measure => simp [intOf]; omega
        | false =>
          have hI : i2 = scanUp (fun x => ltInt x dk[a]!) dk j i := by rw [← HU.out, scanUp_end (fun x => ltInt x dk[a]!) dk j i2 (.inr (by simp only [HG.out, hl]))]
          have HI := Lib.hid hI; clear hI
          go_wp2
          go_quiet (first | (go_at_call 119; refine Calls.quiet_of_same (less_is hl _)))
          go_wp2
          have HS := Lib.hid (HS.out.drewN nq)
          generalize wr.drewN nq = wq at *
          clear hl ci ca hd
          go_loopw [11] (fun vj wr3 => ∃ (j2 : Nat), vj = .int .i64 j2 ∧ i2 ≤ j2 + 1 ∧ j2 ≤ j ∧ Hid (SR w wr3 blk off dk) ∧ Hid (scanDown (fun x => !ltInt x dk[a]!) dk i2 j2 = scanDown (fun x => !ltInt x dk[a]!) dk i2 j)) (fun vj _ => (intOf vj).toNat)
          case atStart => exact ⟨j, rfl, by omega, Nat.le_refl _, HS, Lib.hid rfl⟩
          case round =>
            clear HS
            obtain ⟨j2, rfl, hj2a, hj2b, HS, HD⟩ := hrel
            by_cases hij : i2 ≤ j2
            · have hd : decide (i2 ≤ j2) = true := decide_eq_true hij
              have an : (a : Int) < n := by omega
              have jn : (j2 : Int) < n := by omega
              have ci : wr.cell? ⟨blk, off + j2, none⟩ = some (.int .u64 (G j2)) := by rw [HS.out.cell (by omega), HG.out]
              have ca : wr.cell? ⟨blk, off + a, none⟩ = some (.int .u64 (G a)) := by rw [HS.out.cell (by omega), HG.out]
              cases hl : ltInt (G j2) (G a) with
              | false =>
                have HD2 := Lib.hid (show scanDown (fun x => !ltInt x dk[a]!) dk i2 (j2 - 1) = scanDown (fun x => !ltInt x dk[a]!) dk i2 j by rw [← HD.out, scanDown_go (fun x => !ltInt x dk[a]!) dk i2 j2 hij (by omega) (by simp only [HG.out, hl]; rfl)])
                go_wp2
                go_quiet (first | (go_at_call 119; refine Calls.quiet_of_same (less_is hl _)))
                go_wp2
                go_roundw
                case rel => exact ⟨j2 - 1, by congr 1; omega, by omega, by omega, Lib.hid (HS.out.drewN nq), HD2⟩
                case measure => simp [intOf]; omega
              | true =>
                have hJ : j2 = scanDown (fun x => !ltInt x dk[a]!) dk i2 j := by rw [← HD.out, scanDown_end (fun x => !ltInt x dk[a]!) dk i2 j2 (.inr (by simp only [HG.out, hl]; rfl))]
                have HJ := Lib.hid hJ; clear hJ
                have fi : wr.frozen? ⟨blk, off + j2, none⟩ = false := HS.out.frozen _
                have fi2 : wr.frozen? ⟨blk, off + i2, none⟩ = false := HS.out.frozen _
                have ci2 : wr.cell? ⟨blk, off + i2, none⟩ = some (.int .u64 (G i2)) := by rw [HS.out.cell (by omega), HG.out]
                have in2 : (i2 : Int) < n := by omega
                have hne : i2 < j2 := part_scans_lt ltInt a i j dk (by omega) HI.out HJ.out hij
                have ne1 : i2 ≠ j2 := by omega
                have ne2 : j2 ≠ i2 := by omega
                have hgt : decide (i2 > j2) = false := decide_eq_false (by omega)
                go_wp2
                go_quiet (first | (go_at_call 119; refine Calls.quiet_of_same (less_is hl _)))
                go_wp2
                go_region
                all_goals go_wp2
                have hfirst := part_first_go ltInt d a b pivot Hij.out.1 Hij.out.2 Hdk.out HI.out HJ.out (show ¬ i2 > j2 by omega)
                obtain ⟨rl, hrl⟩ : ∃ rl, partLoop ltInt a (i2 + 1) (j2 - 1) (swp dk i2 j2) = rl := ⟨_, rfl⟩
                rw [hrl, HR0.out] at hfirst
                have HFirst := Lib.hid hfirst; clear hfirst
                have HLr := Lib.hid hrl; clear hrl
                have HSw : Hid (SR w (((wr.drewN (nq + 1)).setCell ⟨blk, off + i2, none⟩ (.int .u64 (G j2))).setCell ⟨blk, off + j2, none⟩ (.int .u64 (G i2))) blk off (swp dk i2 j2)) := Lib.hid (by
                  have := HS.out.swap (nq + 1) (i := i2) (j := j2) (by omega) (by omega)
                  rw [HG.out, HG.out] at this
                  exact this)
                generalize ((wr.drewN (nq + 1)).setCell ⟨blk, off + i2, none⟩ (.int .u64 (G j2))).setCell ⟨blk, off + j2, none⟩ (.int .u64 (G i2)) = ws at *
                go_loopw [10, 11] (fun vi vj wr => ∃ (i j : Nat) (dk : Array Int), vi = .int .i64 i ∧ vj = .int .i64 j ∧ a + 1 ≤ i ∧ i ≤ j + 1 ∧ j < b ∧ dk.size = n ∧ Hid (SR w wr blk off dk) ∧ Hid (partLoop ltInt a i j dk = rl)) (fun vi vj _ => (intOf vj + 1 - intOf vi).toNat)
                case atStart => exact ⟨i2 + 1, j2 - 1, swp dk i2 j2, by go_num, by congr 1; omega, by omega, by omega, by omega, by rw [size_swp]; exact hsk, HSw, HLr⟩
                case round =>
                  clear HSw HLr HS HI HJ HD HU HG
                  obtain ⟨i, j, dk, rfl, rfl, hai, hij1, hjb, hsk, HS, HL⟩ := hrel
                  obtain ⟨G, hG⟩ : ∃ G : Nat → Int, ∀ t, dk[t]! = G t := ⟨fun t => dk[t]!, fun _ => rfl⟩
                  have HG := Lib.hid hG; clear hG
                  go_wp2
                  go_loopw [10] (fun vi wr2 => ∃ (i2 : Nat), vi = .int .i64 i2 ∧ i ≤ i2 ∧ i2 ≤ j + 1 ∧ Hid (SR w wr2 blk off dk) ∧ Hid (scanUp (fun x => ltInt x dk[a]!) dk j i2 = scanUp (fun x => ltInt x dk[a]!) dk j i)) (fun vi _ => j + 1 - (intOf vi).toNat)
                  case atStart => exact ⟨i, rfl, Nat.le_refl _, by omega, HS, Lib.hid rfl⟩
                  case round =>
                    clear HS
                    obtain ⟨i2, rfl, hi2a, hi2b, HS, HU⟩ := hrel
                    by_cases hij : i2 ≤ j
                    · have hd : decide (i2 ≤ j) = true := decide_eq_true hij
                      have an : (a : Int) < n := by omega
                      have in2 : (i2 : Int) < n := by omega
                      have ci : wr.cell? ⟨blk, off + i2, none⟩ = some (.int .u64 (G i2)) := by rw [HS.out.cell (by omega), HG.out]
                      have ca : wr.cell? ⟨blk, off + a, none⟩ = some (.int .u64 (G a)) := by rw [HS.out.cell (by omega), HG.out]
                      cases hl : ltInt (G i2) (G a) with
                      | true =>
                        have HU2 := Lib.hid (show scanUp (fun x => ltInt x dk[a]!) dk j (i2 + 1) = scanUp (fun x => ltInt x dk[a]!) dk j i by rw [← HU.out, scanUp_go (fun x => ltInt x dk[a]!) dk j i2 hij (by simp only [HG.out, hl])])
                        go_wp2
                        go_quiet (first | (go_at_call 119; refine Calls.quiet_of_same (less_is hl _)))
                        go_wp2
                        go_roundw
                        case rel => exact ⟨i2 + 1, by go_num, by omega, by omega, Lib.hid (HS.out.drewN nq), HU2⟩
                        case measure => simp [intOf]; omega
                      | false =>
                        have hI : i2 = scanUp (fun x => ltInt x dk[a]!) dk j i := by rw [← HU.out, scanUp_end (fun x => ltInt x dk[a]!) dk j i2 (.inr (by simp only [HG.out, hl]))]
                        have HI := Lib.hid hI; clear hI
                        go_wp2
                        go_quiet (first | (go_at_call 119; refine Calls.quiet_of_same (less_is hl _)))
                        go_wp2
                        have HS := Lib.hid (HS.out.drewN nq)
                        generalize wr.drewN nq = wq at *
                        clear hl ci ca hd
                        go_loopw [11] (fun vj wr3 => ∃ (j2 : Nat), vj = .int .i64 j2 ∧ i2 ≤ j2 + 1 ∧ j2 ≤ j ∧ Hid (SR w wr3 blk off dk) ∧ Hid (scanDown (fun x => !ltInt x dk[a]!) dk i2 j2 = scanDown (fun x => !ltInt x dk[a]!) dk i2 j)) (fun vj _ => (intOf vj).toNat)
                        case atStart => exact ⟨j, rfl, by omega, Nat.le_refl _, HS, Lib.hid rfl⟩
                        case round =>
                          clear HS
                          obtain ⟨j2, rfl, hj2a, hj2b, HS, HD⟩ := hrel
                          by_cases hij : i2 ≤ j2
                          · have hd : decide (i2 ≤ j2) = true := decide_eq_true hij
                            have an : (a : Int) < n := by omega
                            have jn : (j2 : Int) < n := by omega
                            have ci : wr.cell? ⟨blk, off + j2, none⟩ = some (.int .u64 (G j2)) := by rw [HS.out.cell (by omega), HG.out]
                            have ca : wr.cell? ⟨blk, off + a, none⟩ = some (.int .u64 (G a)) := by rw [HS.out.cell (by omega), HG.out]
                            cases hl : ltInt (G j2) (G a) with
                            | false =>
                              have HD2 := Lib.hid (show scanDown (fun x => !ltInt x dk[a]!) dk i2 (j2 - 1) = scanDown (fun x => !ltInt x dk[a]!) dk i2 j by rw [← HD.out, scanDown_go (fun x => !ltInt x dk[a]!) dk i2 j2 hij (by omega) (by simp only [HG.out, hl]; rfl)])
                              go_wp2
                              go_quiet (first | (go_at_call 119; refine Calls.quiet_of_same (less_is hl _)))
                              go_wp2
                              go_roundw
                              case rel => exact ⟨j2 - 1, by congr 1; omega, by omega, by omega, Lib.hid (HS.out.drewN nq), HD2⟩
                              case measure => simp [intOf]; omega
                            | true =>
                              have hJ : j2 = scanDown (fun x => !ltInt x dk[a]!) dk i2 j := by rw [← HD.out, scanDown_end (fun x => !ltInt x dk[a]!) dk i2 j2 (.inr (by simp only [HG.out, hl]; rfl))]
                              have HJ := Lib.hid hJ; clear hJ
                              have fi : wr.frozen? ⟨blk, off + j2, none⟩ = false := HS.out.frozen _
                              have fi2 : wr.frozen? ⟨blk, off + i2, none⟩ = false := HS.out.frozen _
                              have ci2 : wr.cell? ⟨blk, off + i2, none⟩ = some (.int .u64 (G i2)) := by rw [HS.out.cell (by omega), HG.out]
                              have in2 : (i2 : Int) < n := by omega
                              have hne : i2 < j2 := part_scans_lt ltInt a i j dk (by omega) HI.out HJ.out hij
                              have ne1 : i2 ≠ j2 := by omega
                              have ne2 : j2 ≠ i2 := by omega
                              have hgt : decide (i2 > j2) = false := decide_eq_false (by omega)
                              go_wp2
                              go_quiet (first | (go_at_call 119; refine Calls.quiet_of_same (less_is hl _)))
                              go_wp2
                              go_region
                              all_goals go_wp2
                              go_roundw
                              case rel =>
                                refine ⟨i2 + 1, j2 - 1, swp dk i2 j2, by go_num, by congr 1; omega, by omega, by omega, by omega, by rw [size_swp]; exact hsk, Lib.hid ?_, Lib.hid ?_⟩
                                · have := HS.out.swap (nq + 1) (i := i2) (j := j2) (by omega) (by omega)
                                  rw [HG.out, HG.out] at this
                                  exact this
                                · rw [← HL.out, part_go ltInt a i j dk HI.out HJ.out (by omega)]
                              case measure => simp [intOf]; omega
                          · have hd : decide (i2 ≤ j2) = false := decide_eq_false hij
                            have hJ : j2 = scanDown (fun x => !ltInt x dk[a]!) dk i2 j := by rw [← HD.out, scanDown_end (fun x => !ltInt x dk[a]!) dk i2 j2 (.inl hij)]
                            have HJ := Lib.hid hJ; clear hJ
                            have hgt : decide (i2 > j2) = true := decide_eq_true (by omega)
                            go_wp2
                            go_quiet (first | (go_at_call 119; refine Calls.quiet_of_same (less_is rfl _)))
                            go_wp2
                            have hja : a ≤ j2 := by omega
                            have an : (a : Int) < n := by omega
                            have jn : (j2 : Int) < n := by omega
                            have cj : wr.cell? ⟨blk, off + j2, none⟩ = some (.int .u64 (G j2)) := by rw [HS.out.cell (by omega), HG.out]
                            have fj : wr.frozen? ⟨blk, off + j2, none⟩ = false := HS.out.frozen _
                            have ca : wr.cell? ⟨blk, off + a, none⟩ = some (.int .u64 (G a)) := by rw [HS.out.cell (by omega), HG.out]
                            have fa : wr.frozen? ⟨blk, off + a, none⟩ = false := HS.out.frozen _
                            have hsw : SR w (((wr.drewN (nq + 1)).setCell ⟨blk, off + j2, none⟩ (.int .u64 (G a))).setCell ⟨blk, off + a, none⟩ (.int .u64 (G j2))) blk off (swp dk j2 a) := by
                              have := HS.out.swap (nq + 1) (i := j2) (j := a) (by omega) (by omega)
                              rw [HG.out, HG.out] at this
                              exact this
                            have HSw := Lib.hid hsw; clear hsw
                            have HRes := Lib.hid (show res = (j2, false, swp dk j2 a) by rw [HFirst.out, ← HL.out, part_break ltInt a i j dk HI.out HJ.out (by omega)])
                            by_cases hEq : j2 = a
                            · rw [hEq] at HSw HRes ⊢
                              clear cj fj
                              go_region
                              all_goals go_wp2
                              go_ret2
                              exact ⟨by rw [HRes.out]; rfl, by rw [HRes.out]; exact HSw.out⟩
                            · have ne2 : a ≠ j2 := fun e => hEq e.symm
                              go_region
                              all_goals go_wp2
                              go_ret2
                              exact ⟨by rw [HRes.out]; rfl, by rw [HRes.out]; exact HSw.out⟩
                    · have hd : decide (i2 ≤ j) = false := decide_eq_false hij
                      have hI : i2 = scanUp (fun x => ltInt x dk[a]!) dk j i := by rw [← HU.out, scanUp_end (fun x => ltInt x dk[a]!) dk j i2 (.inl hij)]
                      have HI := Lib.hid hI; clear hI
                      go_wp2
                      go_quiet (first | (go_at_call 119; refine Calls.quiet_of_same (less_is rfl _)))
                      go_wp2
                      have HS := Lib.hid (HS.out.drewN nq)
                      generalize wr.drewN nq = wq at *
                      clear hd hij
                      go_loopw [11] (fun vj wr3 => ∃ (j2 : Nat), vj = .int .i64 j2 ∧ i2 ≤ j2 + 1 ∧ j2 ≤ j ∧ Hid (SR w wr3 blk off dk) ∧ Hid (scanDown (fun x => !ltInt x dk[a]!) dk i2 j2 = scanDown (fun x => !ltInt x dk[a]!) dk i2 j)) (fun vj _ => (intOf vj).toNat)
                      case atStart => exact ⟨j, rfl, by omega, Nat.le_refl _, HS, Lib.hid rfl⟩
                      case round =>
                        clear HS
                        obtain ⟨j2, rfl, hj2a, hj2b, HS, HD⟩ := hrel
                        by_cases hij : i2 ≤ j2
                        · have hd : decide (i2 ≤ j2) = true := decide_eq_true hij
                          have an : (a : Int) < n := by omega
                          have jn : (j2 : Int) < n := by omega
                          have ci : wr.cell? ⟨blk, off + j2, none⟩ = some (.int .u64 (G j2)) := by rw [HS.out.cell (by omega), HG.out]
                          have ca : wr.cell? ⟨blk, off + a, none⟩ = some (.int .u64 (G a)) := by rw [HS.out.cell (by omega), HG.out]
                          cases hl : ltInt (G j2) (G a) with
                          | false =>
                            have HD2 := Lib.hid (show scanDown (fun x => !ltInt x dk[a]!) dk i2 (j2 - 1) = scanDown (fun x => !ltInt x dk[a]!) dk i2 j by rw [← HD.out, scanDown_go (fun x => !ltInt x dk[a]!) dk i2 j2 hij (by omega) (by simp only [HG.out, hl]; rfl)])
                            go_wp2
                            go_quiet (first | (go_at_call 119; refine Calls.quiet_of_same (less_is hl _)))
                            go_wp2
                            go_roundw
                            case rel => exact ⟨j2 - 1, by congr 1; omega, by omega, by omega, Lib.hid (HS.out.drewN nq), HD2⟩
                            case measure => simp [intOf]; omega
                          | true =>
                            have hJ : j2 = scanDown (fun x => !ltInt x dk[a]!) dk i2 j := by rw [← HD.out, scanDown_end (fun x => !ltInt x dk[a]!) dk i2 j2 (.inr (by simp only [HG.out, hl]; rfl))]
                            have HJ := Lib.hid hJ; clear hJ
                            have fi : wr.frozen? ⟨blk, off + j2, none⟩ = false := HS.out.frozen _
                            have fi2 : wr.frozen? ⟨blk, off + i2, none⟩ = false := HS.out.frozen _
                            have ci2 : wr.cell? ⟨blk, off + i2, none⟩ = some (.int .u64 (G i2)) := by rw [HS.out.cell (by omega), HG.out]
                            have in2 : (i2 : Int) < n := by omega
                            have hne : i2 < j2 := part_scans_lt ltInt a i j dk (by omega) HI.out HJ.out hij
                            have ne1 : i2 ≠ j2 := by omega
                            have ne2 : j2 ≠ i2 := by omega
                            have hgt : decide (i2 > j2) = false := decide_eq_false (by omega)
                            go_wp2
                            go_quiet (first | (go_at_call 119; refine Calls.quiet_of_same (less_is hl _)))
                            go_wp2
                            go_region
                            all_goals go_wp2
                            go_roundw
                            case rel =>
                              refine ⟨i2 + 1, j2 - 1, swp dk i2 j2, by go_num, by congr 1; omega, by omega, by omega, by omega, by rw [size_swp]; exact hsk, Lib.hid ?_, Lib.hid ?_⟩
                              · have := HS.out.swap (nq + 1) (i := i2) (j := j2) (by omega) (by omega)
                                rw [HG.out, HG.out] at this
                                exact this
                              · rw [← HL.out, part_go ltInt a i j dk HI.out HJ.out (by omega)]
                            case measure => simp [intOf]; omega
                        · have hd : decide (i2 ≤ j2) = false := decide_eq_false hij
                          have hJ : j2 = scanDown (fun x => !ltInt x dk[a]!) dk i2 j := by rw [← HD.out, scanDown_end (fun x => !ltInt x dk[a]!) dk i2 j2 (.inl hij)]
                          have HJ := Lib.hid hJ; clear hJ
                          have hgt : decide (i2 > j2) = true := decide_eq_true (by omega)
                          go_wp2
                          go_quiet (first | (go_at_call 119; refine Calls.quiet_of_same (less_is rfl _)))
                          go_wp2
                          have hja : a ≤ j2 := by omega
                          have an : (a : Int) < n := by omega
                          have jn : (j2 : Int) < n := by omega
                          have cj : wr.cell? ⟨blk, off + j2, none⟩ = some (.int .u64 (G j2)) := by rw [HS.out.cell (by omega), HG.out]
                          have fj : wr.frozen? ⟨blk, off + j2, none⟩ = false := HS.out.frozen _
                          have ca : wr.cell? ⟨blk, off + a, none⟩ = some (.int .u64 (G a)) := by rw [HS.out.cell (by omega), HG.out]
                          have fa : wr.frozen? ⟨blk, off + a, none⟩ = false := HS.out.frozen _
                          have hsw : SR w (((wr.drewN (nq + 1)).setCell ⟨blk, off + j2, none⟩ (.int .u64 (G a))).setCell ⟨blk, off + a, none⟩ (.int .u64 (G j2))) blk off (swp dk j2 a) := by
                            have := HS.out.swap (nq + 1) (i := j2) (j := a) (by omega) (by omega)
                            rw [HG.out, HG.out] at this
                            exact this
                          have HSw := Lib.hid hsw; clear hsw
                          have HRes := Lib.hid (show res = (j2, false, swp dk j2 a) by rw [HFirst.out, ← HL.out, part_break ltInt a i j dk HI.out HJ.out (by omega)])
                          by_cases hEq : j2 = a
                          · rw [hEq] at HSw HRes ⊢
                            clear cj fj
                            go_region
                            all_goals go_wp2
                            go_ret2
                            exact ⟨by rw [HRes.out]; rfl, by rw [HRes.out]; exact HSw.out⟩
                          · have ne2 : a ≠ j2 := fun e => hEq e.symm
                            go_region
                            all_goals go_wp2
                            go_ret2
                            exact ⟨by rw [HRes.out]; rfl, by rw [HRes.out]; exact HSw.out⟩
            · have hd : decide (i2 ≤ j2) = false := decide_eq_false hij
              have hJ : j2 = scanDown (fun x => !ltInt x dk[a]!) dk i2 j := by rw [← HD.out, scanDown_end (fun x => !ltInt x dk[a]!) dk i2 j2 (.inl hij)]
              have HJ := Lib.hid hJ; clear hJ
              have hgt : decide (i2 > j2) = true := decide_eq_true (by omega)
              go_wp2
              go_quiet (first | (go_at_call 119; refine Calls.quiet_of_same (less_is rfl _)))
              go_wp2
              have hja : a ≤ j2 := by omega
              have an : (a : Int) < n := by omega
              have jn : (j2 : Int) < n := by omega
              have cj : wr.cell? ⟨blk, off + j2, none⟩ = some (.int .u64 (G j2)) := by rw [HS.out.cell (by omega), HG.out]
              have fj : wr.frozen? ⟨blk, off + j2, none⟩ = false := HS.out.frozen _
              have ca : wr.cell? ⟨blk, off + a, none⟩ = some (.int .u64 (G a)) := by rw [HS.out.cell (by omega), HG.out]
              have fa : wr.frozen? ⟨blk, off + a, none⟩ = false := HS.out.frozen _
              have hsw : SR w (((wr.drewN (nq + 1)).setCell ⟨blk, off + j2, none⟩ (.int .u64 (G a))).setCell ⟨blk, off + a, none⟩ (.int .u64 (G j2))) blk off (swp dk j2 a) := by
                have := HS.out.swap (nq + 1) (i := j2) (j := a) (by omega) (by omega)
                rw [HG.out, HG.out] at this
                exact this
              have HSw := Lib.hid hsw; clear hsw
              have HRes := Lib.hid (show res = (j2, true, swp dk j2 a) by rw [← HR0.out]; exact part_first_break ltInt d a b pivot Hij.out.1 Hij.out.2 Hdk.out HI.out HJ.out (by omega))
              by_cases hEq : j2 = a
              · rw [hEq] at HSw HRes ⊢
                clear cj fj
                go_region
                all_goals go_wp2
                go_ret2
                exact ⟨by rw [HRes.out]; rfl, by rw [HRes.out]; exact HSw.out⟩
              · have ne2 : a ≠ j2 := fun e => hEq e.symm
                go_region
                all_goals go_wp2
                go_ret2
                exact ⟨by rw [HRes.out]; rfl, by rw [HRes.out]; exact HSw.out⟩
      · have hd : decide (i2 ≤ j) = false := decide_eq_false hij
        have hI : i2 = scanUp (fun x => ltInt x dk[a]!) dk j i := by rw [← HU.out, scanUp_end (fun x => ltInt x dk[a]!) dk j i2 (.inl hij)]
        have HI := Lib.hid hI; clear hI
        go_wp2
        go_quiet (first | (go_at_call 119; refine Calls.quiet_of_same (less_is rfl _)))
        go_wp2
        have HS := Lib.hid (HS.out.drewN nq)
        generalize wr.drewN nq = wq at *
        clear hd hij
        go_loopw [11] (fun vj wr3 => ∃ (j2 : Nat), vj = .int .i64 j2 ∧ i2 ≤ j2 + 1 ∧ j2 ≤ j ∧ Hid (SR w wr3 blk off dk) ∧ Hid (scanDown (fun x => !ltInt x dk[a]!) dk i2 j2 = scanDown (fun x => !ltInt x dk[a]!) dk i2 j)) (fun vj _ => (intOf vj).toNat)
        case atStart => exact ⟨j, rfl, by omega, Nat.le_refl _, HS, Lib.hid rfl⟩
        case round =>
          clear HS
          obtain ⟨j2, rfl, hj2a, hj2b, HS, HD⟩ := hrel
          by_cases hij : i2 ≤ j2
          · have hd : decide (i2 ≤ j2) = true := decide_eq_true hij
            have an : (a : Int) < n := by omega
            have jn : (j2 : Int) < n := by omega
            have ci : wr.cell? ⟨blk, off + j2, none⟩ = some (.int .u64 (G j2)) := by rw [HS.out.cell (by omega), HG.out]
            have ca : wr.cell? ⟨blk, off + a, none⟩ = some (.int .u64 (G a)) := by rw [HS.out.cell (by omega), HG.out]
            cases hl : ltInt (G j2) (G a) with
            | false =>
              have HD2 := Lib.hid (show scanDown (fun x => !ltInt x dk[a]!) dk i2 (j2 - 1) = scanDown (fun x => !ltInt x dk[a]!) dk i2 j by rw [← HD.out, scanDown_go (fun x => !ltInt x dk[a]!) dk i2 j2 hij (by omega) (by simp only [HG.out, hl]; rfl)])
              go_wp2
              go_quiet (first | (go_at_call 119; refine Calls.quiet_of_same (less_is hl _)))
              go_wp2
              go_roundw
              case rel => exact ⟨j2 - 1, by congr 1; omega, by omega, by omega, Lib.hid (HS.out.drewN nq), HD2⟩
              case measure => simp [intOf]; omega
            | true =>
              have hJ : j2 = scanDown (fun x => !ltInt x dk[a]!) dk i2 j := by rw [← HD.out, scanDown_end (fun x => !ltInt x dk[a]!) dk i2 j2 (.inr (by simp only [HG.out, hl]; rfl))]
              have HJ := Lib.hid hJ; clear hJ
              have fi : wr.frozen? ⟨blk, off + j2, none⟩ = false := HS.out.frozen _
              have fi2 : wr.frozen? ⟨blk, off + i2, none⟩ = false := HS.out.frozen _
              have ci2 : wr.cell? ⟨blk, off + i2, none⟩ = some (.int .u64 (G i2)) := by rw [HS.out.cell (by omega), HG.out]
              have in2 : (i2 : Int) < n := by omega
              have hne : i2 < j2 := part_scans_lt ltInt a i j dk (by omega) HI.out HJ.out hij
              have ne1 : i2 ≠ j2 := by omega
              have ne2 : j2 ≠ i2 := by omega
              have hgt : decide (i2 > j2) = false := decide_eq_false (by omega)
              go_wp2
              go_quiet (first | (go_at_call 119; refine Calls.quiet_of_same (less_is hl _)))
              go_wp2
              go_region
              all_goals go_wp2
              have hfirst := part_first_go ltInt d a b pivot Hij.out.1 Hij.out.2 Hdk.out HI.out HJ.out (show ¬ i2 > j2 by omega)
              obtain ⟨rl, hrl⟩ : ∃ rl, partLoop ltInt a (i2 + 1) (j2 - 1) (swp dk i2 j2) = rl := ⟨_, rfl⟩
              rw [hrl, HR0.out] at hfirst
              have HFirst := Lib.hid hfirst; clear hfirst
              have HLr := Lib.hid hrl; clear hrl
              have HSw : Hid (SR w (((wr.drewN (nq + 1)).setCell ⟨blk, off + i2, none⟩ (.int .u64 (G j2))).setCell ⟨blk, off + j2, none⟩ (.int .u64 (G i2))) blk off (swp dk i2 j2)) := Lib.hid (by
                have := HS.out.swap (nq + 1) (i := i2) (j := j2) (by omega) (by omega)
                rw [HG.out, HG.out] at this
                exact this)
              generalize ((wr.drewN (nq + 1)).setCell ⟨blk, off + i2, none⟩ (.int .u64 (G j2))).setCell ⟨blk, off + j2, none⟩ (.int .u64 (G i2)) = ws at *
              go_loopw [10, 11] (fun vi vj wr => ∃ (i j : Nat) (dk : Array Int), vi = .int .i64 i ∧ vj = .int .i64 j ∧ a + 1 ≤ i ∧ i ≤ j + 1 ∧ j < b ∧ dk.size = n ∧ Hid (SR w wr blk off dk) ∧ Hid (partLoop ltInt a i j dk = rl)) (fun vi vj _ => (intOf vj + 1 - intOf vi).toNat)
              case atStart => exact ⟨i2 + 1, j2 - 1, swp dk i2 j2, by go_num, by congr 1; omega, by omega, by omega, by omega, by rw [size_swp]; exact hsk, HSw, HLr⟩
              case round =>
                clear HSw HLr HS HI HJ HD HU HG
                obtain ⟨i, j, dk, rfl, rfl, hai, hij1, hjb, hsk, HS, HL⟩ := hrel
                obtain ⟨G, hG⟩ : ∃ G : Nat → Int, ∀ t, dk[t]! = G t := ⟨fun t => dk[t]!, fun _ => rfl⟩
                have HG := Lib.hid hG; clear hG
                go_wp2
                go_loopw [10] (fun vi wr2 => ∃ (i2 : Nat), vi = .int .i64 i2 ∧ i ≤ i2 ∧ i2 ≤ j + 1 ∧ Hid (SR w wr2 blk off dk) ∧ Hid (scanUp (fun x => ltInt x dk[a]!) dk j i2 = scanUp (fun x => ltInt x dk[a]!) dk j i)) (fun vi _ => j + 1 - (intOf vi).toNat)
                case atStart => exact ⟨i, rfl, Nat.le_refl _, by omega, HS, Lib.hid rfl⟩
                case round =>
                  clear HS
                  obtain ⟨i2, rfl, hi2a, hi2b, HS, HU⟩ := hrel
                  by_cases hij : i2 ≤ j
                  · have hd : decide (i2 ≤ j) = true := decide_eq_true hij
                    have an : (a : Int) < n := by omega
                    have in2 : (i2 : Int) < n := by omega
                    have ci : wr.cell? ⟨blk, off + i2, none⟩ = some (.int .u64 (G i2)) := by rw [HS.out.cell (by omega), HG.out]
                    have ca : wr.cell? ⟨blk, off + a, none⟩ = some (.int .u64 (G a)) := by rw [HS.out.cell (by omega), HG.out]
                    cases hl : ltInt (G i2) (G a) with
                    | true =>
                      have HU2 := Lib.hid (show scanUp (fun x => ltInt x dk[a]!) dk j (i2 + 1) = scanUp (fun x => ltInt x dk[a]!) dk j i by rw [← HU.out, scanUp_go (fun x => ltInt x dk[a]!) dk j i2 hij (by simp only [HG.out, hl])])
                      go_wp2
                      go_quiet (first | (go_at_call 119; refine Calls.quiet_of_same (less_is hl _)))
                      go_wp2
                      go_roundw
                      case rel => exact ⟨i2 + 1, by go_num, by omega, by omega, Lib.hid (HS.out.drewN nq), HU2⟩
                      case measure => simp [intOf]; omega
                    | false =>
                      have hI : i2 = scanUp (fun x => ltInt x dk[a]!) dk j i := by rw [← HU.out, scanUp_end (fun x => ltInt x dk[a]!) dk j i2 (.inr (by simp only [HG.out, hl]))]
                      have HI := Lib.hid hI; clear hI
                      go_wp2
                      go_quiet (first | (go_at_call 119; refine Calls.quiet_of_same (less_is hl _)))
                      go_wp2
                      have HS := Lib.hid (HS.out.drewN nq)
                      generalize wr.drewN nq = wq at *
                      clear hl ci ca hd
                      go_loopw [11] (fun vj wr3 => ∃ (j2 : Nat), vj = .int .i64 j2 ∧ i2 ≤ j2 + 1 ∧ j2 ≤ j ∧ Hid (SR w wr3 blk off dk) ∧ Hid (scanDown (fun x => !ltInt x dk[a]!) dk i2 j2 = scanDown (fun x => !ltInt x dk[a]!) dk i2 j)) (fun vj _ => (intOf vj).toNat)
                      case atStart => exact ⟨j, rfl, by omega, Nat.le_refl _, HS, Lib.hid rfl⟩
                      case round =>
                        clear HS
                        obtain ⟨j2, rfl, hj2a, hj2b, HS, HD⟩ := hrel
                        by_cases hij : i2 ≤ j2
                        · have hd : decide (i2 ≤ j2) = true := decide_eq_true hij
                          have an : (a : Int) < n := by omega
                          have jn : (j2 : Int) < n := by omega
                          have ci : wr.cell? ⟨blk, off + j2, none⟩ = some (.int .u64 (G j2)) := by rw [HS.out.cell (by omega), HG.out]
                          have ca : wr.cell? ⟨blk, off + a, none⟩ = some (.int .u64 (G a)) := by rw [HS.out.cell (by omega), HG.out]
                          cases hl : ltInt (G j2) (G a) with
                          | false =>
                            have HD2 := Lib.hid (show scanDown (fun x => !ltInt x dk[a]!) dk i2 (j2 - 1) = scanDown (fun x => !ltInt x dk[a]!) dk i2 j by rw [← HD.out, scanDown_go (fun x => !ltInt x dk[a]!) dk i2 j2 hij (by omega) (by simp only [HG.out, hl]; rfl)])
                            go_wp2
                            go_quiet (first | (go_at_call 119; refine Calls.quiet_of_same (less_is hl _)))
                            go_wp2
                            go_roundw
                            case rel => exact ⟨j2 - 1, by congr 1; omega, by omega, by omega, Lib.hid (HS.out.drewN nq), HD2⟩
                            case measure => simp [intOf]; omega
                          | true =>
                            have hJ : j2 = scanDown (fun x => !ltInt x dk[a]!) dk i2 j := by rw [← HD.out, scanDown_end (fun x => !ltInt x dk[a]!) dk i2 j2 (.inr (by simp only [HG.out, hl]; rfl))]
                            have HJ := Lib.hid hJ; clear hJ
                            have fi : wr.frozen? ⟨blk, off + j2, none⟩ = false := HS.out.frozen _
                            have fi2 : wr.frozen? ⟨blk, off + i2, none⟩ = false := HS.out.frozen _
                            have ci2 : wr.cell? ⟨blk, off + i2, none⟩ = some (.int .u64 (G i2)) := by rw [HS.out.cell (by omega), HG.out]
                            have in2 : (i2 : Int) < n := by omega
                            have hne : i2 < j2 := part_scans_lt ltInt a i j dk (by omega) HI.out HJ.out hij
                            have ne1 : i2 ≠ j2 := by omega
                            have ne2 : j2 ≠ i2 := by omega
                            have hgt : decide (i2 > j2) = false := decide_eq_false (by omega)
                            go_wp2
                            go_quiet (first | (go_at_call 119; refine Calls.quiet_of_same (less_is hl _)))
                            go_wp2
                            go_region
                            all_goals go_wp2
                            go_roundw
                            case rel =>
                              refine ⟨i2 + 1, j2 - 1, swp dk i2 j2, by go_num, by congr 1; omega, by omega, by omega, by omega, by rw [size_swp]; exact hsk, Lib.hid ?_, Lib.hid ?_⟩
                              · have := HS.out.swap (nq + 1) (i := i2) (j := j2) (by omega) (by omega)
                                rw [HG.out, HG.out] at this
                                exact this
                              · rw [← HL.out, part_go ltInt a i j dk HI.out HJ.out (by omega)]
                            case measure => simp [intOf]; omega
                        · have hd : decide (i2 ≤ j2) = false := decide_eq_false hij
                          have hJ : j2 = scanDown (fun x => !ltInt x dk[a]!) dk i2 j := by rw [← HD.out, scanDown_end (fun x => !ltInt x dk[a]!) dk i2 j2 (.inl hij)]
                          have HJ := Lib.hid hJ; clear hJ
                          have hgt : decide (i2 > j2) = true := decide_eq_true (by omega)
                          go_wp2
                          go_quiet (first | (go_at_call 119; refine Calls.quiet_of_same (less_is rfl _)))
                          go_wp2
                          have hja : a ≤ j2 := by omega
                          have an : (a : Int) < n := by omega
                          have jn : (j2 : Int) < n := by omega
                          have cj : wr.cell? ⟨blk, off + j2, none⟩ = some (.int .u64 (G j2)) := by rw [HS.out.cell (by omega), HG.out]
                          have fj : wr.frozen? ⟨blk, off + j2, none⟩ = false := HS.out.frozen _
                          have ca : wr.cell? ⟨blk, off + a, none⟩ = some (.int .u64 (G a)) := by rw [HS.out.cell (by omega), HG.out]
                          have fa : wr.frozen? ⟨blk, off + a, none⟩ = false := HS.out.frozen _
                          have hsw : SR w (((wr.drewN (nq + 1)).setCell ⟨blk, off + j2, none⟩ (.int .u64 (G a))).setCell ⟨blk, off + a, none⟩ (.int .u64 (G j2))) blk off (swp dk j2 a) := by
                            have := HS.out.swap (nq + 1) (i := j2) (j := a) (by omega) (by omega)
                            rw [HG.out, HG.out] at this
                            exact this
                          have HSw := Lib.hid hsw; clear hsw
                          have HRes := Lib.hid (show res = (j2, false, swp dk j2 a) by rw [HFirst.out, ← HL.out, part_break ltInt a i j dk HI.out HJ.out (by omega)])
                          by_cases hEq : j2 = a
                          · rw [hEq] at HSw HRes ⊢
                            clear cj fj
                            go_region
                            all_goals go_wp2
                            go_ret2
                            exact ⟨by rw [HRes.out]; rfl, by rw [HRes.out]; exact HSw.out⟩
                          · have ne2 : a ≠ j2 := fun e => hEq e.symm
                            go_region
                            all_goals go_wp2
                            go_ret2
                            exact ⟨by rw [HRes.out]; rfl, by rw [HRes.out]; exact HSw.out⟩
                  · have hd : decide (i2 ≤ j) = false := decide_eq_false hij
                    have hI : i2 = scanUp (fun x => ltInt x dk[a]!) dk j i := by rw [← HU.out, scanUp_end (fun x => ltInt x dk[a]!) dk j i2 (.inl hij)]
                    have HI := Lib.hid hI; clear hI
                    go_wp2
                    go_quiet (first | (go_at_call 119; refine Calls.quiet_of_same (less_is rfl _)))
                    go_wp2
                    have HS := Lib.hid (HS.out.drewN nq)
                    generalize wr.drewN nq = wq at *
                    clear hd hij
                    go_loopw [11] (fun vj wr3 => ∃ (j2 : Nat), vj = .int .i64 j2 ∧ i2 ≤ j2 + 1 ∧ j2 ≤ j ∧ Hid (SR w wr3 blk off dk) ∧ Hid (scanDown (fun x => !ltInt x dk[a]!) dk i2 j2 = scanDown (fun x => !ltInt x dk[a]!) dk i2 j)) (fun vj _ => (intOf vj).toNat)
                    case atStart => exact ⟨j, rfl, by omega, Nat.le_refl _, HS, Lib.hid rfl⟩
                    case round =>
                      clear HS
                      obtain ⟨j2, rfl, hj2a, hj2b, HS, HD⟩ := hrel
                      by_cases hij : i2 ≤ j2
                      · have hd : decide (i2 ≤ j2) = true := decide_eq_true hij
                        have an : (a : Int) < n := by omega
                        have jn : (j2 : Int) < n := by omega
                        have ci : wr.cell? ⟨blk, off + j2, none⟩ = some (.int .u64 (G j2)) := by rw [HS.out.cell (by omega), HG.out]
                        have ca : wr.cell? ⟨blk, off + a, none⟩ = some (.int .u64 (G a)) := by rw [HS.out.cell (by omega), HG.out]
                        cases hl : ltInt (G j2) (G a) with
                        | false =>
                          have HD2 := Lib.hid (show scanDown (fun x => !ltInt x dk[a]!) dk i2 (j2 - 1) = scanDown (fun x => !ltInt x dk[a]!) dk i2 j by rw [← HD.out, scanDown_go (fun x => !ltInt x dk[a]!) dk i2 j2 hij (by omega) (by simp only [HG.out, hl]; rfl)])
                          go_wp2
                          go_quiet (first | (go_at_call 119; refine Calls.quiet_of_same (less_is hl _)))
                          go_wp2
                          go_roundw
                          case rel => exact ⟨j2 - 1, by congr 1; omega, by omega, by omega, Lib.hid (HS.out.drewN nq), HD2⟩
                          case measure => simp [intOf]; omega
                        | true =>
                          have hJ : j2 = scanDown (fun x => !ltInt x dk[a]!) dk i2 j := by rw [← HD.out, scanDown_end (fun x => !ltInt x dk[a]!) dk i2 j2 (.inr (by simp only [HG.out, hl]; rfl))]
                          have HJ := Lib.hid hJ; clear hJ
                          have fi : wr.frozen? ⟨blk, off + j2, none⟩ = false := HS.out.frozen _
                          have fi2 : wr.frozen? ⟨blk, off + i2, none⟩ = false := HS.out.frozen _
                          have ci2 : wr.cell? ⟨blk, off + i2, none⟩ = some (.int .u64 (G i2)) := by rw [HS.out.cell (by omega), HG.out]
                          have in2 : (i2 : Int) < n := by omega
                          have hne : i2 < j2 := part_scans_lt ltInt a i j dk (by omega) HI.out HJ.out hij
                          have ne1 : i2 ≠ j2 := by omega
                          have ne2 : j2 ≠ i2 := by omega
                          have hgt : decide (i2 > j2) = false := decide_eq_false (by omega)
                          go_wp2
                          go_quiet (first | (go_at_call 119; refine Calls.quiet_of_same (less_is hl _)))
                          go_wp2
                          go_region
                          all_goals go_wp2
                          go_roundw
                          case rel =>
                            refine ⟨i2 + 1, j2 - 1, swp dk i2 j2, by go_num, by congr 1; omega, by omega, by omega, by omega, by rw [size_swp]; exact hsk, Lib.hid ?_, Lib.hid ?_⟩
                            · have := HS.out.swap (nq + 1) (i := i2) (j := j2) (by omega) (by omega)
                              rw [HG.out, HG.out] at this
                              exact this
                            · rw [← HL.out, part_go ltInt a i j dk HI.out HJ.out (by omega)]
                          case measure => simp [intOf]; omega
                      · have hd : decide (i2 ≤ j2) = false := decide_eq_false hij
                        have hJ : j2 = scanDown (fun x => !ltInt x dk[a]!) dk i2 j := by rw [← HD.out, scanDown_end (fun x => !ltInt x dk[a]!) dk i2 j2 (.inl hij)]
                        have HJ := Lib.hid hJ; clear hJ
                        have hgt : decide (i2 > j2) = true := decide_eq_true (by omega)
                        go_wp2
                        go_quiet (first | (go_at_call 119; refine Calls.quiet_of_same (less_is rfl _)))
                        go_wp2
                        have hja : a ≤ j2 := by omega
                        have an : (a : Int) < n := by omega
                        have jn : (j2 : Int) < n := by omega
                        have cj : wr.cell? ⟨blk, off + j2, none⟩ = some (.int .u64 (G j2)) := by rw [HS.out.cell (by omega), HG.out]
                        have fj : wr.frozen? ⟨blk, off + j2, none⟩ = false := HS.out.frozen _
                        have ca : wr.cell? ⟨blk, off + a, none⟩ = some (.int .u64 (G a)) := by rw [HS.out.cell (by omega), HG.out]
                        have fa : wr.frozen? ⟨blk, off + a, none⟩ = false := HS.out.frozen _
                        have hsw : SR w (((wr.drewN (nq + 1)).setCell ⟨blk, off + j2, none⟩ (.int .u64 (G a))).setCell ⟨blk, off + a, none⟩ (.int .u64 (G j2))) blk off (swp dk j2 a) := by
                          have := HS.out.swap (nq + 1) (i := j2) (j := a) (by omega) (by omega)
                          rw [HG.out, HG.out] at this
                          exact this
                        have HSw := Lib.hid hsw; clear hsw
                        have HRes := Lib.hid (show res = (j2, false, swp dk j2 a) by rw [HFirst.out, ← HL.out, part_break ltInt a i j dk HI.out HJ.out (by omega)])
                        by_cases hEq : j2 = a
                        · rw [hEq] at HSw HRes ⊢
                          clear cj fj
                          go_region
                          all_goals go_wp2
                          go_ret2
                          exact ⟨by rw [HRes.out]; rfl, by rw [HRes.out]; exact HSw.out⟩
                        · have ne2 : a ≠ j2 := fun e => hEq e.symm
                          go_region
                          all_goals go_wp2
                          go_ret2
                          exact ⟨by rw [HRes.out]; rfl, by rw [HRes.out]; exact HSw.out⟩
          · have hd : decide (i2 ≤ j2) = false := decide_eq_false hij
            have hJ : j2 = scanDown (fun x => !ltInt x dk[a]!) dk i2 j := by rw [← HD.out, scanDown_end (fun x => !ltInt x dk[a]!) dk i2 j2 (.inl hij)]
            have HJ := Lib.hid hJ; clear hJ
            have hgt : decide (i2 > j2) = true := decide_eq_true (by omega)
            go_wp2
            go_quiet (first | (go_at_call 119; refine Calls.quiet_of_same (less_is rfl _)))
            go_wp2
            have hja : a ≤ j2 := by omega
            have an : (a : Int) < n := by omega
            have jn : (j2 : Int) < n := by omega
            have cj : wr.cell? ⟨blk, off + j2, none⟩ = some (.int .u64 (G j2)) := by rw [HS.out.cell (by omega), HG.out]
            have fj : wr.frozen? ⟨blk, off + j2, none⟩ = false := HS.out.frozen _
            have ca : wr.cell? ⟨blk, off + a, none⟩ = some (.int .u64 (G a)) := by rw [HS.out.cell (by omega), HG.out]
            have fa : wr.frozen? ⟨blk, off + a, none⟩ = false := HS.out.frozen _
            have hsw : SR w (((wr.drewN (nq + 1)).setCell ⟨blk, off + j2, none⟩ (.int .u64 (G a))).setCell ⟨blk, off + a, none⟩ (.int .u64 (G j2))) blk off (swp dk j2 a) := by
              have := HS.out.swap (nq + 1) (i := j2) (j := a) (by omega) (by omega)
              rw [HG.out, HG.out] at this
              exact this
            have HSw := Lib.hid hsw; clear hsw
            have HRes := Lib.hid (show res = (j2, true, swp dk j2 a) by rw [← HR0.out]; exact part_first_break ltInt d a b pivot Hij.out.1 Hij.out.2 Hdk.out HI.out HJ.out (by omega))
            by_cases hEq : j2 = a
            · rw [hEq] at HSw HRes ⊢
              clear cj fj
              go_region
              all_goals go_wp2
              go_ret2
              exact ⟨by rw [HRes.out]; rfl, by rw [HRes.out]; exact HSw.out⟩
            · have ne2 : a ≠ j2 := fun e => hEq e.symm
              go_region
              all_goals go_wp2
              go_ret2
              exact ⟨by rw [HRes.out]; rfl, by rw [HRes.out]; exact HSw.out⟩
  · have ne1 : pivot ≠ a := fun e => hEq e.symm
    go_region
    all_goals go_wp2
    obtain ⟨dk, hdk⟩ : ∃ dk, dk = swp d a pivot := ⟨_, rfl⟩
    have hsk : dk.size = n := by rw [hdk, size_swp]; exact hn
    have Hdk := Lib.hid hdk
    rw [← hdk] at HS
    clear hdk
    generalize ((wr.setCell ⟨blk, off + a, none⟩ (.int .u64 (G pivot))).setCell ⟨blk, off + pivot, none⟩ (.int .u64 (G a))).drew = w1 at *
    clear ca fa cp fp
    obtain ⟨G, hG⟩ : ∃ G : Nat → Int, ∀ t, dk[t]! = G t := ⟨fun t => dk[t]!, fun _ => rfl⟩
    have HG := Lib.hid hG; clear hG
    go_loopw [10] (fun vi wr2 => ∃ (i2 : Nat), vi = .int .i64 i2 ∧ i ≤ i2 ∧ i2 ≤ j + 1 ∧ Hid (SR w wr2 blk off dk) ∧ Hid (scanUp (fun x => ltInt x dk[a]!) dk j i2 = scanUp (fun x => ltInt x dk[a]!) dk j i)) (fun vi _ => j + 1 - (intOf vi).toNat)
    case atStart => exact ⟨i, rfl, Nat.le_refl _, by omega, HS, Lib.hid rfl⟩
    case round =>
      clear HS
      obtain ⟨i2, rfl, hi2a, hi2b, HS, HU⟩ := hrel
      by_cases hij : i2 ≤ j
      · have hd : decide (i2 ≤ j) = true := decide_eq_true hij
        have an : (a : Int) < n := by omega
        have in2 : (i2 : Int) < n := by omega
        have ci : wr.cell? ⟨blk, off + i2, none⟩ = some (.int .u64 (G i2)) := by rw [HS.out.cell (by omega), HG.out]
        have ca : wr.cell? ⟨blk, off + a, none⟩ = some (.int .u64 (G a)) := by rw [HS.out.cell (by omega), HG.out]
        cases hl : ltInt (G i2) (G a) with
        | true =>
          have HU2 := Lib.hid (show scanUp (fun x => ltInt x dk[a]!) dk j (i2 + 1) = scanUp (fun x => ltInt x dk[a]!) dk j i by rw [← HU.out, scanUp_go (fun x => ltInt x dk[a]!) dk j i2 hij (by simp only [HG.out, hl])])
          go_wp2
          go_quiet (first | (go_at_call 119; refine Calls.quiet_of_same (less_is hl _)))
          go_wp2
          go_roundw
          case rel => exact ⟨i2 + 1, by go_num, by omega, by omega, Lib.hid (HS.out.drewN nq), HU2⟩
          case measure => simp [intOf]; omega
        | false =>
          have hI : i2 = scanUp (fun x => ltInt x dk[a]!) dk j i := by rw [← HU.out, scanUp_end (fun x => ltInt x dk[a]!) dk j i2 (.inr (by simp only [HG.out, hl]))]
          have HI := Lib.hid hI; clear hI
          go_wp2
          go_quiet (first | (go_at_call 119; refine Calls.quiet_of_same (less_is hl _)))
          go_wp2
          have HS := Lib.hid (HS.out.drewN nq)
          generalize wr.drewN nq = wq at *
          clear hl ci ca hd
          go_loopw [11] (fun vj wr3 => ∃ (j2 : Nat), vj = .int .i64 j2 ∧ i2 ≤ j2 + 1 ∧ j2 ≤ j ∧ Hid (SR w wr3 blk off dk) ∧ Hid (scanDown (fun x => !ltInt x dk[a]!) dk i2 j2 = scanDown (fun x => !ltInt x dk[a]!) dk i2 j)) (fun vj _ => (intOf vj).toNat)
          case atStart => exact ⟨j, rfl, by omega, Nat.le_refl _, HS, Lib.hid rfl⟩
          case round =>
            clear HS
            obtain ⟨j2, rfl, hj2a, hj2b, HS, HD⟩ := hrel
            by_cases hij : i2 ≤ j2
            · have hd : decide (i2 ≤ j2) = true := decide_eq_true hij
              have an : (a : Int) < n := by omega
              have jn : (j2 : Int) < n := by omega
              have ci : wr.cell? ⟨blk, off + j2, none⟩ = some (.int .u64 (G j2)) := by rw [HS.out.cell (by omega), HG.out]
              have ca : wr.cell? ⟨blk, off + a, none⟩ = some (.int .u64 (G a)) := by rw [HS.out.cell (by omega), HG.out]
              cases hl : ltInt (G j2) (G a) with
              | false =>
                have HD2 := Lib.hid (show scanDown (fun x => !ltInt x dk[a]!) dk i2 (j2 - 1) = scanDown (fun x => !ltInt x dk[a]!) dk i2 j by rw [← HD.out, scanDown_go (fun x => !ltInt x dk[a]!) dk i2 j2 hij (by omega) (by simp only [HG.out, hl]; rfl)])
                go_wp2
                go_quiet (first | (go_at_call 119; refine Calls.quiet_of_same (less_is hl _)))
                go_wp2
                go_roundw
                case rel => exact ⟨j2 - 1, by congr 1; omega, by omega, by omega, Lib.hid (HS.out.drewN nq), HD2⟩
                case measure => simp [intOf]; omega
              | true =>
                have hJ : j2 = scanDown (fun x => !ltInt x dk[a]!) dk i2 j := by rw [← HD.out, scanDown_end (fun x => !ltInt x dk[a]!) dk i2 j2 (.inr (by simp only [HG.out, hl]; rfl))]
                have HJ := Lib.hid hJ; clear hJ
                have fi : wr.frozen? ⟨blk, off + j2, none⟩ = false := HS.out.frozen _
                have fi2 : wr.frozen? ⟨blk, off + i2, none⟩ = false := HS.out.frozen _
                have ci2 : wr.cell? ⟨blk, off + i2, none⟩ = some (.int .u64 (G i2)) := by rw [HS.out.cell (by omega), HG.out]
                have in2 : (i2 : Int) < n := by omega
                have hne : i2 < j2 := part_scans_lt ltInt a i j dk (by omega) HI.out HJ.out hij
                have ne1 : i2 ≠ j2 := by omega
                have ne2 : j2 ≠ i2 := by omega
                have hgt : decide (i2 > j2) = false := decide_eq_false (by omega)
                go_wp2
                go_quiet (first | (go_at_call 119; refine Calls.quiet_of_same (less_is hl _)))
                go_wp2
                go_region
                all_goals go_wp2
                have hfirst := part_first_go ltInt d a b pivot Hij.out.1 Hij.out.2 Hdk.out HI.out HJ.out (show ¬ i2 > j2 by omega)
                obtain ⟨rl, hrl⟩ : ∃ rl, partLoop ltInt a (i2 + 1) (j2 - 1) (swp dk i2 j2) = rl := ⟨_, rfl⟩
                rw [hrl, HR0.out] at hfirst
                have HFirst := Lib.hid hfirst; clear hfirst
                have HLr := Lib.hid hrl; clear hrl
                have HSw : Hid (SR w (((wr.drewN (nq + 1)).setCell ⟨blk, off + i2, none⟩ (.int .u64 (G j2))).setCell ⟨blk, off + j2, none⟩ (.int .u64 (G i2))) blk off (swp dk i2 j2)) := Lib.hid (by
                  have := HS.out.swap (nq + 1) (i := i2) (j := j2) (by omega) (by omega)
                  rw [HG.out, HG.out] at this
                  exact this)
                generalize ((wr.drewN (nq + 1)).setCell ⟨blk, off + i2, none⟩ (.int .u64 (G j2))).setCell ⟨blk, off + j2, none⟩ (.int .u64 (G i2)) = ws at *
                go_loopw [10, 11] (fun vi vj wr => ∃ (i j : Nat) (dk : Array Int), vi = .int .i64 i ∧ vj = .int .i64 j ∧ a + 1 ≤ i ∧ i ≤ j + 1 ∧ j < b ∧ dk.size = n ∧ Hid (SR w wr blk off dk) ∧ Hid (partLoop ltInt a i j dk = rl)) (fun vi vj _ => (intOf vj + 1 - intOf vi).toNat)
                case atStart => exact ⟨i2 + 1, j2 - 1, swp dk i2 j2, by go_num, by congr 1; omega, by omega, by omega, by omega, by rw [size_swp]; exact hsk, HSw, HLr⟩
                case round =>
                  clear HSw HLr HS HI HJ HD HU HG
                  obtain ⟨i, j, dk, rfl, rfl, hai, hij1, hjb, hsk, HS, HL⟩ := hrel
                  obtain ⟨G, hG⟩ : ∃ G : Nat → Int, ∀ t, dk[t]! = G t := ⟨fun t => dk[t]!, fun _ => rfl⟩
                  have HG := Lib.hid hG; clear hG
                  go_wp2
                  go_loopw [10] (fun vi wr2 => ∃ (i2 : Nat), vi = .int .i64 i2 ∧ i ≤ i2 ∧ i2 ≤ j + 1 ∧ Hid (SR w wr2 blk off dk) ∧ Hid (scanUp (fun x => ltInt x dk[a]!) dk j i2 = scanUp (fun x => ltInt x dk[a]!) dk j i)) (fun vi _ => j + 1 - (intOf vi).toNat)
                  case atStart => exact ⟨i, rfl, Nat.le_refl _, by omega, HS, Lib.hid rfl⟩
                  case round =>
                    clear HS
                    obtain ⟨i2, rfl, hi2a, hi2b, HS, HU⟩ := hrel
                    by_cases hij : i2 ≤ j
                    · have hd : decide (i2 ≤ j) = true := decide_eq_true hij
                      have an : (a : Int) < n := by omega
                      have in2 : (i2 : Int) < n := by omega
                      have ci : wr.cell? ⟨blk, off + i2, none⟩ = some (.int .u64 (G i2)) := by rw [HS.out.cell (by omega), HG.out]
                      have ca : wr.cell? ⟨blk, off + a, none⟩ = some (.int .u64 (G a)) := by rw [HS.out.cell (by omega), HG.out]
                      cases hl : ltInt (G i2) (G a) with
                      | true =>
                        have HU2 := Lib.hid (show scanUp (fun x => ltInt x dk[a]!) dk j (i2 + 1) = scanUp (fun x => ltInt x dk[a]!) dk j i by rw [← HU.out, scanUp_go (fun x => ltInt x dk[a]!) dk j i2 hij (by simp only [HG.out, hl])])
                        go_wp2
                        go_quiet (first | (go_at_call 119; refine Calls.quiet_of_same (less_is hl _)))
                        go_wp2
                        go_roundw
                        case rel => exact ⟨i2 + 1, by go_num, by omega, by omega, Lib.hid (HS.out.drewN nq), HU2⟩
                        case measure => simp [intOf]; omega
                      | false =>
                        have hI : i2 = scanUp (fun x => ltInt x dk[a]!) dk j i := by rw [← HU.out, scanUp_end (fun x => ltInt x dk[a]!) dk j i2 (.inr (by simp only [HG.out, hl]))]
                        have HI := Lib.hid hI; clear hI
                        go_wp2
                        go_quiet (first | (go_at_call 119; refine Calls.quiet_of_same (less_is hl _)))
                        go_wp2
                        have HS := Lib.hid (HS.out.drewN nq)
                        generalize wr.drewN nq = wq at *
                        clear hl ci ca hd
                        go_loopw [11] (fun vj wr3 => ∃ (j2 : Nat), vj = .int .i64 j2 ∧ i2 ≤ j2 + 1 ∧ j2 ≤ j ∧ Hid (SR w wr3 blk off dk) ∧ Hid (scanDown (fun x => !ltInt x dk[a]!) dk i2 j2 = scanDown (fun x => !ltInt x dk[a]!) dk i2 j)) (fun vj _ => (intOf vj).toNat)
                        case atStart => exact ⟨j, rfl, by omega, Nat.le_refl _, HS, Lib.hid rfl⟩
                        case round =>
                          clear HS
                          obtain ⟨j2, rfl, hj2a, hj2b, HS, HD⟩ := hrel
                          by_cases hij : i2 ≤ j2
                          · have hd : decide (i2 ≤ j2) = true := decide_eq_true hij
                            have an : (a : Int) < n := by omega
                            have jn : (j2 : Int) < n := by omega
                            have ci : wr.cell? ⟨blk, off + j2, none⟩ = some (.int .u64 (G j2)) := by rw [HS.out.cell (by omega), HG.out]
                            have ca : wr.cell? ⟨blk, off + a, none⟩ = some (.int .u64 (G a)) := by rw [HS.out.cell (by omega), HG.out]
                            cases hl : ltInt (G j2) (G a) with
                            | false =>
                              have HD2 := Lib.hid (show scanDown (fun x => !ltInt x dk[a]!) dk i2 (j2 - 1) = scanDown (fun x => !ltInt x dk[a]!) dk i2 j by rw [← HD.out, scanDown_go (fun x => !ltInt x dk[a]!) dk i2 j2 hij (by omega) (by simp only [HG.out, hl]; rfl)])
                              go_wp2
                              go_quiet (first | (go_at_call 119; refine Calls.quiet_of_same (less_is hl _)))
                              go_wp2
                              go_roundw
                              case rel => exact ⟨j2 - 1, by congr 1; omega, by omega, by omega, Lib.hid (HS.out.drewN nq), HD2⟩
                              case measure => simp [intOf]; omega
                            | true =>
                              have hJ : j2 = scanDown (fun x => !ltInt x dk[a]!) dk i2 j := by rw [← HD.out, scanDown_end (fun x => !ltInt x dk[a]!) dk i2 j2 (.inr (by simp only [HG.out, hl]; rfl))]
                              have HJ := Lib.hid hJ; clear hJ
                              have fi : wr.frozen? ⟨blk, off + j2, none⟩ = false := HS.out.frozen _
                              have fi2 : wr.frozen? ⟨blk, off + i2, none⟩ = false := HS.out.frozen _
                              have ci2 : wr.cell? ⟨blk, off + i2, none⟩ = some (.int .u64 (G i2)) := by rw [HS.out.cell (by omega), HG.out]
                              have in2 : (i2 : Int) < n := by omega
                              have hne : i2 < j2 := part_scans_lt ltInt a i j dk (by omega) HI.out HJ.out hij
                              have ne1 : i2 ≠ j2 := by omega
                              have ne2 : j2 ≠ i2 := by omega
                              have hgt : decide (i2 > j2) = false := decide_eq_false (by omega)
                              go_wp2
                              go_quiet (first | (go_at_call 119; refine Calls.quiet_of_same (less_is hl _)))
                              go_wp2
                              go_region
                              all_goals go_wp2
                              go_roundw
                              case rel =>
                                refine ⟨i2 + 1, j2 - 1, swp dk i2 j2, by go_num, by congr 1; omega, by omega, by omega, by omega, by rw [size_swp]; exact hsk, Lib.hid ?_, Lib.hid ?_⟩
                                · have := HS.out.swap (nq + 1) (i := i2) (j := j2) (by omega) (by omega)
                                  rw [HG.out, HG.out] at this
                                  exact this
                                · rw [← HL.out, part_go ltInt a i j dk HI.out HJ.out (by omega)]
                              case measure => simp [intOf]; omega
                          · have hd : decide (i2 ≤ j2) = false := decide_eq_false hij
                            have hJ : j2 = scanDown (fun x => !ltInt x dk[a]!) dk i2 j := by rw [← HD.out, scanDown_end (fun x => !ltInt x dk[a]!) dk i2 j2 (.inl hij)]
                            have HJ := Lib.hid hJ; clear hJ
                            have hgt : decide (i2 > j2) = true := decide_eq_true (by omega)
                            go_wp2
                            go_quiet (first | (go_at_call 119; refine Calls.quiet_of_same (less_is rfl _)))
                            go_wp2
                            have hja : a ≤ j2 := by omega
                            have an : (a : Int) < n := by omega
                            have jn : (j2 : Int) < n := by omega
                            have cj : wr.cell? ⟨blk, off + j2, none⟩ = some (.int .u64 (G j2)) := by rw [HS.out.cell (by omega), HG.out]
                            have fj : wr.frozen? ⟨blk, off + j2, none⟩ = false := HS.out.frozen _
                            have ca : wr.cell? ⟨blk, off + a, none⟩ = some (.int .u64 (G a)) := by rw [HS.out.cell (by omega), HG.out]
                            have fa : wr.frozen? ⟨blk, off + a, none⟩ = false := HS.out.frozen _
                            have hsw : SR w (((wr.drewN (nq + 1)).setCell ⟨blk, off + j2, none⟩ (.int .u64 (G a))).setCell ⟨blk, off + a, none⟩ (.int .u64 (G j2))) blk off (swp dk j2 a) := by
                              have := HS.out.swap (nq + 1) (i := j2) (j := a) (by omega) (by omega)
                              rw [HG.out, HG.out] at this
                              exact this
                            have HSw := Lib.hid hsw; clear hsw
                            have HRes := Lib.hid (show res = (j2, false, swp dk j2 a) by rw [HFirst.out, ← HL.out, part_break ltInt a i j dk HI.out HJ.out (by omega)])
                            by_cases hEq : j2 = a
                            · rw [hEq] at HSw HRes ⊢
                              clear cj fj
                              go_region
                              all_goals go_wp2
                              go_ret2
                              exact ⟨by rw [HRes.out]; rfl, by rw [HRes.out]; exact HSw.out⟩
                            · have ne2 : a ≠ j2 := fun e => hEq e.symm
                              go_region
                              all_goals go_wp2
                              go_ret2
                              exact ⟨by rw [HRes.out]; rfl, by rw [HRes.out]; exact HSw.out⟩
                    · have hd : decide (i2 ≤ j) = false := decide_eq_false hij
                      have hI : i2 = scanUp (fun x => ltInt x dk[a]!) dk j i := by rw [← HU.out, scanUp_end (fun x => ltInt x dk[a]!) dk j i2 (.inl hij)]
                      have HI := Lib.hid hI; clear hI
                      go_wp2
                      go_quiet (first | (go_at_call 119; refine Calls.quiet_of_same (less_is rfl _)))
                      go_wp2
                      have HS := Lib.hid (HS.out.drewN nq)
                      generalize wr.drewN nq = wq at *
                      clear hd hij
                      go_loopw [11] (fun vj wr3 => ∃ (j2 : Nat), vj = .int .i64 j2 ∧ i2 ≤ j2 + 1 ∧ j2 ≤ j ∧ Hid (SR w wr3 blk off dk) ∧ Hid (scanDown (fun x => !ltInt x dk[a]!) dk i2 j2 = scanDown (fun x => !ltInt x dk[a]!) dk i2 j)) (fun vj _ => (intOf vj).toNat)
                      case atStart => exact ⟨j, rfl, by omega, Nat.le_refl _, HS, Lib.hid rfl⟩
                      case round =>
                        clear HS
                        obtain ⟨j2, rfl, hj2a, hj2b, HS, HD⟩ := hrel
                        by_cases hij : i2 ≤ j2
                        · have hd : decide (i2 ≤ j2) = true := decide_eq_true hij
                          have an : (a : Int) < n := by omega
                          have jn : (j2 : Int) < n := by omega
                          have ci : wr.cell? ⟨blk, off + j2, none⟩ = some (.int .u64 (G j2)) := by rw [HS.out.cell (by omega), HG.out]
                          have ca : wr.cell? ⟨blk, off + a, none⟩ = some (.int .u64 (G a)) := by rw [HS.out.cell (by omega), HG.out]
                          cases hl : ltInt (G j2) (G a) with
                          | false =>
                            have HD2 := Lib.hid (show scanDown (fun x => !ltInt x dk[a]!) dk i2 (j2 - 1) = scanDown (fun x => !ltInt x dk[a]!) dk i2 j by rw [← HD.out, scanDown_go (fun x => !ltInt x dk[a]!) dk i2 j2 hij (by omega) (by simp only [HG.out, hl]; rfl)])
                            go_wp2
                            go_quiet (first | (go_at_call 119; refine Calls.quiet_of_same (less_is hl _)))
                            go_wp2
                            go_roundw
                            case rel => exact ⟨j2 - 1, by congr 1; omega, by omega, by omega, Lib.hid (HS.out.drewN nq), HD2⟩
                            case measure => simp [intOf]; omega
                          | true =>
                            have hJ : j2 = scanDown (fun x => !ltInt x dk[a]!) dk i2 j := by rw [← HD.out, scanDown_end (fun x => !ltInt x dk[a]!) dk i2 j2 (.inr (by simp only [HG.out, hl]; rfl))]
                            have HJ := Lib.hid hJ; clear hJ
                            have fi : wr.frozen? ⟨blk, off + j2, none⟩ = false := HS.out.frozen _
                            have fi2 : wr.frozen? ⟨blk, off + i2, none⟩ = false := HS.out.frozen _
                            have ci2 : wr.cell? ⟨blk, off + i2, none⟩ = some (.int .u64 (G i2)) := by rw [HS.out.cell (by omega), HG.out]
                            have in2 : (i2 : Int) < n := by omega
                            have hne : i2 < j2 := part_scans_lt ltInt a i j dk (by omega) HI.out HJ.out hij
                            have ne1 : i2 ≠ j2 := by omega
                            have ne2 : j2 ≠ i2 := by omega
                            have hgt : decide (i2 > j2) = false := decide_eq_false (by omega)
                            go_wp2
                            go_quiet (first | (go_at_call 119; refine Calls.quiet_of_same (less_is hl _)))
                            go_wp2
                            go_region
                            all_goals go_wp2
                            go_roundw
                            case rel =>
                              refine ⟨i2 + 1, j2 - 1, swp dk i2 j2, by go_num, by congr 1; omega, by omega, by omega, by omega, by rw [size_swp]; exact hsk, Lib.hid ?_, Lib.hid ?_⟩
                              · have := HS.out.swap (nq + 1) (i := i2) (j := j2) (by omega) (by omega)
                                rw [HG.out, HG.out] at this
                                exact this
                              · rw [← HL.out, part_go ltInt a i j dk HI.out HJ.out (by omega)]
                            case measure => simp [intOf]; omega
                        · have hd : decide (i2 ≤ j2) = false := decide_eq_false hij
                          have hJ : j2 = scanDown (fun x => !ltInt x dk[a]!) dk i2 j := by rw [← HD.out, scanDown_end (fun x => !ltInt x dk[a]!) dk i2 j2 (.inl hij)]
                          have HJ := Lib.hid hJ; clear hJ
                          have hgt : decide (i2 > j2) = true := decide_eq_true (by omega)
                          go_wp2
                          go_quiet (first | (go_at_call 119; refine Calls.quiet_of_same (less_is rfl _)))
                          go_wp2
                          have hja : a ≤ j2 := by omega
                          have an : (a : Int) < n := by omega
                          have jn : (j2 : Int) < n := by omega
                          have cj : wr.cell? ⟨blk, off + j2, none⟩ = some (.int .u64 (G j2)) := by rw [HS.out.cell (by omega), HG.out]
                          have fj : wr.frozen? ⟨blk, off + j2, none⟩ = false := HS.out.frozen _
                          have ca : wr.cell? ⟨blk, off + a, none⟩ = some (.int .u64 (G a)) := by rw [HS.out.cell (by omega), HG.out]
                          have fa : wr.frozen? ⟨blk, off + a, none⟩ = false := HS.out.frozen _
                          have hsw : SR w (((wr.drewN (nq + 1)).setCell ⟨blk, off + j2, none⟩ (.int .u64 (G a))).setCell ⟨blk, off + a, none⟩ (.int .u64 (G j2))) blk off (swp dk j2 a) := by
                            have := HS.out.swap (nq + 1) (i := j2) (j := a) (by omega) (by omega)
                            rw [HG.out, HG.out] at this
                            exact this
                          have HSw := Lib.hid hsw; clear hsw
                          have HRes := Lib.hid (show res = (j2, false, swp dk j2 a) by rw [HFirst.out, ← HL.out, part_break ltInt a i j dk HI.out HJ.out (by omega)])
                          by_cases hEq : j2 = a
                          · rw [hEq] at HSw HRes ⊢
                            clear cj fj
                            go_region
                            all_goals go_wp2
                            go_ret2
                            exact ⟨by rw [HRes.out]; rfl, by rw [HRes.out]; exact HSw.out⟩
                          · have ne2 : a ≠ j2 := fun e => hEq e.symm
                            go_region
                            all_goals go_wp2
                            go_ret2
                            exact ⟨by rw [HRes.out]; rfl, by rw [HRes.out]; exact HSw.out⟩
            · have hd : decide (i2 ≤ j2) = false := decide_eq_false hij
              have hJ : j2 = scanDown (fun x => !ltInt x dk[a]!) dk i2 j := by rw [← HD.out, scanDown_end (fun x => !ltInt x dk[a]!) dk i2 j2 (.inl hij)]
              have HJ := Lib.hid hJ; clear hJ
              have hgt : decide (i2 > j2) = true := decide_eq_true (by omega)
              go_wp2
              go_quiet (first | (go_at_call 119; refine Calls.quiet_of_same (less_is rfl _)))
              go_wp2
              have hja : a ≤ j2 := by omega
              have an : (a : Int) < n := by omega
              have jn : (j2 : Int) < n := by omega
              have cj : wr.cell? ⟨blk, off + j2, none⟩ = some (.int .u64 (G j2)) := by rw [HS.out.cell (by omega), HG.out]
              have fj : wr.frozen? ⟨blk, off + j2, none⟩ = false := HS.out.frozen _
              have ca : wr.cell? ⟨blk, off + a, none⟩ = some (.int .u64 (G a)) := by rw [HS.out.cell (by omega), HG.out]
              have fa : wr.frozen? ⟨blk, off + a, none⟩ = false := HS.out.frozen _
              have hsw : SR w (((wr.drewN (nq + 1)).setCell ⟨blk, off + j2, none⟩ (.int .u64 (G a))).setCell ⟨blk, off + a, none⟩ (.int .u64 (G j2))) blk off (swp dk j2 a) := by
                have := HS.out.swap (nq + 1) (i := j2) (j := a) (by omega) (by omega)
                rw [HG.out, HG.out] at this
                exact this
              have HSw := Lib.hid hsw; clear hsw
              have HRes := Lib.hid (show res = (j2, true, swp dk j2 a) by rw [← HR0.out]; exact part_first_break ltInt d a b pivot Hij.out.1 Hij.out.2 Hdk.out HI.out HJ.out (by omega))
              by_cases hEq : j2 = a
              · rw [hEq] at HSw HRes ⊢
                clear cj fj
                go_region
                all_goals go_wp2
                go_ret2
                exact ⟨by rw [HRes.out]; rfl, by rw [HRes.out]; exact HSw.out⟩
              · have ne2 : a ≠ j2 := fun e => hEq e.symm
                go_region
                all_goals go_wp2
                go_ret2
                exact ⟨by rw [HRes.out]; rfl, by rw [HRes.out]; exact HSw.out⟩
      · have hd : decide (i2 ≤ j) = false := decide_eq_false hij
        have hI : i2 = scanUp (fun x => ltInt x dk[a]!) dk j i := by rw [← HU.out, scanUp_end (fun x => ltInt x dk[a]!) dk j i2 (.inl hij)]
        have HI := Lib.hid hI; clear hI
        go_wp2
        go_quiet (first | (go_at_call 119; refine Calls.quiet_of_same (less_is rfl _)))
        go_wp2
        have HS := Lib.hid (HS.out.drewN nq)
        generalize wr.drewN nq = wq at *
        clear hd hij
        go_loopw [11] (fun vj wr3 => ∃ (j2 : Nat), vj = .int .i64 j2 ∧ i2 ≤ j2 + 1 ∧ j2 ≤ j ∧ Hid (SR w wr3 blk off dk) ∧ Hid (scanDown (fun x => !ltInt x dk[a]!) dk i2 j2 = scanDown (fun x => !ltInt x dk[a]!) dk i2 j)) (fun vj _ => (intOf vj).toNat)
        case atStart => exact ⟨j, rfl, by omega, Nat.le_refl _, HS, Lib.hid rfl⟩
        case round =>
          clear HS
          obtain ⟨j2, rfl, hj2a, hj2b, HS, HD⟩ := hrel
          by_cases hij : i2 ≤ j2
          · have hd : decide (i2 ≤ j2) = true := decide_eq_true hij
            have an : (a : Int) < n := by omega
            have jn : (j2 : Int) < n := by omega
            have ci : wr.cell? ⟨blk, off + j2, none⟩ = some (.int .u64 (G j2)) := by rw [HS.out.cell (by omega), HG.out]
            have ca : wr.cell? ⟨blk, off + a, none⟩ = some (.int .u64 (G a)) := by rw [HS.out.cell (by omega), HG.out]
            cases hl : ltInt (G j2) (G a) with
            | false =>
              have HD2 := Lib.hid (show scanDown (fun x => !ltInt x dk[a]!) dk i2 (j2 - 1) = scanDown (fun x => !ltInt x dk[a]!) dk i2 j by rw [← HD.out, scanDown_go (fun x => !ltInt x dk[a]!) dk i2 j2 hij (by omega) (by simp only [HG.out, hl]; rfl)])
              go_wp2
              go_quiet (first | (go_at_call 119; refine Calls.quiet_of_same (less_is hl _)))
              go_wp2
              go_roundw
              case rel => exact ⟨j2 - 1, by congr 1; omega, by omega, by omega, Lib.hid (HS.out.drewN nq), HD2⟩
              case measure => simp [intOf]; omega
            | true =>
              have hJ : j2 = scanDown (fun x => !ltInt x dk[a]!) dk i2 j := by rw [← HD.out, scanDown_end (fun x => !ltInt x dk[a]!) dk i2 j2 (.inr (by simp only [HG.out, hl]; rfl))]
              have HJ := Lib.hid hJ; clear hJ
              have fi : wr.frozen? ⟨blk, off + j2, none⟩ = false := HS.out.frozen _
              have fi2 : wr.frozen? ⟨blk, off + i2, none⟩ = false := HS.out.frozen _
              have ci2 : wr.cell? ⟨blk, off + i2, none⟩ = some (.int .u64 (G i2)) := by rw [HS.out.cell (by omega), HG.out]
              have in2 : (i2 : Int) < n := by omega
              have hne : i2 < j2 := part_scans_lt ltInt a i j dk (by omega) HI.out HJ.out hij
              have ne1 : i2 ≠ j2 := by omega
              have ne2 : j2 ≠ i2 := by omega
              have hgt : decide (i2 > j2) = false := decide_eq_false (by omega)
              go_wp2
              go_quiet (first | (go_at_call 119; refine Calls.quiet_of_same (less_is hl _)))
              go_wp2
              go_region
              all_goals go_wp2
              have hfirst := part_first_go ltInt d a b pivot Hij.out.1 Hij.out.2 Hdk.out HI.out HJ.out (show ¬ i2 > j2 by omega)
              obtain ⟨rl, hrl⟩ : ∃ rl, partLoop ltInt a (i2 + 1) (j2 - 1) (swp dk i2 j2) = rl := ⟨_, rfl⟩
              rw [hrl, HR0.out] at hfirst
              have HFirst := Lib.hid hfirst; clear hfirst
              have HLr := Lib.hid hrl; clear hrl
              have HSw : Hid (SR w (((wr.drewN (nq + 1)).setCell ⟨blk, off + i2, none⟩ (.int .u64 (G j2))).setCell ⟨blk, off + j2, none⟩ (.int .u64 (G i2))) blk off (swp dk i2 j2)) := Lib.hid (by
                have := HS.out.swap (nq + 1) (i := i2) (j := j2) (by omega) (by omega)
                rw [HG.out, HG.out] at this
                exact this)
              generalize ((wr.drewN (nq + 1)).setCell ⟨blk, off + i2, none⟩ (.int .u64 (G j2))).setCell ⟨blk, off + j2, none⟩ (.int .u64 (G i2)) = ws at *
              go_loopw [10, 11] (fun vi vj wr => ∃ (i j : Nat) (dk : Array Int), vi = .int .i64 i ∧ vj = .int .i64 j ∧ a + 1 ≤ i ∧ i ≤ j + 1 ∧ j < b ∧ dk.size = n ∧ Hid (SR w wr blk off dk) ∧ Hid (partLoop ltInt a i j dk = rl)) (fun vi vj _ => (intOf vj + 1 - intOf vi).toNat)
              case atStart => exact ⟨i2 + 1, j2 - 1, swp dk i2 j2, by go_num, by congr 1; omega, by omega, by omega, by omega, by rw [size_swp]; exact hsk, HSw, HLr⟩
              case round =>
                clear HSw HLr HS HI HJ HD HU HG
                obtain ⟨i, j, dk, rfl, rfl, hai, hij1, hjb, hsk, HS, HL⟩ := hrel
                obtain ⟨G, hG⟩ : ∃ G : Nat → Int, ∀ t, dk[t]! = G t := ⟨fun t => dk[t]!, fun _ => rfl⟩
                have HG := Lib.hid hG; clear hG
                go_wp2
                go_loopw [10] (fun vi wr2 => ∃ (i2 : Nat), vi = .int .i64 i2 ∧ i ≤ i2 ∧ i2 ≤ j + 1 ∧ Hid (SR w wr2 blk off dk) ∧ Hid (scanUp (fun x => ltInt x dk[a]!) dk j i2 = scanUp (fun x => ltInt x dk[a]!) dk j i)) (fun vi _ => j + 1 - (intOf vi).toNat)
                case atStart => exact ⟨i, rfl, Nat.le_refl _, by omega, HS, Lib.hid rfl⟩
                case round =>
                  clear HS
                  obtain ⟨i2, rfl, hi2a, hi2b, HS, HU⟩ := hrel
                  by_cases hij : i2 ≤ j
                  · have hd : decide (i2 ≤ j) = true := decide_eq_true hij
                    have an : (a : Int) < n := by omega
                    have in2 : (i2 : Int) < n := by omega
                    have ci : wr.cell? ⟨blk, off + i2, none⟩ = some (.int .u64 (G i2)) := by rw [HS.out.cell (by omega), HG.out]
                    have ca : wr.cell? ⟨blk, off + a, none⟩ = some (.int .u64 (G a)) := by rw [HS.out.cell (by omega), HG.out]
                    cases hl : ltInt (G i2) (G a) with
                    | true =>
                      have HU2 := Lib.hid (show scanUp (fun x => ltInt x dk[a]!) dk j (i2 + 1) = scanUp (fun x => ltInt x dk[a]!) dk j i by rw [← HU.out, scanUp_go (fun x => ltInt x dk[a]!) dk j i2 hij (by simp only [HG.out, hl])])
                      go_wp2
                      go_quiet (first | (go_at_call 119; refine Calls.quiet_of_same (less_is hl _)))
                      go_wp2
                      go_roundw
                      case rel => exact ⟨i2 + 1, by go_num, by omega, by omega, Lib.hid (HS.out.drewN nq), HU2⟩
                      case measure => simp [intOf]; omega
                    | false =>
                      have hI : i2 = scanUp (fun x => ltInt x dk[a]!) dk j i := by rw [← HU.out, scanUp_end (fun x => ltInt x dk[a]!) dk j i2 (.inr (by simp only [HG.out, hl]))]
                      have HI := Lib.hid hI; clear hI
                      go_wp2
                      go_quiet (first | (go_at_call 119; refine Calls.quiet_of_same (less_is hl _)))
                      go_wp2
                      have HS := Lib.hid (HS.out.drewN nq)
                      generalize wr.drewN nq = wq at *
                      clear hl ci ca hd
                      go_loopw [11] (fun vj wr3 => ∃ (j2 : Nat), vj = .int .i64 j2 ∧ i2 ≤ j2 + 1 ∧ j2 ≤ j ∧ Hid (SR w wr3 blk off dk) ∧ Hid (scanDown (fun x => !ltInt x dk[a]!) dk i2 j2 = scanDown (fun x => !ltInt x dk[a]!) dk i2 j)) (fun vj _ => (intOf vj).toNat)
                      case atStart => exact ⟨j, rfl, by omega, Nat.le_refl _, HS, Lib.hid rfl⟩
                      case round =>
                        clear HS
                        obtain ⟨j2, rfl, hj2a, hj2b, HS, HD⟩ := hrel
                        by_cases hij : i2 ≤ j2
                        · have hd : decide (i2 ≤ j2) = true := decide_eq_true hij
                          have an : (a : Int) < n := by omega
                          have jn : (j2 : Int) < n := by omega
                          have ci : wr.cell? ⟨blk, off + j2, none⟩ = some (.int .u64 (G j2)) := by rw [HS.out.cell (by omega), HG.out]
                          have ca : wr.cell? ⟨blk, off + a, none⟩ = some (.int .u64 (G a)) := by rw [HS.out.cell (by omega), HG.out]
                          cases hl : ltInt (G j2) (G a) with
                          | false =>
                            have HD2 := Lib.hid (show scanDown (fun x => !ltInt x dk[a]!) dk i2 (j2 - 1) = scanDown (fun x => !ltInt x dk[a]!) dk i2 j by rw [← HD.out, scanDown_go (fun x => !ltInt x dk[a]!) dk i2 j2 hij (by omega) (by simp only [HG.out, hl]; rfl)])
                            go_wp2
                            go_quiet (first | (go_at_call 119; refine Calls.quiet_of_same (less_is hl _)))
                            go_wp2
                            go_roundw
                            case rel => exact ⟨j2 - 1, by congr 1; omega, by omega, by omega, Lib.hid (HS.out.drewN nq), HD2⟩
                            case measure => simp [intOf]; omega
                          | true =>
                            have hJ : j2 = scanDown (fun x => !ltInt x dk[a]!) dk i2 j := by rw [← HD.out, scanDown_end (fun x => !ltInt x dk[a]!) dk i2 j2 (.inr (by simp only [HG.out, hl]; rfl))]
                            have HJ := Lib.hid hJ; clear hJ
                            have fi : wr.frozen? ⟨blk, off + j2, none⟩ = false := HS.out.frozen _
                            have fi2 : wr.frozen? ⟨blk, off + i2, none⟩ = false := HS.out.frozen _
                            have ci2 : wr.cell? ⟨blk, off + i2, none⟩ = some (.int .u64 (G i2)) := by rw [HS.out.cell (by omega), HG.out]
                            have in2 : (i2 : Int) < n := by omega
                            have hne : i2 < j2 := part_scans_lt ltInt a i j dk (by omega) HI.out HJ.out hij
                            have ne1 : i2 ≠ j2 := by omega
                            have ne2 : j2 ≠ i2 := by omega
                            have hgt : decide (i2 > j2) = false := decide_eq_false (by omega)
                            go_wp2
                            go_quiet (first | (go_at_call 119; refine Calls.quiet_of_same (less_is hl _)))
                            go_wp2
                            go_region
                            all_goals go_wp2
                            go_roundw
                            case rel =>
                              refine ⟨i2 + 1, j2 - 1, swp dk i2 j2, by go_num, by congr 1; omega, by omega, by omega, by omega, by rw [size_swp]; exact hsk, Lib.hid ?_, Lib.hid ?_⟩
                              · have := HS.out.swap (nq + 1) (i := i2) (j := j2) (by omega) (by omega)
                                rw [HG.out, HG.out] at this
                                exact this
                              · rw [← HL.out, part_go ltInt a i j dk HI.out HJ.out (by omega)]
                            case measure => simp [intOf]; omega
                        · have hd : decide (i2 ≤ j2) = false := decide_eq_false hij
                          have hJ : j2 = scanDown (fun x => !ltInt x dk[a]!) dk i2 j := by rw [← HD.out, scanDown_end (fun x => !ltInt x dk[a]!) dk i2 j2 (.inl hij)]
                          have HJ := Lib.hid hJ; clear hJ
                          have hgt : decide (i2 > j2) = true := decide_eq_true (by omega)
                          go_wp2
                          go_quiet (first | (go_at_call 119; refine Calls.quiet_of_same (less_is rfl _)))
                          go_wp2
                          have hja : a ≤ j2 := by omega
                          have an : (a : Int) < n := by omega
                          have jn : (j2 : Int) < n := by omega
                          have cj : wr.cell? ⟨blk, off + j2, none⟩ = some (.int .u64 (G j2)) := by rw [HS.out.cell (by omega), HG.out]
                          have fj : wr.frozen? ⟨blk, off + j2, none⟩ = false := HS.out.frozen _
                          have ca : wr.cell? ⟨blk, off + a, none⟩ = some (.int .u64 (G a)) := by rw [HS.out.cell (by omega), HG.out]
                          have fa : wr.frozen? ⟨blk, off + a, none⟩ = false := HS.out.frozen _
                          have hsw : SR w (((wr.drewN (nq + 1)).setCell ⟨blk, off + j2, none⟩ (.int .u64 (G a))).setCell ⟨blk, off + a, none⟩ (.int .u64 (G j2))) blk off (swp dk j2 a) := by
                            have := HS.out.swap (nq + 1) (i := j2) (j := a) (by omega) (by omega)
                            rw [HG.out, HG.out] at this
                            exact this
                          have HSw := Lib.hid hsw; clear hsw
                          have HRes := Lib.hid (show res = (j2, false, swp dk j2 a) by rw [HFirst.out, ← HL.out, part_break ltInt a i j dk HI.out HJ.out (by omega)])
                          by_cases hEq : j2 = a
                          · rw [hEq] at HSw HRes ⊢
                            clear cj fj
                            go_region
                            all_goals go_wp2
                            go_ret2
                            exact ⟨by rw [HRes.out]; rfl, by rw [HRes.out]; exact HSw.out⟩
                          · have ne2 : a ≠ j2 := fun e => hEq e.symm
                            go_region
                            all_goals go_wp2
                            go_ret2
                            exact ⟨by rw [HRes.out]; rfl, by rw [HRes.out]; exact HSw.out⟩
                  · have hd : decide (i2 ≤ j) = false := decide_eq_false hij
                    have hI : i2 = scanUp (fun x => ltInt x dk[a]!) dk j i := by rw [← HU.out, scanUp_end (fun x => ltInt x dk[a]!) dk j i2 (.inl hij)]
                    have HI := Lib.hid hI; clear hI
                    go_wp2
                    go_quiet (first | (go_at_call 119; refine Calls.quiet_of_same (less_is rfl _)))
                    go_wp2
                    have HS := Lib.hid (HS.out.drewN nq)
                    generalize wr.drewN nq = wq at *
                    clear hd hij
                    go_loopw [11] (fun vj wr3 => ∃ (j2 : Nat), vj = .int .i64 j2 ∧ i2 ≤ j2 + 1 ∧ j2 ≤ j ∧ Hid (SR w wr3 blk off dk) ∧ Hid (scanDown (fun x => !ltInt x dk[a]!) dk i2 j2 = scanDown (fun x => !ltInt x dk[a]!) dk i2 j)) (fun vj _ => (intOf vj).toNat)
                    case atStart => exact ⟨j, rfl, by omega, Nat.le_refl _, HS, Lib.hid rfl⟩
                    case round =>
                      clear HS
                      obtain ⟨j2, rfl, hj2a, hj2b, HS, HD⟩ := hrel
                      by_cases hij : i2 ≤ j2
                      · have hd : decide (i2 ≤ j2) = true := decide_eq_true hij
                        have an : (a : Int) < n := by omega
                        have jn : (j2 : Int) < n := by omega
                        have ci : wr.cell? ⟨blk, off + j2, none⟩ = some (.int .u64 (G j2)) := by rw [HS.out.cell (by omega), HG.out]
                        have ca : wr.cell? ⟨blk, off + a, none⟩ = some (.int .u64 (G a)) := by rw [HS.out.cell (by omega), HG.out]
                        cases hl : ltInt (G j2) (G a) with
                        | false =>
                          have HD2 := Lib.hid (show scanDown (fun x => !ltInt x dk[a]!) dk i2 (j2 - 1) = scanDown (fun x => !ltInt x dk[a]!) dk i2 j by rw [← HD.out, scanDown_go (fun x => !ltInt x dk[a]!) dk i2 j2 hij (by omega) (by simp only [HG.out, hl]; rfl)])
                          go_wp2
                          go_quiet (first | (go_at_call 119; refine Calls.quiet_of_same (less_is hl _)))
                          go_wp2
                          go_roundw
                          case rel => exact ⟨j2 - 1, by congr 1; omega, by omega, by omega, Lib.hid (HS.out.drewN nq), HD2⟩
                          case measure => simp [intOf]; omega
                        | true =>
                          have hJ : j2 = scanDown (fun x => !ltInt x dk[a]!) dk i2 j := by rw [← HD.out, scanDown_end (fun x => !ltInt x dk[a]!) dk i2 j2 (.inr (by simp only [HG.out, hl]; rfl))]
                          have HJ := Lib.hid hJ; clear hJ
                          have fi : wr.frozen? ⟨blk, off + j2, none⟩ = false := HS.out.frozen _
                          have fi2 : wr.frozen? ⟨blk, off + i2, none⟩ = false := HS.out.frozen _
                          have ci2 : wr.cell? ⟨blk, off + i2, none⟩ = some (.int .u64 (G i2)) := by rw [HS.out.cell (by omega), HG.out]
                          have in2 : (i2 : Int) < n := by omega
                          have hne : i2 < j2 := part_scans_lt ltInt a i j dk (by omega) HI.out HJ.out hij
                          have ne1 : i2 ≠ j2 := by omega
                          have ne2 : j2 ≠ i2 := by omega
                          have hgt : decide (i2 > j2) = false := decide_eq_false (by omega)
                          go_wp2
                          go_quiet (first | (go_at_call 119; refine Calls.quiet_of_same (less_is hl _)))
                          go_wp2
                          go_region
                          all_goals go_wp2
                          go_roundw
                          case rel =>
                            refine ⟨i2 + 1, j2 - 1, swp dk i2 j2, by go_num, by congr 1; omega, by omega, by omega, by omega, by rw [size_swp]; exact hsk, Lib.hid ?_, Lib.hid ?_⟩
                            · have := HS.out.swap (nq + 1) (i := i2) (j := j2) (by omega) (by omega)
                              rw [HG.out, HG.out] at this
                              exact this
                            · rw [← HL.out, part_go ltInt a i j dk HI.out HJ.out (by omega)]
                          case measure => simp [intOf]; omega
                      · have hd : decide (i2 ≤ j2) = false := decide_eq_false hij
                        have hJ : j2 = scanDown (fun x => !ltInt x dk[a]!) dk i2 j := by rw [← HD.out, scanDown_end (fun x => !ltInt x dk[a]!) dk i2 j2 (.inl hij)]
                        have HJ := Lib.hid hJ; clear hJ
                        have hgt : decide (i2 > j2) = true := decide_eq_true (by omega)
                        go_wp2
                        go_quiet (first | (go_at_call 119; refine Calls.quiet_of_same (less_is rfl _)))
                        go_wp2
                        have hja : a ≤ j2 := by omega
                        have an : (a : Int) < n := by omega
                        have jn : (j2 : Int) < n := by omega
                        have cj : wr.cell? ⟨blk, off + j2, none⟩ = some (.int .u64 (G j2)) := by rw [HS.out.cell (by omega), HG.out]
                        have fj : wr.frozen? ⟨blk, off + j2, none⟩ = false := HS.out.frozen _
                        have ca : wr.cell? ⟨blk, off + a, none⟩ = some (.int .u64 (G a)) := by rw [HS.out.cell (by omega), HG.out]
                        have fa : wr.frozen? ⟨blk, off + a, none⟩ = false := HS.out.frozen _
                        have hsw : SR w (((wr.drewN (nq + 1)).setCell ⟨blk, off + j2, none⟩ (.int .u64 (G a))).setCell ⟨blk, off + a, none⟩ (.int .u64 (G j2))) blk off (swp dk j2 a) := by
                          have := HS.out.swap (nq + 1) (i := j2) (j := a) (by omega) (by omega)
                          rw [HG.out, HG.out] at this
                          exact this
                        have HSw := Lib.hid hsw; clear hsw
                        have HRes := Lib.hid (show res = (j2, false, swp dk j2 a) by rw [HFirst.out, ← HL.out, part_break ltInt a i j dk HI.out HJ.out (by omega)])
                        by_cases hEq : j2 = a
                        · rw [hEq] at HSw HRes ⊢
                          clear cj fj
                          go_region
                          all_goals go_wp2
                          go_ret2
                          exact ⟨by rw [HRes.out]; rfl, by rw [HRes.out]; exact HSw.out⟩
                        · have ne2 : a ≠ j2 := fun e => hEq e.symm
                          go_region
                          all_goals go_wp2
                          go_ret2
                          exact ⟨by rw [HRes.out]; rfl, by rw [HRes.out]; exact HSw.out⟩
          · have hd : decide (i2 ≤ j2) = false := decide_eq_false hij
            have hJ : j2 = scanDown (fun x => !ltInt x dk[a]!) dk i2 j := by rw [← HD.out, scanDown_end (fun x => !ltInt x dk[a]!) dk i2 j2 (.inl hij)]
            have HJ := Lib.hid hJ; clear hJ
            have hgt : decide (i2 > j2) = true := decide_eq_true (by omega)
            go_wp2
            go_quiet (first | (go_at_call 119; refine Calls.quiet_of_same (less_is rfl _)))
            go_wp2
            have hja : a ≤ j2 := by omega
            have an : (a : Int) < n := by omega
            have jn : (j2 : Int) < n := by omega
            have cj : wr.cell? ⟨blk, off + j2, none⟩ = some (.int .u64 (G j2)) := by rw [HS.out.cell (by omega), HG.out]
            have fj : wr.frozen? ⟨blk, off + j2, none⟩ = false := HS.out.frozen _
            have ca : wr.cell? ⟨blk, off + a, none⟩ = some (.int .u64 (G a)) := by rw [HS.out.cell (by omega), HG.out]
            have fa : wr.frozen? ⟨blk, off + a, none⟩ = false := HS.out.frozen _
            have hsw : SR w (((wr.drewN (nq + 1)).setCell ⟨blk, off + j2, none⟩ (.int .u64 (G a))).setCell ⟨blk, off + a, none⟩ (.int .u64 (G j2))) blk off (swp dk j2 a) := by
              have := HS.out.swap (nq + 1) (i := j2) (j := a) (by omega) (by omega)
              rw [HG.out, HG.out] at this
              exact this
            have HSw := Lib.hid hsw; clear hsw
            have HRes := Lib.hid (show res = (j2, true, swp dk j2 a) by rw [← HR0.out]; exact part_first_break ltInt d a b pivot Hij.out.1 Hij.out.2 Hdk.out HI.out HJ.out (by omega))
            by_cases hEq : j2 = a
            · rw [hEq] at HSw HRes ⊢
              clear cj fj
              go_region
              all_goals go_wp2
              go_ret2
              exact ⟨by rw [HRes.out]; rfl, by rw [HRes.out]; exact HSw.out⟩
            · have ne2 : a ≠ j2 := fun e => hEq e.symm
              go_region
              all_goals go_wp2
              go_ret2
              exact ⟨by rw [HRes.out]; rfl, by rw [HRes.out]; exact HSw.out⟩
end Go.Proofs.YtbegdgnhpklceaaGreat
