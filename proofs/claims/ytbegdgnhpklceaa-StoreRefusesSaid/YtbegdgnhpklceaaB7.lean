/- slices.Sort at uint64: partitionEqualOrdered. -/
import Derived.Sort.WalkC
import Derived.Test.YtbegdgnhpklceaaB6
namespace Go.Proofs.Ytbegdgnhpklceaa
open Go.RowKit Go.Sort
set_option maxRecDepth 10000
set_option maxHeartbeats 3200000

theorem peq_u {w wr : World} {blk off cap a b pivot n : Nat} {d : Array Int} (h : SR w wr blk off d) (hn : d.size = n) (hap : a ≤ pivot) (hpb : pivot < b) (hb : b ≤ n) (hsz : n < 4611686018427387904) :
    Calls Try.prog 93 #[.slice (some ⟨blk, off, none⟩) n cap, .int .i64 a, .int .i64 b, .int .i64 pivot] wr fun e w' => e = .returned (.int .i64 (partitionEqual ltInt d a b pivot).1) ∧ SR w w' blk off (partitionEqual ltInt d a b pivot).2 := by
  obtain ⟨G, hG⟩ : ∃ G : Nat → Int, ∀ t, d[t]! = G t := ⟨fun t => d[t]!, fun _ => rfl⟩
  have ca : wr.cell? ⟨blk, off + a, none⟩ = some (.int .u64 (G a)) := by rw [h.cell (by omega), hG]
  have fa : wr.frozen? ⟨blk, off + a, none⟩ = false := h.frozen _
  have cp : wr.cell? ⟨blk, off + pivot, none⟩ = some (.int .u64 (G pivot)) := by rw [h.cell (by omega), hG]
  have fp : wr.frozen? ⟨blk, off + pivot, none⟩ = false := h.frozen _
  have an : (a : Int) < n := by omega
  have pn : (pivot : Int) < n := by omega
  have hsw := h.swapD (i := a) (j := pivot) (by omega) (by omega)
  rw [hG, hG] at hsw
  have HS := Lib.hid hsw; clear hsw h hG
  have HL : Hid (partEqLoop ltInt a (a + 1) (b - 1) (swp d a pivot) = partitionEqual ltInt d a b pivot) := Lib.hid rfl
  generalize partitionEqual ltInt d a b pivot = res at *
  go_enter Try.func93, Try.ntmps93
  go_wp2
  by_cases hEq : a = pivot
  · subst hEq
    go_region
    all_goals go_wp2
    have hsz0 : (swp d a a).size = n := by rw [size_swp]; exact hn
    generalize swp d a a = d0 at *
    generalize ((wr.setCell ⟨blk, off + a, none⟩ (.int .u64 (G a))).setCell ⟨blk, off + a, none⟩ (.int .u64 (G a))).drew = w1 at *
    clear ca fa cp fp
    go_loopw [9, 10] (fun vi vj wr => ∃ (i j : Nat) (dk : Array Int), vi = .int .i64 i ∧ vj = .int .i64 j ∧ a + 1 ≤ i ∧ i ≤ j + 1 ∧ j < b ∧ dk.size = n ∧ Hid (SR w wr blk off dk) ∧ Hid (partEqLoop ltInt a i j dk = res)) (fun vi vj _ => (intOf vj + 1 - intOf vi).toNat)
    case atStart => exact ⟨a + 1, b - 1, d0, by go_num, by congr 1; omega, by omega, by omega, by omega, hsz0, HS, HL⟩
    case round =>
      clear HS HL
      obtain ⟨i, j, dk, rfl, rfl, hai, hij1, hjb, hsk, HS, HL⟩ := hrel
      obtain ⟨G, hG⟩ : ∃ G : Nat → Int, ∀ t, dk[t]! = G t := ⟨fun t => dk[t]!, fun _ => rfl⟩
      have HG := Lib.hid hG; clear hG
      go_wp2
      go_loopw [9] (fun vi wr2 => ∃ (i2 : Nat), vi = .int .i64 i2 ∧ i ≤ i2 ∧ i2 ≤ j + 1 ∧ Hid (SR w wr2 blk off dk) ∧ Hid (scanUp (fun x => !ltInt dk[a]! x) dk j i2 = scanUp (fun x => !ltInt dk[a]! x) dk j i)) (fun vi _ => j + 1 - (intOf vi).toNat)
      case atStart => exact ⟨i, rfl, Nat.le_refl _, by omega, HS, Lib.hid rfl⟩
      case round =>
        clear HS
        obtain ⟨i2, rfl, hi2a, hi2b, HS, HU⟩ := hrel
        by_cases hij : i2 ≤ j
        · have hd : decide (i2 ≤ j) = true := decide_eq_true hij
          have an : (a : Int) < n := by omega
          have in2 : (i2 : Int) < n := by omega
          have ci : wr.cell? ⟨blk, off + i2, none⟩ = some (.int .u64 (G i2)) := by rw [HS.out.cell (by omega), HG.out]
          have ca : wr.cell? ⟨blk, off + a, none⟩ = some (.int .u64 (G a)) := by rw [HS.out.cell (by omega), HG.out]
          cases hl : ltInt (G a) (G i2) with
          | false =>
            have HU2 := Lib.hid (show scanUp (fun x => !ltInt dk[a]! x) dk j (i2 + 1) = scanUp (fun x => !ltInt dk[a]! x) dk j i by rw [← HU.out, scanUp_go (fun x => !ltInt dk[a]! x) dk j i2 hij (by simp only [HG.out, hl]; rfl)])
            go_wp2
            go_quiet (first | (go_at_call 92; refine Calls.quiet_of_same (less_is hl _)))
            go_wp2
            go_roundw
            case rel => exact ⟨i2 + 1, by go_num, by omega, by omega, Lib.hid (HS.out.drewN nq), HU2⟩
            case measure => simp [intOf]; omega
          | true =>
            have hI : i2 = scanUp (fun x => !ltInt dk[a]! x) dk j i := by rw [← HU.out, scanUp_end (fun x => !ltInt dk[a]! x) dk j i2 (.inr (by simp only [HG.out, hl]; rfl))]
            have HI := Lib.hid hI; clear hI
            go_wp2
            go_quiet (first | (go_at_call 92; refine Calls.quiet_of_same (less_is hl _)))
            go_wp2
            have HS := Lib.hid (HS.out.drewN nq)
            generalize wr.drewN nq = wq at *
            clear hl ci ca hd
            go_loopw [10] (fun vj wr3 => ∃ (j2 : Nat), vj = .int .i64 j2 ∧ i2 ≤ j2 + 1 ∧ j2 ≤ j ∧ Hid (SR w wr3 blk off dk) ∧ Hid (scanDown (fun x => ltInt dk[a]! x) dk i2 j2 = scanDown (fun x => ltInt dk[a]! x) dk i2 j)) (fun vj _ => (intOf vj).toNat)
            case atStart => exact ⟨j, rfl, by omega, Nat.le_refl _, HS, Lib.hid rfl⟩
            case round =>
              clear HS
              obtain ⟨j2, rfl, hj2a, hj2b, HS, HD⟩ := hrel
              by_cases hij : i2 ≤ j2
              · have hd : decide (i2 ≤ j2) = true := decide_eq_true hij
                have an : (a : Int) < n := by omega
                have jn : (j2 : Int) < n := by omega
                have ci : wr.cell? ⟨blk, off + j2, none⟩ = some (.int .u64 (G j2)) := by rw [HS.out.cell (by omega), HG.out]
                have ca : wr.cell? ⟨blk, off + a, none⟩ = some (.int .u64 (G a)) := by rw [HS.out.cell (by omega), HG.out]
                cases hl : ltInt (G a) (G j2) with
                | true =>
                  have HD2 := Lib.hid (show scanDown (fun x => ltInt dk[a]! x) dk i2 (j2 - 1) = scanDown (fun x => ltInt dk[a]! x) dk i2 j by rw [← HD.out, scanDown_go (fun x => ltInt dk[a]! x) dk i2 j2 hij (by omega) (by simp only [HG.out, hl])])
                  go_wp2
                  go_quiet (first | (go_at_call 92; refine Calls.quiet_of_same (less_is hl _)))
                  go_wp2
                  go_roundw
                  case rel => exact ⟨j2 - 1, by congr 1; omega, by omega, by omega, Lib.hid (HS.out.drewN nq), HD2⟩
                  case measure => simp [intOf]; omega
                | false =>
                  have hJ : j2 = scanDown (fun x => ltInt dk[a]! x) dk i2 j := by rw [← HD.out, scanDown_end (fun x => ltInt dk[a]! x) dk i2 j2 (.inr (by simp only [HG.out, hl]))]
                  have HJ := Lib.hid hJ; clear hJ
                  have fi : wr.frozen? ⟨blk, off + j2, none⟩ = false := HS.out.frozen _
                  have fi2 : wr.frozen? ⟨blk, off + i2, none⟩ = false := HS.out.frozen _
                  have ci2 : wr.cell? ⟨blk, off + i2, none⟩ = some (.int .u64 (G i2)) := by rw [HS.out.cell (by omega), HG.out]
                  have in2 : (i2 : Int) < n := by omega
                  have hne : i2 < j2 := scans_lt ltInt a i j dk (by omega) HI.out HJ.out hij
                  have ne1 : i2 ≠ j2 := by omega
                  have ne2 : j2 ≠ i2 := by omega
                  have hgt : decide (i2 > j2) = false := decide_eq_false (by omega)
                  go_wp2
                  go_quiet (first | (go_at_call 92; refine Calls.quiet_of_same (less_is hl _)))
                  go_wp2
                  go_region
                  all_goals go_wp2
                  go_roundw
                  case rel =>
                    refine ⟨i2 + 1, j2 - 1, swp dk i2 j2, by go_num, by congr 1; omega, by omega, by omega, by omega, by rw [size_swp]; exact hsk, Lib.hid ?_, Lib.hid ?_⟩
                    · have := HS.out.swap (nq + 1) (i := i2) (j := j2) (by omega) (by omega)
                      rw [HG.out, HG.out] at this
                      exact this
                    · rw [← HL.out, partEq_go ltInt a i j dk HI.out HJ.out (by omega)]
                  case measure => simp [intOf]; omega
              · have hd : decide (i2 ≤ j2) = false := decide_eq_false hij
                have hJ : j2 = scanDown (fun x => ltInt dk[a]! x) dk i2 j := by rw [← HD.out, scanDown_end (fun x => ltInt dk[a]! x) dk i2 j2 (.inl hij)]
                have HJ := Lib.hid hJ; clear hJ
                have hgt : decide (i2 > j2) = true := decide_eq_true (by omega)
                go_wp2
                go_quiet (first | (go_at_call 92; refine Calls.quiet_of_same (less_is rfl _)))
                go_wp2
                go_ret
                exact ⟨by rw [← HL.out, partEq_break ltInt a i j dk HI.out HJ.out (by omega)]; rfl, by rw [← HL.out, partEq_break ltInt a i j dk HI.out HJ.out (by omega)]; exact HS.out.drewN nq⟩
        · have hd : decide (i2 ≤ j) = false := decide_eq_false hij
          have hI : i2 = scanUp (fun x => !ltInt dk[a]! x) dk j i := by rw [← HU.out, scanUp_end (fun x => !ltInt dk[a]! x) dk j i2 (.inl hij)]
          have HI := Lib.hid hI; clear hI
          go_wp2
          go_quiet (first | (go_at_call 92; refine Calls.quiet_of_same (less_is rfl _)))
          go_wp2
          have HS := Lib.hid (HS.out.drewN nq)
          generalize wr.drewN nq = wq at *
          clear hd hij
          go_loopw [10] (fun vj wr3 => ∃ (j2 : Nat), vj = .int .i64 j2 ∧ i2 ≤ j2 + 1 ∧ j2 ≤ j ∧ Hid (SR w wr3 blk off dk) ∧ Hid (scanDown (fun x => ltInt dk[a]! x) dk i2 j2 = scanDown (fun x => ltInt dk[a]! x) dk i2 j)) (fun vj _ => (intOf vj).toNat)
          case atStart => exact ⟨j, rfl, by omega, Nat.le_refl _, HS, Lib.hid rfl⟩
          case round =>
            clear HS
            obtain ⟨j2, rfl, hj2a, hj2b, HS, HD⟩ := hrel
            by_cases hij : i2 ≤ j2
            · have hd : decide (i2 ≤ j2) = true := decide_eq_true hij
              have an : (a : Int) < n := by omega
              have jn : (j2 : Int) < n := by omega
              have ci : wr.cell? ⟨blk, off + j2, none⟩ = some (.int .u64 (G j2)) := by rw [HS.out.cell (by omega), HG.out]
              have ca : wr.cell? ⟨blk, off + a, none⟩ = some (.int .u64 (G a)) := by rw [HS.out.cell (by omega), HG.out]
              cases hl : ltInt (G a) (G j2) with
              | true =>
                have HD2 := Lib.hid (show scanDown (fun x => ltInt dk[a]! x) dk i2 (j2 - 1) = scanDown (fun x => ltInt dk[a]! x) dk i2 j by rw [← HD.out, scanDown_go (fun x => ltInt dk[a]! x) dk i2 j2 hij (by omega) (by simp only [HG.out, hl])])
                go_wp2
                go_quiet (first | (go_at_call 92; refine Calls.quiet_of_same (less_is hl _)))
                go_wp2
                go_roundw
                case rel => exact ⟨j2 - 1, by congr 1; omega, by omega, by omega, Lib.hid (HS.out.drewN nq), HD2⟩
                case measure => simp [intOf]; omega
              | false =>
                have hJ : j2 = scanDown (fun x => ltInt dk[a]! x) dk i2 j := by rw [← HD.out, scanDown_end (fun x => ltInt dk[a]! x) dk i2 j2 (.inr (by simp only [HG.out, hl]))]
                have HJ := Lib.hid hJ; clear hJ
                have fi : wr.frozen? ⟨blk, off + j2, none⟩ = false := HS.out.frozen _
                have fi2 : wr.frozen? ⟨blk, off + i2, none⟩ = false := HS.out.frozen _
                have ci2 : wr.cell? ⟨blk, off + i2, none⟩ = some (.int .u64 (G i2)) := by rw [HS.out.cell (by omega), HG.out]
                have in2 : (i2 : Int) < n := by omega
                have hne : i2 < j2 := scans_lt ltInt a i j dk (by omega) HI.out HJ.out hij
                have ne1 : i2 ≠ j2 := by omega
                have ne2 : j2 ≠ i2 := by omega
                have hgt : decide (i2 > j2) = false := decide_eq_false (by omega)
                go_wp2
                go_quiet (first | (go_at_call 92; refine Calls.quiet_of_same (less_is hl _)))
                go_wp2
                go_region
                all_goals go_wp2
                go_roundw
                case rel =>
                  refine ⟨i2 + 1, j2 - 1, swp dk i2 j2, by go_num, by congr 1; omega, by omega, by omega, by omega, by rw [size_swp]; exact hsk, Lib.hid ?_, Lib.hid ?_⟩
                  · have := HS.out.swap (nq + 1) (i := i2) (j := j2) (by omega) (by omega)
                    rw [HG.out, HG.out] at this
                    exact this
                  · rw [← HL.out, partEq_go ltInt a i j dk HI.out HJ.out (by omega)]
                case measure => simp [intOf]; omega
            · have hd : decide (i2 ≤ j2) = false := decide_eq_false hij
              have hJ : j2 = scanDown (fun x => ltInt dk[a]! x) dk i2 j := by rw [← HD.out, scanDown_end (fun x => ltInt dk[a]! x) dk i2 j2 (.inl hij)]
              have HJ := Lib.hid hJ; clear hJ
              have hgt : decide (i2 > j2) = true := decide_eq_true (by omega)
              go_wp2
              go_quiet (first | (go_at_call 92; refine Calls.quiet_of_same (less_is rfl _)))
              go_wp2
              go_ret
              exact ⟨by rw [← HL.out, partEq_break ltInt a i j dk HI.out HJ.out (by omega)]; rfl, by rw [← HL.out, partEq_break ltInt a i j dk HI.out HJ.out (by omega)]; exact HS.out.drewN nq⟩
  · have ne1 : pivot ≠ a := fun e => hEq e.symm
    go_region
    all_goals go_wp2
    have hsz0 : (swp d a pivot).size = n := by rw [size_swp]; exact hn
    generalize swp d a pivot = d0 at *
    generalize ((wr.setCell ⟨blk, off + a, none⟩ (.int .u64 (G pivot))).setCell ⟨blk, off + pivot, none⟩ (.int .u64 (G a))).drew = w1 at *
    clear ca fa cp fp
    go_loopw [9, 10] (fun vi vj wr => ∃ (i j : Nat) (dk : Array Int), vi = .int .i64 i ∧ vj = .int .i64 j ∧ a + 1 ≤ i ∧ i ≤ j + 1 ∧ j < b ∧ dk.size = n ∧ Hid (SR w wr blk off dk) ∧ Hid (partEqLoop ltInt a i j dk = res)) (fun vi vj _ => (intOf vj + 1 - intOf vi).toNat)
    case atStart => exact ⟨a + 1, b - 1, d0, by go_num, by congr 1; omega, by omega, by omega, by omega, hsz0, HS, HL⟩
    case round =>
      clear HS HL
      obtain ⟨i, j, dk, rfl, rfl, hai, hij1, hjb, hsk, HS, HL⟩ := hrel
      obtain ⟨G, hG⟩ : ∃ G : Nat → Int, ∀ t, dk[t]! = G t := ⟨fun t => dk[t]!, fun _ => rfl⟩
      have HG := Lib.hid hG; clear hG
      go_wp2
      go_loopw [9] (fun vi wr2 => ∃ (i2 : Nat), vi = .int .i64 i2 ∧ i ≤ i2 ∧ i2 ≤ j + 1 ∧ Hid (SR w wr2 blk off dk) ∧ Hid (scanUp (fun x => !ltInt dk[a]! x) dk j i2 = scanUp (fun x => !ltInt dk[a]! x) dk j i)) (fun vi _ => j + 1 - (intOf vi).toNat)
      case atStart => exact ⟨i, rfl, Nat.le_refl _, by omega, HS, Lib.hid rfl⟩
      case round =>
        clear HS
        obtain ⟨i2, rfl, hi2a, hi2b, HS, HU⟩ := hrel
        by_cases hij : i2 ≤ j
        · have hd : decide (i2 ≤ j) = true := decide_eq_true hij
          have an : (a : Int) < n := by omega
          have in2 : (i2 : Int) < n := by omega
          have ci : wr.cell? ⟨blk, off + i2, none⟩ = some (.int .u64 (G i2)) := by rw [HS.out.cell (by omega), HG.out]
          have ca : wr.cell? ⟨blk, off + a, none⟩ = some (.int .u64 (G a)) := by rw [HS.out.cell (by omega), HG.out]
          cases hl : ltInt (G a) (G i2) with
          | false =>
            have HU2 := Lib.hid (show scanUp (fun x => !ltInt dk[a]! x) dk j (i2 + 1) = scanUp (fun x => !ltInt dk[a]! x) dk j i by rw [← HU.out, scanUp_go (fun x => !ltInt dk[a]! x) dk j i2 hij (by simp only [HG.out, hl]; rfl)])
            go_wp2
            go_quiet (first | (go_at_call 92; refine Calls.quiet_of_same (less_is hl _)))
            go_wp2
            go_roundw
            case rel => exact ⟨i2 + 1, by go_num, by omega, by omega, Lib.hid (HS.out.drewN nq), HU2⟩
            case measure => simp [intOf]; omega
          | true =>
            have hI : i2 = scanUp (fun x => !ltInt dk[a]! x) dk j i := by rw [← HU.out, scanUp_end (fun x => !ltInt dk[a]! x) dk j i2 (.inr (by simp only [HG.out, hl]; rfl))]
            have HI := Lib.hid hI; clear hI
            go_wp2
            go_quiet (first | (go_at_call 92; refine Calls.quiet_of_same (less_is hl _)))
            go_wp2
            have HS := Lib.hid (HS.out.drewN nq)
            generalize wr.drewN nq = wq at *
            clear hl ci ca hd
            go_loopw [10] (fun vj wr3 => ∃ (j2 : Nat), vj = .int .i64 j2 ∧ i2 ≤ j2 + 1 ∧ j2 ≤ j ∧ Hid (SR w wr3 blk off dk) ∧ Hid (scanDown (fun x => ltInt dk[a]! x) dk i2 j2 = scanDown (fun x => ltInt dk[a]! x) dk i2 j)) (fun vj _ => (intOf vj).toNat)
            case atStart => exact ⟨j, rfl, by omega, Nat.le_refl _, HS, Lib.hid rfl⟩
            case round =>
              clear HS
              obtain ⟨j2, rfl, hj2a, hj2b, HS, HD⟩ := hrel
              by_cases hij : i2 ≤ j2
              · have hd : decide (i2 ≤ j2) = true := decide_eq_true hij
                have an : (a : Int) < n := by omega
                have jn : (j2 : Int) < n := by omega
                have ci : wr.cell? ⟨blk, off + j2, none⟩ = some (.int .u64 (G j2)) := by rw [HS.out.cell (by omega), HG.out]
                have ca : wr.cell? ⟨blk, off + a, none⟩ = some (.int .u64 (G a)) := by rw [HS.out.cell (by omega), HG.out]
                cases hl : ltInt (G a) (G j2) with
                | true =>
                  have HD2 := Lib.hid (show scanDown (fun x => ltInt dk[a]! x) dk i2 (j2 - 1) = scanDown (fun x => ltInt dk[a]! x) dk i2 j by rw [← HD.out, scanDown_go (fun x => ltInt dk[a]! x) dk i2 j2 hij (by omega) (by simp only [HG.out, hl])])
                  go_wp2
                  go_quiet (first | (go_at_call 92; refine Calls.quiet_of_same (less_is hl _)))
                  go_wp2
                  go_roundw
                  case rel => exact ⟨j2 - 1, by congr 1; omega, by omega, by omega, Lib.hid (HS.out.drewN nq), HD2⟩
                  case measure => simp [intOf]; omega
                | false =>
                  have hJ : j2 = scanDown (fun x => ltInt dk[a]! x) dk i2 j := by rw [← HD.out, scanDown_end (fun x => ltInt dk[a]! x) dk i2 j2 (.inr (by simp only [HG.out, hl]))]
                  have HJ := Lib.hid hJ; clear hJ
                  have fi : wr.frozen? ⟨blk, off + j2, none⟩ = false := HS.out.frozen _
                  have fi2 : wr.frozen? ⟨blk, off + i2, none⟩ = false := HS.out.frozen _
                  have ci2 : wr.cell? ⟨blk, off + i2, none⟩ = some (.int .u64 (G i2)) := by rw [HS.out.cell (by omega), HG.out]
                  have in2 : (i2 : Int) < n := by omega
                  have hne : i2 < j2 := scans_lt ltInt a i j dk (by omega) HI.out HJ.out hij
                  have ne1 : i2 ≠ j2 := by omega
                  have ne2 : j2 ≠ i2 := by omega
                  have hgt : decide (i2 > j2) = false := decide_eq_false (by omega)
                  go_wp2
                  go_quiet (first | (go_at_call 92; refine Calls.quiet_of_same (less_is hl _)))
                  go_wp2
                  go_region
                  all_goals go_wp2
                  go_roundw
                  case rel =>
                    refine ⟨i2 + 1, j2 - 1, swp dk i2 j2, by go_num, by congr 1; omega, by omega, by omega, by omega, by rw [size_swp]; exact hsk, Lib.hid ?_, Lib.hid ?_⟩
                    · have := HS.out.swap (nq + 1) (i := i2) (j := j2) (by omega) (by omega)
                      rw [HG.out, HG.out] at this
                      exact this
                    · rw [← HL.out, partEq_go ltInt a i j dk HI.out HJ.out (by omega)]
                  case measure => simp [intOf]; omega
              · have hd : decide (i2 ≤ j2) = false := decide_eq_false hij
                have hJ : j2 = scanDown (fun x => ltInt dk[a]! x) dk i2 j := by rw [← HD.out, scanDown_end (fun x => ltInt dk[a]! x) dk i2 j2 (.inl hij)]
                have HJ := Lib.hid hJ; clear hJ
                have hgt : decide (i2 > j2) = true := decide_eq_true (by omega)
                go_wp2
                go_quiet (first | (go_at_call 92; refine Calls.quiet_of_same (less_is rfl _)))
                go_wp2
                go_ret
                exact ⟨by rw [← HL.out, partEq_break ltInt a i j dk HI.out HJ.out (by omega)]; rfl, by rw [← HL.out, partEq_break ltInt a i j dk HI.out HJ.out (by omega)]; exact HS.out.drewN nq⟩
        · have hd : decide (i2 ≤ j) = false := decide_eq_false hij
          have hI : i2 = scanUp (fun x => !ltInt dk[a]! x) dk j i := by rw [← HU.out, scanUp_end (fun x => !ltInt dk[a]! x) dk j i2 (.inl hij)]
          have HI := Lib.hid hI; clear hI
          go_wp2
          go_quiet (first | (go_at_call 92; refine Calls.quiet_of_same (less_is rfl _)))
          go_wp2
          have HS := Lib.hid (HS.out.drewN nq)
          generalize wr.drewN nq = wq at *
          clear hd hij
          go_loopw [10] (fun vj wr3 => ∃ (j2 : Nat), vj = .int .i64 j2 ∧ i2 ≤ j2 + 1 ∧ j2 ≤ j ∧ Hid (SR w wr3 blk off dk) ∧ Hid (scanDown (fun x => ltInt dk[a]! x) dk i2 j2 = scanDown (fun x => ltInt dk[a]! x) dk i2 j)) (fun vj _ => (intOf vj).toNat)
          case atStart => exact ⟨j, rfl, by omega, Nat.le_refl _, HS, Lib.hid rfl⟩
          case round =>
            clear HS
            obtain ⟨j2, rfl, hj2a, hj2b, HS, HD⟩ := hrel
            by_cases hij : i2 ≤ j2
            · have hd : decide (i2 ≤ j2) = true := decide_eq_true hij
              have an : (a : Int) < n := by omega
              have jn : (j2 : Int) < n := by omega
              have ci : wr.cell? ⟨blk, off + j2, none⟩ = some (.int .u64 (G j2)) := by rw [HS.out.cell (by omega), HG.out]
              have ca : wr.cell? ⟨blk, off + a, none⟩ = some (.int .u64 (G a)) := by rw [HS.out.cell (by omega), HG.out]
              cases hl : ltInt (G a) (G j2) with
              | true =>
                have HD2 := Lib.hid (show scanDown (fun x => ltInt dk[a]! x) dk i2 (j2 - 1) = scanDown (fun x => ltInt dk[a]! x) dk i2 j by rw [← HD.out, scanDown_go (fun x => ltInt dk[a]! x) dk i2 j2 hij (by omega) (by simp only [HG.out, hl])])
                go_wp2
                go_quiet (first | (go_at_call 92; refine Calls.quiet_of_same (less_is hl _)))
                go_wp2
                go_roundw
                case rel => exact ⟨j2 - 1, by congr 1; omega, by omega, by omega, Lib.hid (HS.out.drewN nq), HD2⟩
                case measure => simp [intOf]; omega
              | false =>
                have hJ : j2 = scanDown (fun x => ltInt dk[a]! x) dk i2 j := by rw [← HD.out, scanDown_end (fun x => ltInt dk[a]! x) dk i2 j2 (.inr (by simp only [HG.out, hl]))]
                have HJ := Lib.hid hJ; clear hJ
                have fi : wr.frozen? ⟨blk, off + j2, none⟩ = false := HS.out.frozen _
                have fi2 : wr.frozen? ⟨blk, off + i2, none⟩ = false := HS.out.frozen _
                have ci2 : wr.cell? ⟨blk, off + i2, none⟩ = some (.int .u64 (G i2)) := by rw [HS.out.cell (by omega), HG.out]
                have in2 : (i2 : Int) < n := by omega
                have hne : i2 < j2 := scans_lt ltInt a i j dk (by omega) HI.out HJ.out hij
                have ne1 : i2 ≠ j2 := by omega
                have ne2 : j2 ≠ i2 := by omega
                have hgt : decide (i2 > j2) = false := decide_eq_false (by omega)
                go_wp2
                go_quiet (first | (go_at_call 92; refine Calls.quiet_of_same (less_is hl _)))
                go_wp2
                go_region
                all_goals go_wp2
                go_roundw
                case rel =>
                  refine ⟨i2 + 1, j2 - 1, swp dk i2 j2, by go_num, by congr 1; omega, by omega, by omega, by omega, by rw [size_swp]; exact hsk, Lib.hid ?_, Lib.hid ?_⟩
                  · have := HS.out.swap (nq + 1) (i := i2) (j := j2) (by omega) (by omega)
                    rw [HG.out, HG.out] at this
                    exact this
                  · rw [← HL.out, partEq_go ltInt a i j dk HI.out HJ.out (by omega)]
                case measure => simp [intOf]; omega
            · have hd : decide (i2 ≤ j2) = false := decide_eq_false hij
              have hJ : j2 = scanDown (fun x => ltInt dk[a]! x) dk i2 j := by rw [← HD.out, scanDown_end (fun x => ltInt dk[a]! x) dk i2 j2 (.inl hij)]
              have HJ := Lib.hid hJ; clear hJ
              have hgt : decide (i2 > j2) = true := decide_eq_true (by omega)
              go_wp2
              go_quiet (first | (go_at_call 92; refine Calls.quiet_of_same (less_is rfl _)))
              go_wp2
              go_ret
              exact ⟨by rw [← HL.out, partEq_break ltInt a i j dk HI.out HJ.out (by omega)]; rfl, by rw [← HL.out, partEq_break ltInt a i j dk HI.out HJ.out (by omega)]; exact HS.out.drewN nq⟩
end Go.Proofs.Ytbegdgnhpklceaa
