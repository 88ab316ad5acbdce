/- A region that draws its order, of whose operations ONE changes the world (a call, a store, an append): one walk in the order of the text serves every order. -/
import Derived.Sort.WalkC4
import Derived.Test.YtgmnemndjjmgkaaGreatB3
import Derived.Sort.WalkA6
import Derived.Sort.Walk13
import Derived.Sort.AssemblyPlain
import Derived.Deep.Cut
import Derived.Test.YtgmnemndjjmgkaaGreatB2
import Derived.Deep.RegionHeld3
import Derived.Shelf.SlGeneric
import Derived.Ground.SlgnProg
import Derived.Shelf.SlicesE.Clone
import Derived.Test.YtgmnemndjjmgkaaGreatB1
import Derived.Deep.Quiet
set_option linter.unusedSimpArgs false
set_option linter.unusedVariables false
/- slices.Sort at uint64: partitionOrdered. -/
namespace Go.Proofs.YtgmnemndjjmgkaaGreat
open Go.RowKit Go.Sort
set_option maxRecDepth 10000
set_option maxHeartbeats 12800000
theorem part_u {w wr : World} {blk off cap a b pivot n : Nat} {d : Array Int} (h : SR w wr blk off d) (hn : d.size = n) (hap : a ≤ pivot) (hpb : pivot < b) (hb : b ≤ n) (hsz : n < 4611686018427387904) :
    Calls Tryz.prog 221 #[.slice (some ⟨blk, off, none⟩) n cap, .int .i64 a, .int .i64 b, .int .i64 pivot] wr fun e w' =>
      e = .returned (.tuple #[.int .i64 (partition ltInt d a b pivot).1, .bool (partition ltInt d a b pivot).2.1]) ∧ SR w w' blk off (partition ltInt d a b pivot).2.2 := by
 obtain ⟨G, hG⟩ : ∃ G : Nat → Int, ∀ t, d[t]! = G t := ⟨fun t => d[t]!, fun _ => rfl⟩
 have ca : wr.cell? ⟨blk, off + a, none⟩ = some (.int .u64 (G a)) := by rw [h.cell (by omega), hG]
 have fa : wr.frozen? ⟨blk, off + a, none⟩ = false := h.frozen _
 have cp : wr.cell? ⟨blk, off + pivot, none⟩ = some (.int .u64 (G pivot)) := by rw [h.cell (by omega), hG]
 have fp : wr.frozen? ⟨blk, off + pivot, none⟩ = false := h.frozen _
 have an : (a : Int) < n := by omega
 have pn : (pivot : Int) < n := by omega
 have hsw := h.swapD (i := a) (j := pivot) (by omega) (by omega)
 rw [hG, hG] at hsw
 have HS := Lib.hid hsw; clear hsw h hG
 obtain ⟨i, hi⟩ : ∃ i : Nat, i = a + 1 := ⟨_, rfl⟩
 obtain ⟨j, hj⟩ : ∃ j : Nat, j = b - 1 := ⟨_, rfl⟩
 have hii : (a : Int) + 1 = (i : Int) := by omega
 have hji : (b : Int) - 1 = (j : Int) := by omega
 have hai : a + 1 ≤ i := by omega
 have hij1 : i ≤ j + 1 := by omega
 have hjb : j < b := by omega
 have Hij := Lib.hid (And.intro hi hj); clear hi hj
 obtain ⟨res, hres⟩ : ∃ res, partition ltInt d a b pivot = res := ⟨_, rfl⟩
 rw [hres]
 have HR0 := Lib.hid hres; clear hres
 go_enter Tryz.func221, Tryz.ntmps221
 go_wp2
 by_cases hEq : a = pivot
 case' pos =>
  have HEq := Lib.hid hEq
  rw [← hEq] at HS cp fp ⊢
  clear hEq
  go_region
  all_goals go_wp2
  obtain ⟨dk, hdk⟩ : ∃ dk, dk = swp d a pivot := ⟨_, rfl⟩
  have hsk : dk.size = n := by rw [hdk, size_swp]; exact hn
  have Hdk := Lib.hid hdk
  rw [← HEq.out] at hdk
  rw [← hdk] at HS
  clear hdk
  generalize ((wr.setCell ⟨blk, off + a, none⟩ (.int .u64 (G a))).setCell ⟨blk, off + a, none⟩ (.int .u64 (G a))).drew = w1 at *
 case' neg =>
  have ne1 : pivot ≠ a := fun e => hEq e.symm
  go_region
  all_goals go_wp2
  obtain ⟨dk, hdk⟩ : ∃ dk, dk = swp d a pivot := ⟨_, rfl⟩
  have hsk : dk.size = n := by rw [hdk, size_swp]; exact hn
  have Hdk := Lib.hid hdk
  rw [← hdk] at HS
  clear hdk
  generalize ((wr.setCell ⟨blk, off + a, none⟩ (.int .u64 (G pivot))).setCell ⟨blk, off + pivot, none⟩ (.int .u64 (G a))).drew = w1 at *
 all_goals
  clear ca fa cp fp
  obtain ⟨G, hG⟩ : ∃ G : Nat → Int, ∀ t, dk[t]! = G t := ⟨fun t => dk[t]!, fun _ => rfl⟩
  have HG := Lib.hid hG; clear hG
  go_loopw [10] (fun vi wr2 => ∃ (i2 : Nat), vi = .int .i64 i2 ∧ i ≤ i2 ∧ i2 ≤ j + 1 ∧ Hid (SR w wr2 blk off dk) ∧ Hid (scanUp (fun x => ltInt x dk[a]!) dk j i2 = scanUp (fun x => ltInt x dk[a]!) dk j i)) (fun vi _ => j + 1 - (intOf vi).toNat)
  case atStart => exact ⟨i, rfl, Nat.le_refl _, by omega, HS, Lib.hid rfl⟩
  case round =>
   clear HS
   obtain ⟨i2, rfl, hi2a, hi2b, HS, HU⟩ := hrel
   by_cases hij : i2 ≤ j
   case' pos =>
    have hd : decide (i2 ≤ j) = true := decide_eq_true hij
    have an : (a : Int) < n := by omega
    have in2 : (i2 : Int) < n := by omega
    have ci : wr.cell? ⟨blk, off + i2, none⟩ = some (.int .u64 (G i2)) := by rw [HS.out.cell (by omega), HG.out]
    have ca : wr.cell? ⟨blk, off + a, none⟩ = some (.int .u64 (G a)) := by rw [HS.out.cell (by omega), HG.out]
    cases hl : ltInt (G i2) (G a)
    case true =>
     have HU2 := Lib.hid (show scanUp (fun x => ltInt x dk[a]!) dk j (i2 + 1) = scanUp (fun x => ltInt x dk[a]!) dk j i by rw [← HU.out, scanUp_go (fun x => ltInt x dk[a]!) dk j i2 hij (by simp only [HG.out, hl])])
     go_wp2
     go_quiet (first | (go_at_call 219; refine Calls.quiet_of_same (less_is hl _)))
     go_wp2
     go_roundw
     case rel => exact ⟨i2 + 1, by go_num, by omega, by omega, Lib.hid (HS.out.drewN nq), HU2⟩
     case measure => simp [intOf]; omega
    have hI : i2 = scanUp (fun x => ltInt x dk[a]!) dk j i := by rw [← HU.out, scanUp_end (fun x => ltInt x dk[a]!) dk j i2 (.inr (by simp only [HG.out, hl]))]
    have HI := Lib.hid hI; clear hI
    go_wp2
    go_quiet (first | (go_at_call 219; refine Calls.quiet_of_same (less_is hl _)))
    go_wp2
    have HS := Lib.hid (HS.out.drewN nq)
    generalize wr.drewN nq = wq at *
    clear hl ci ca hd
   case' neg =>
    have hd : decide (i2 ≤ j) = false := decide_eq_false hij
    have hI : i2 = scanUp (fun x => ltInt x dk[a]!) dk j i := by rw [← HU.out, scanUp_end (fun x => ltInt x dk[a]!) dk j i2 (.inl hij)]
    have HI := Lib.hid hI; clear hI
    go_wp2
    go_quiet (first | (go_at_call 219; refine Calls.quiet_of_same (less_is rfl _)))
    go_wp2
    have HS := Lib.hid (HS.out.drewN nq)
    generalize wr.drewN nq = wq at *
    clear hd hij
   all_goals
    go_loopw [11] (fun vj wr3 => ∃ (j2 : Nat), vj = .int .i64 j2 ∧ i2 ≤ j2 + 1 ∧ j2 ≤ j ∧ Hid (SR w wr3 blk off dk) ∧ Hid (scanDown (fun x => !ltInt x dk[a]!) dk i2 j2 = scanDown (fun x => !ltInt x dk[a]!) dk i2 j)) (fun vj _ => (intOf vj).toNat)
    case atStart => exact ⟨j, rfl, by omega, Nat.le_refl _, HS, Lib.hid rfl⟩
    case round =>
     clear HS
     obtain ⟨j2, rfl, hj2a, hj2b, HS, HD⟩ := hrel
     by_cases hij : i2 ≤ j2
     {
     have hd : decide (i2 ≤ j2) = true := decide_eq_true hij
     have an : (a : Int) < n := by omega
     have jn : (j2 : Int) < n := by omega
     have ci : wr.cell? ⟨blk, off + j2, none⟩ = some (.int .u64 (G j2)) := by rw [HS.out.cell (by omega), HG.out]
     have ca : wr.cell? ⟨blk, off + a, none⟩ = some (.int .u64 (G a)) := by rw [HS.out.cell (by omega), HG.out]
     cases hl : ltInt (G j2) (G a) with
     | false => {
     have HD2 := Lib.hid (show scanDown (fun x => !ltInt x dk[a]!) dk i2 (j2 - 1) = scanDown (fun x => !ltInt x dk[a]!) dk i2 j by rw [← HD.out, scanDown_go (fun x => !ltInt x dk[a]!) dk i2 j2 hij (by omega) (by simp only [HG.out, hl]; rfl)])
     go_wp2
     go_quiet (first | (go_at_call 219; refine Calls.quiet_of_same (less_is hl _)))
     go_wp2
     go_roundw
     case rel => exact ⟨j2 - 1, by congr 1; omega, by omega, by omega, Lib.hid (HS.out.drewN nq), HD2⟩
     case measure => simp [intOf]; omega
     }
     | true => {
     have hJ : j2 = scanDown (fun x => !ltInt x dk[a]!) dk i2 j := by rw [← HD.out, scanDown_end (fun x => !ltInt x dk[a]!) dk i2 j2 (.inr (by simp only [HG.out, hl]; rfl))]
     have HJ := Lib.hid hJ; clear hJ
     have fi : wr.frozen? ⟨blk, off + j2, none⟩ = false := HS.out.frozen _
     have fi2 : wr.frozen? ⟨blk, off + i2, none⟩ = false := HS.out.frozen _
     have ci2 : wr.cell? ⟨blk, off + i2, none⟩ = some (.int .u64 (G i2)) := by rw [HS.out.cell (by omega), HG.out]
     have in2 : (i2 : Int) < n := by omega
     have hne : i2 < j2 := part_scans_lt ltInt a i j dk (by omega) HI.out HJ.out hij
     have ne1 : i2 ≠ j2 := by omega
     have ne2 : j2 ≠ i2 := by omega
     have hgt : decide (i2 > j2) = false := decide_eq_false (by omega)
     go_wp2
     go_quiet (first | (go_at_call 219; refine Calls.quiet_of_same (less_is hl _)))
     go_wp2
     go_region
     all_goals go_wp2
     have hfirst := part_first_go ltInt d a b pivot Hij.out.1 Hij.out.2 Hdk.out HI.out HJ.out (show ¬ i2 > j2 by omega)
     obtain ⟨rl, hrl⟩ : ∃ rl, partLoop ltInt a (i2 + 1) (j2 - 1) (swp dk i2 j2) = rl := ⟨_, rfl⟩
     rw [hrl, HR0.out] at hfirst
     have HFirst := Lib.hid hfirst; clear hfirst
     have HLr := Lib.hid hrl; clear hrl
     have HSw : Hid (SR w (((wr.drewN (nq + 1)).setCell ⟨blk, off + i2, none⟩ (.int .u64 (G j2))).setCell ⟨blk, off + j2, none⟩ (.int .u64 (G i2))) blk off (swp dk i2 j2)) := Lib.hid (by
       have := HS.out.swap (nq + 1) (i := i2) (j := j2) (by omega) (by omega)
       rw [HG.out, HG.out] at this
       exact this)
     generalize ((wr.drewN (nq + 1)).setCell ⟨blk, off + i2, none⟩ (.int .u64 (G j2))).setCell ⟨blk, off + j2, none⟩ (.int .u64 (G i2)) = ws at *
     go_loopw [10, 11] (fun vi vj wr => ∃ (i j : Nat) (dk : Array Int), vi = .int .i64 i ∧ vj = .int .i64 j ∧ a + 1 ≤ i ∧ i ≤ j + 1 ∧ j < b ∧ dk.size = n ∧ Hid (SR w wr blk off dk) ∧ Hid (partLoop ltInt a i j dk = rl)) (fun vi vj _ => (intOf vj + 1 - intOf vi).toNat)
     case atStart => exact ⟨i2 + 1, j2 - 1, swp dk i2 j2, by go_num, by congr 1; omega, by omega, by omega, by omega, by rw [size_swp]; exact hsk, HSw, HLr⟩
     case round =>
      clear HSw HLr HS HI HJ HD HU HG
      obtain ⟨i, j, dk, rfl, rfl, hai, hij1, hjb, hsk, HS, HL⟩ := hrel
      obtain ⟨G, hG⟩ : ∃ G : Nat → Int, ∀ t, dk[t]! = G t := ⟨fun t => dk[t]!, fun _ => rfl⟩
      have HG := Lib.hid hG; clear hG
      go_wp2
      go_loopw [10] (fun vi wr2 => ∃ (i2 : Nat), vi = .int .i64 i2 ∧ i ≤ i2 ∧ i2 ≤ j + 1 ∧ Hid (SR w wr2 blk off dk) ∧ Hid (scanUp (fun x => ltInt x dk[a]!) dk j i2 = scanUp (fun x => ltInt x dk[a]!) dk j i)) (fun vi _ => j + 1 - (intOf vi).toNat)
      case atStart => exact ⟨i, rfl, Nat.le_refl _, by omega, HS, Lib.hid rfl⟩
      case round =>
       clear HS
       obtain ⟨i2, rfl, hi2a, hi2b, HS, HU⟩ := hrel
       by_cases hij : i2 ≤ j
       case' pos =>
        have hd : decide (i2 ≤ j) = true := decide_eq_true hij
        have an : (a : Int) < n := by omega
        have in2 : (i2 : Int) < n := by omega
        have ci : wr.cell? ⟨blk, off + i2, none⟩ = some (.int .u64 (G i2)) := by rw [HS.out.cell (by omega), HG.out]
        have ca : wr.cell? ⟨blk, off + a, none⟩ = some (.int .u64 (G a)) := by rw [HS.out.cell (by omega), HG.out]
        cases hl : ltInt (G i2) (G a)
        case true =>
         have HU2 := Lib.hid (show scanUp (fun x => ltInt x dk[a]!) dk j (i2 + 1) = scanUp (fun x => ltInt x dk[a]!) dk j i by rw [← HU.out, scanUp_go (fun x => ltInt x dk[a]!) dk j i2 hij (by simp only [HG.out, hl])])
         go_wp2
         go_quiet (first | (go_at_call 219; refine Calls.quiet_of_same (less_is hl _)))
         go_wp2
         go_roundw
         case rel => exact ⟨i2 + 1, by go_num, by omega, by omega, Lib.hid (HS.out.drewN nq), HU2⟩
         case measure => simp [intOf]; omega
        have hI : i2 = scanUp (fun x => ltInt x dk[a]!) dk j i := by rw [← HU.out, scanUp_end (fun x => ltInt x dk[a]!) dk j i2 (.inr (by simp only [HG.out, hl]))]
        have HI := Lib.hid hI; clear hI
        go_wp2
        go_quiet (first | (go_at_call 219; refine Calls.quiet_of_same (less_is hl _)))
        go_wp2
        have HS := Lib.hid (HS.out.drewN nq)
        generalize wr.drewN nq = wq at *
        clear hl ci ca hd
       case' neg =>
        have hd : decide (i2 ≤ j) = false := decide_eq_false hij
        have hI : i2 = scanUp (fun x => ltInt x dk[a]!) dk j i := by rw [← HU.out, scanUp_end (fun x => ltInt x dk[a]!) dk j i2 (.inl hij)]
        have HI := Lib.hid hI; clear hI
        go_wp2
        go_quiet (first | (go_at_call 219; refine Calls.quiet_of_same (less_is rfl _)))
        go_wp2
        have HS := Lib.hid (HS.out.drewN nq)
        generalize wr.drewN nq = wq at *
        clear hd hij
       all_goals
        go_loopw [11] (fun vj wr3 => ∃ (j2 : Nat), vj = .int .i64 j2 ∧ i2 ≤ j2 + 1 ∧ j2 ≤ j ∧ Hid (SR w wr3 blk off dk) ∧ Hid (scanDown (fun x => !ltInt x dk[a]!) dk i2 j2 = scanDown (fun x => !ltInt x dk[a]!) dk i2 j)) (fun vj _ => (intOf vj).toNat)
        case atStart => exact ⟨j, rfl, by omega, Nat.le_refl _, HS, Lib.hid rfl⟩
        case round =>
         clear HS
         obtain ⟨j2, rfl, hj2a, hj2b, HS, HD⟩ := hrel
         by_cases hij : i2 ≤ j2
         {
         have hd : decide (i2 ≤ j2) = true := decide_eq_true hij
         have an : (a : Int) < n := by omega
         have jn : (j2 : Int) < n := by omega
         have ci : wr.cell? ⟨blk, off + j2, none⟩ = some (.int .u64 (G j2)) := by rw [HS.out.cell (by omega), HG.out]
         have ca : wr.cell? ⟨blk, off + a, none⟩ = some (.int .u64 (G a)) := by rw [HS.out.cell (by omega), HG.out]
         cases hl : ltInt (G j2) (G a) with
         | false => {
         have HD2 := Lib.hid (show scanDown (fun x => !ltInt x dk[a]!) dk i2 (j2 - 1) = scanDown (fun x => !ltInt x dk[a]!) dk i2 j by rw [← HD.out, scanDown_go (fun x => !ltInt x dk[a]!) dk i2 j2 hij (by omega) (by simp only [HG.out, hl]; rfl)])
         go_wp2
         go_quiet (first | (go_at_call 219; refine Calls.quiet_of_same (less_is hl _)))
         go_wp2
         go_roundw
         case rel => exact ⟨j2 - 1, by congr 1; omega, by omega, by omega, Lib.hid (HS.out.drewN nq), HD2⟩
         case measure => simp [intOf]; omega
         }
         | true => {
         have hJ : j2 = scanDown (fun x => !ltInt x dk[a]!) dk i2 j := by rw [← HD.out, scanDown_end (fun x => !ltInt x dk[a]!) dk i2 j2 (.inr (by simp only [HG.out, hl]; rfl))]
         have HJ := Lib.hid hJ; clear hJ
         have fi : wr.frozen? ⟨blk, off + j2, none⟩ = false := HS.out.frozen _
         have fi2 : wr.frozen? ⟨blk, off + i2, none⟩ = false := HS.out.frozen _
         have ci2 : wr.cell? ⟨blk, off + i2, none⟩ = some (.int .u64 (G i2)) := by rw [HS.out.cell (by omega), HG.out]
         have in2 : (i2 : Int) < n := by omega
         have hne : i2 < j2 := part_scans_lt ltInt a i j dk (by omega) HI.out HJ.out hij
         have ne1 : i2 ≠ j2 := by omega
         have ne2 : j2 ≠ i2 := by omega
         have hgt : decide (i2 > j2) = false := decide_eq_false (by omega)
         go_wp2
         go_quiet (first | (go_at_call 219; refine Calls.quiet_of_same (less_is hl _)))
         go_wp2
         go_region
         all_goals go_wp2
         go_roundw
         case rel =>
          refine ⟨i2 + 1, j2 - 1, swp dk i2 j2, by go_num, by congr 1; omega, by omega, by omega, by omega, by rw [size_swp]; exact hsk, Lib.hid ?_, Lib.hid ?_⟩
          {
          have := HS.out.swap (nq + 1) (i := i2) (j := j2) (by omega) (by omega)
          rw [HG.out, HG.out] at this
          exact this
          }
          · rw [← HL.out, part_go ltInt a i j dk HI.out HJ.out (by omega)]
         case measure => simp [intOf]; omega
         }
         }
         {
         have hd : decide (i2 ≤ j2) = false := decide_eq_false hij
         have hJ : j2 = scanDown (fun x => !ltInt x dk[a]!) dk i2 j := by rw [← HD.out, scanDown_end (fun x => !ltInt x dk[a]!) dk i2 j2 (.inl hij)]
         have HJ := Lib.hid hJ; clear hJ
         have hgt : decide (i2 > j2) = true := decide_eq_true (by omega)
         go_wp2
         go_quiet (first | (go_at_call 219; refine Calls.quiet_of_same (less_is rfl _)))
         go_wp2
         have hja : a ≤ j2 := by omega
         have an : (a : Int) < n := by omega
         have jn : (j2 : Int) < n := by omega
         have cj : wr.cell? ⟨blk, off + j2, none⟩ = some (.int .u64 (G j2)) := by rw [HS.out.cell (by omega), HG.out]
         have fj : wr.frozen? ⟨blk, off + j2, none⟩ = false := HS.out.frozen _
         have ca : wr.cell? ⟨blk, off + a, none⟩ = some (.int .u64 (G a)) := by rw [HS.out.cell (by omega), HG.out]
         have fa : wr.frozen? ⟨blk, off + a, none⟩ = false := HS.out.frozen _
         have hsw : SR w (((wr.drewN (nq + 1)).setCell ⟨blk, off + j2, none⟩ (.int .u64 (G a))).setCell ⟨blk, off + a, none⟩ (.int .u64 (G j2))) blk off (swp dk j2 a) := by {
         have := HS.out.swap (nq + 1) (i := j2) (j := a) (by omega) (by omega)
         rw [HG.out, HG.out] at this
         exact this
         }
         have HSw := Lib.hid hsw; clear hsw
         have HRes := Lib.hid (show res = (j2, false, swp dk j2 a) by rw [HFirst.out, ← HL.out, part_break ltInt a i j dk HI.out HJ.out (by omega)])
         by_cases hEq : j2 = a
         {
         rw [hEq] at HSw HRes ⊢
         clear cj fj
         go_region
         all_goals go_wp2
         go_ret2
         exact ⟨by rw [HRes.out]; rfl, by rw [HRes.out]; exact HSw.out⟩
         }
         {
         have ne2 : a ≠ j2 := fun e => hEq e.symm
         go_region
         all_goals go_wp2
         go_ret2
         exact ⟨by rw [HRes.out]; rfl, by rw [HRes.out]; exact HSw.out⟩
         }
         }
     }
     }
     {
     have hd : decide (i2 ≤ j2) = false := decide_eq_false hij
     have hJ : j2 = scanDown (fun x => !ltInt x dk[a]!) dk i2 j := by rw [← HD.out, scanDown_end (fun x => !ltInt x dk[a]!) dk i2 j2 (.inl hij)]
     have HJ := Lib.hid hJ; clear hJ
     have hgt : decide (i2 > j2) = true := decide_eq_true (by omega)
     go_wp2
     go_quiet (first | (go_at_call 219; refine Calls.quiet_of_same (less_is rfl _)))
     go_wp2
     have hja : a ≤ j2 := by omega
     have an : (a : Int) < n := by omega
     have jn : (j2 : Int) < n := by omega
     have cj : wr.cell? ⟨blk, off + j2, none⟩ = some (.int .u64 (G j2)) := by rw [HS.out.cell (by omega), HG.out]
     have fj : wr.frozen? ⟨blk, off + j2, none⟩ = false := HS.out.frozen _
     have ca : wr.cell? ⟨blk, off + a, none⟩ = some (.int .u64 (G a)) := by rw [HS.out.cell (by omega), HG.out]
     have fa : wr.frozen? ⟨blk, off + a, none⟩ = false := HS.out.frozen _
     have hsw : SR w (((wr.drewN (nq + 1)).setCell ⟨blk, off + j2, none⟩ (.int .u64 (G a))).setCell ⟨blk, off + a, none⟩ (.int .u64 (G j2))) blk off (swp dk j2 a) := by {
     have := HS.out.swap (nq + 1) (i := j2) (j := a) (by omega) (by omega)
     rw [HG.out, HG.out] at this
     exact this
     }
     have HSw := Lib.hid hsw; clear hsw
     have HRes := Lib.hid (show res = (j2, true, swp dk j2 a) by rw [← HR0.out]; exact part_first_break ltInt d a b pivot Hij.out.1 Hij.out.2 Hdk.out HI.out HJ.out (by omega))
     by_cases hEq : j2 = a
     {
     rw [hEq] at HSw HRes ⊢
     clear cj fj
     go_region
     all_goals go_wp2
     go_ret2
     exact ⟨by rw [HRes.out]; rfl, by rw [HRes.out]; exact HSw.out⟩
     }
     {
     have ne2 : a ≠ j2 := fun e => hEq e.symm
     go_region
     all_goals go_wp2
     go_ret2
     exact ⟨by rw [HRes.out]; rfl, by rw [HRes.out]; exact HSw.out⟩
     }
     }
theorem pins_u {w wr : World} {blk off cap a b n : Nat} {d : Array Int} (h : SR w wr blk off d) (hn : d.size = n) (hab : a < b) (hb : b ≤ n) (hsz : n < 4611686018427387904) :
    Calls Tryz.prog 218 #[.slice (some ⟨blk, off, none⟩) n cap, .int .i64 a, .int .i64 b] wr fun e w' =>
      e = .returned (.bool (partialInsertionSort ltInt d a b).2) ∧ SR w w' blk off (partialInsertionSort ltInt d a b).1 := by
 have HS := Lib.hid h; clear h
 obtain ⟨res, hres⟩ : ∃ res, partialInsertionSort ltInt d a b = res := ⟨_, rfl⟩
 rw [hres]
 have HR0 : Hid (partialIns ltInt a b 5 (a + 1) d = res) := Lib.hid hres
 clear hres
 go_enter Tryz.func218, Tryz.ntmps218
 go_wp2
 go_loopw [7, 8] (fun vi vs wr => ∃ (i s : Nat) (dk : Array Int), vi = .int .i64 i ∧ vs = .int .i64 s ∧ s ≤ 5 ∧ a < i ∧ i ≤ b ∧ dk.size = n ∧ Hid (SR w wr blk off dk) ∧ Hid (partialIns ltInt a b (5 - s) i dk = res)) (fun _ vs _ => 5 - (intOf vs).toNat)
 case atStart => exact ⟨a + 1, 0, d, by go_num, rfl, by omega, by omega, by omega, hn, HS, HR0⟩
 case round =>
  clear HS HR0
  obtain ⟨i, s, dk, rfl, rfl, hs, hai, hib, hsk, HS, HP⟩ := hrel
  by_cases hs5 : s < 5
  {
  go_wp2
  go_loopw [7] (fun vk wr => ∃ (k : Nat), vk = .int .i64 k ∧ a < k ∧ k ≤ b ∧ Hid (SR w wr blk off dk) ∧ Hid (scanSorted ltInt dk b k = scanSorted ltInt dk b i)) (fun vk _ => b - (intOf vk).toNat)
  case atStart => exact ⟨i, rfl, by omega, by omega, HS, Lib.hid rfl⟩
  case round =>
   clear HS
   obtain ⟨k, rfl, hka, hkb, HS, HSc⟩ := hrel
   by_cases hk : k < b
   {
   obtain ⟨G, hG⟩ : ∃ G : Nat → Int, ∀ t, dk[t]! = G t := ⟨fun t => dk[t]!, fun _ => rfl⟩
   have HG := Lib.hid hG; clear hG
   obtain ⟨k0, hk0⟩ : ∃ k0 : Nat, k0 = k - 1 := ⟨_, rfl⟩
   have wk0 : IntKind.i64.wrap ((k : Int) - 1) = (k0 : Int) := wrapN (by omega) (by omega)
   have ek0 : (k : Int) - 1 = (k0 : Int) := by omega
   have nk : (k : Int) < n := by omega
   have nk0 : (k0 : Int) < n := by omega
   have nek : k ≠ k0 := by omega
   have nek0 : k0 ≠ k := by omega
   have ck : wr.cell? ⟨blk, off + k, none⟩ = some (.int .u64 (G k)) := by rw [HS.out.cell (by omega), HG.out]
   have ck0 : wr.cell? ⟨blk, off + k0, none⟩ = some (.int .u64 (G k0)) := by rw [HS.out.cell (by omega), HG.out]
   have fk : wr.frozen? ⟨blk, off + k, none⟩ = false := HS.out.frozen _
   have fk0 : wr.frozen? ⟨blk, off + k0, none⟩ = false := HS.out.frozen _
   have Hk0 := Lib.hid hk0; clear hk0
   cases hl : ltInt (G k) (G k0) with
   | false => {
   have HSc2 := Lib.hid (show scanSorted ltInt dk b (k + 1) = scanSorted ltInt dk b i by rw [← HSc.out, scanSorted_go ltInt dk b k hk (by rw [← Hk0.out, HG.out, HG.out]; exact hl)])
   go_wp2
   go_quiet (first | (go_at_call 219; refine Calls.quiet_of_same (less_is hl _)))
   go_wp2
   go_roundw
   case rel => exact ⟨k + 1, by go_num, by omega, by omega, Lib.hid (HS.out.drewN nq), HSc2⟩
   case measure => simp [intOf]; omega
   }
   | true => {
   have HK := Lib.hid (show scanSorted ltInt dk b i = k by rw [← HSc.out, scanSorted_stop ltInt dk b k (.inr (by rw [← Hk0.out, HG.out, HG.out]; exact hl))])
   have hkb2 : ((k : Int) == (b : Int)) = false := beq_eq_false_iff_ne.2 (by omega)
   by_cases h50 : b - a < 50
   {
   have hd50 : decide ((b : Int) - a < 50) = true := decide_eq_true (by omega)
   have HRs := Lib.hid (pi_short ltInt a b s i dk hs5 (by rw [HK.out]; omega) h50)
   go_wp2
   go_quiet (first | (go_at_call 219; refine Calls.quiet_of_same (less_is hl _)))
   go_wp2
   go_ret
   exact ⟨by rw [← HP.out, HRs.out]; rfl, by rw [← HP.out, HRs.out]; exact HS.out.drewN nq⟩
   }
   {
   have hd50 : decide ((b : Int) - a < 50) = false := decide_eq_false (by omega)
   by_cases hia : 2 ≤ k - a
   {
   by_cases hbi : 2 ≤ b - k
   {
   have hda : decide (2 ≤ (k : Int) - a) = true := decide_eq_true (by omega)
   have hdb : decide (2 ≤ (b : Int) - k) = true := decide_eq_true (by omega)
   have hsw : ∀ q, SR w (((wr.drewN q).setCell ⟨blk, off + k, none⟩ (.int .u64 (G k0))).setCell ⟨blk, off + k0, none⟩ (.int .u64 (G k))) blk off (swp dk k k0) := fun q => by
     have := HS.out.swap q (i := k) (j := k0) (by omega) (by omega)
     rw [HG.out, HG.out] at this
     exact this
   have HSw := Lib.hid hsw; clear hsw
   go_wp2
   go_quiet (first | (go_at_call 219; refine Calls.quiet_of_same (less_is hl _)))
   go_wp2
   go_region
   all_goals go_wp2
   have HS := Lib.hid (HSw.out (nq + 1))
   generalize ((wr.drewN (nq + 1)).setCell ⟨blk, off + k, none⟩ (.int .u64 (G k0))).setCell ⟨blk, off + k0, none⟩ (.int .u64 (G k)) = wq at *
   obtain ⟨d1, hd1⟩ : ∃ d1, d1 = swp dk k k0 := ⟨_, rfl⟩
   have hs1 : d1.size = n := by rw [hd1, size_swp]; exact hsk
   have H1 := Lib.hid (show swp dk k (k - 1) = d1 by rw [hd1, Hk0.out])
   rw [← hd1] at HS
   clear hd1 HSw ck ck0 fk fk0 hl hkb2
   go_loopw [9] (fun vj wr => ∃ (j : Nat) (dj : Array Int), vj = .int .i64 j ∧ j < k ∧ dj.size = n ∧ Hid (SR w wr blk off dj) ∧ Hid (shiftDown ltInt j dj = shiftDown ltInt (k - 1) d1)) (fun vj _ => (intOf vj).toNat)
   case atStart => exact ⟨k - 1, d1, by congr 1; omega, by omega, hs1, HS, Lib.hid rfl⟩
   case round =>
    clear HS
    obtain ⟨j, dj, rfl, hj1, hsx, HS, HDn⟩ := hrel
    by_cases hjb : 1 ≤ j
    case' pos =>
     obtain ⟨G, hG⟩ : ∃ G : Nat → Int, ∀ t, dj[t]! = G t := ⟨fun t => dj[t]!, fun _ => rfl⟩
     have HG := Lib.hid hG; clear hG
     obtain ⟨j0, hj0⟩ : ∃ j0 : Nat, j0 = j - 1 := ⟨_, rfl⟩
     have wj0 : IntKind.i64.wrap ((j : Int) - 1) = (j0 : Int) := wrapN (by omega) (by omega)
     have ej0 : (j : Int) - 1 = (j0 : Int) := by omega
     have nj : (j : Int) < n := by omega
     have nj0 : (j0 : Int) < n := by omega
     have nej : j ≠ j0 := by omega
     have nej0 : j0 ≠ j := by omega
     have cj : wr.cell? ⟨blk, off + j, none⟩ = some (.int .u64 (G j)) := by rw [HS.out.cell (by omega), HG.out]
     have cj0 : wr.cell? ⟨blk, off + j0, none⟩ = some (.int .u64 (G j0)) := by rw [HS.out.cell (by omega), HG.out]
     have fj : wr.frozen? ⟨blk, off + j, none⟩ = false := HS.out.frozen _
     have fj0 : wr.frozen? ⟨blk, off + j0, none⟩ = false := HS.out.frozen _
     have Hj0 := Lib.hid hj0; clear hj0
     cases hl : ltInt (G j) (G j0)
     case true =>
      have HDn2 := Lib.hid (show shiftDown ltInt j0 (swp dj j j0) = shiftDown ltInt (k - 1) d1 by rw [← HDn.out, shiftDown_go ltInt j dj hjb (by rw [← Hj0.out, HG.out, HG.out]; exact hl), Hj0.out])
      go_wp2
      go_quiet (first | (go_at_call 219; refine Calls.quiet_of_same (less_is hl _)))
      go_wp2
      go_region
      all_goals go_wp2
      go_roundw
      case rel =>
       refine ⟨j0, swp dj j j0, rfl, by omega, by rw [size_swp]; exact hsx, Lib.hid ?_, HDn2⟩
       have := HS.out.swap (nq + 1) (i := j) (j := j0) (by omega) (by omega)
       rw [HG.out, HG.out] at this
       exact this
      case measure => simp [intOf]; omega
     have HX := Lib.hid (show fixDown ltInt a k (swp dk k (k - 1)) = dj by rw [H1.out]; unfold fixDown; rw [if_pos (by omega), ← HDn.out, shiftDown_stop ltInt j dj (.inr (by rw [← Hj0.out, HG.out, HG.out]; exact hl))])
     go_wp2
     go_quiet (first | (go_at_call 219; refine Calls.quiet_of_same (less_is hl _)))
     go_wp2
     have HS := Lib.hid (HS.out.drewN nq)
     generalize wr.drewN nq = wq at *
     clear cj cj0 fj fj0 hl
    case' neg =>
     obtain rfl : j = 0 := by omega
     have HX := Lib.hid (show fixDown ltInt a k (swp dk k (k - 1)) = dj by rw [H1.out]; unfold fixDown; rw [if_pos (by omega), ← HDn.out, shiftDown_stop ltInt 0 dj (.inl rfl)])
     go_wp2
    all_goals
     obtain ⟨dx, hdx⟩ : ∃ dx, dx = dj := ⟨_, rfl⟩
     rw [← hdx] at HS HX hsx
     clear hdx
     go_loopw [10] (fun vj wr => ∃ (j : Nat) (dj : Array Int), vj = .int .i64 j ∧ k + 1 ≤ j ∧ j ≤ b ∧ dj.size = n ∧ Hid (SR w wr blk off dj) ∧ Hid (shiftUp ltInt b j dj = shiftUp ltInt b (k + 1) dx)) (fun vj _ => b - (intOf vj).toNat)
     case atStart => exact ⟨k + 1, dx, by go_num, by omega, by omega, hsx, HS, Lib.hid rfl⟩
     case round =>
      clear HS
      obtain ⟨j, dj, rfl, hj1, hj2, hsj, HS, HUp⟩ := hrel
      by_cases hjb : j < b
      {
      obtain ⟨G, hG⟩ : ∃ G : Nat → Int, ∀ t, dj[t]! = G t := ⟨fun t => dj[t]!, fun _ => rfl⟩
      have HG := Lib.hid hG; clear hG
      obtain ⟨j0, hj0⟩ : ∃ j0 : Nat, j0 = j - 1 := ⟨_, rfl⟩
      have wj0 : IntKind.i64.wrap ((j : Int) - 1) = (j0 : Int) := wrapN (by omega) (by omega)
      have ej0 : (j : Int) - 1 = (j0 : Int) := by omega
      have nj : (j : Int) < n := by omega
      have nj0 : (j0 : Int) < n := by omega
      have nej : j ≠ j0 := by omega
      have nej0 : j0 ≠ j := by omega
      have cj : wr.cell? ⟨blk, off + j, none⟩ = some (.int .u64 (G j)) := by rw [HS.out.cell (by omega), HG.out]
      have cj0 : wr.cell? ⟨blk, off + j0, none⟩ = some (.int .u64 (G j0)) := by rw [HS.out.cell (by omega), HG.out]
      have fj : wr.frozen? ⟨blk, off + j, none⟩ = false := HS.out.frozen _
      have fj0 : wr.frozen? ⟨blk, off + j0, none⟩ = false := HS.out.frozen _
      have Hj0 := Lib.hid hj0; clear hj0
      cases hl : ltInt (G j) (G j0) with
      | true => {
      have HUp2 := Lib.hid (show shiftUp ltInt b (j + 1) (swp dj j j0) = shiftUp ltInt b (k + 1) dx by rw [← HUp.out, shiftUp_go ltInt b j dj hjb (by rw [← Hj0.out, HG.out, HG.out]; exact hl), Hj0.out])
      go_wp2
      go_quiet (first | (go_at_call 219; refine Calls.quiet_of_same (less_is hl _)))
      go_wp2
      go_region
      all_goals go_wp2
      go_roundw
      case rel =>
       refine ⟨j + 1, swp dj j j0, by go_num, by omega, by omega, by rw [size_swp]; exact hsj, Lib.hid ?_, HUp2⟩
       have := HS.out.swap (nq + 1) (i := j) (j := j0) (by omega) (by omega)
       rw [HG.out, HG.out] at this
       exact this
      case measure => simp [intOf]; omega
      }
      | false => {
      go_wp2
      go_quiet (first | (go_at_call 219; refine Calls.quiet_of_same (less_is hl _)))
      go_wp2
      go_roundw
      case rel => exact ⟨k, s + 1, _, rfl, by go_num, by omega, by omega, by omega, hsj, Lib.hid (HS.out.drewN nq), Lib.hid (by rw [← HP.out, pi_go ltInt a b s i k dk hs5 HK.out (by omega) (by omega)]; rw [show fixUp ltInt b k (fixDown ltInt a k (swp dk k (k - 1))) = dj by rw [HX.out]; unfold fixUp; rw [if_pos (by omega), ← HUp.out, shiftUp_stop ltInt b j dj (.inr (by rw [← Hj0.out, HG.out, HG.out]; exact hl))]])⟩
      case measure => simp [intOf]; omega
      }
      }
      {
      go_wp2
      go_roundw
      case rel => exact ⟨k, s + 1, _, rfl, by go_num, by omega, by omega, by omega, hsj, HS, Lib.hid (by rw [← HP.out, pi_go ltInt a b s i k dk hs5 HK.out (by omega) (by omega)]; rw [show fixUp ltInt b k (fixDown ltInt a k (swp dk k (k - 1))) = dj by rw [HX.out]; unfold fixUp; rw [if_pos (by omega), ← HUp.out, shiftUp_stop ltInt b j dj (.inl hjb)]])⟩
      case measure => simp [intOf]; omega
      }
   }
   {
   have hda : decide (2 ≤ (k : Int) - a) = true := decide_eq_true (by omega)
   have hdb : decide (2 ≤ (b : Int) - k) = false := decide_eq_false (by omega)
   have hsw : ∀ q, SR w (((wr.drewN q).setCell ⟨blk, off + k, none⟩ (.int .u64 (G k0))).setCell ⟨blk, off + k0, none⟩ (.int .u64 (G k))) blk off (swp dk k k0) := fun q => by
     have := HS.out.swap q (i := k) (j := k0) (by omega) (by omega)
     rw [HG.out, HG.out] at this
     exact this
   have HSw := Lib.hid hsw; clear hsw
   go_wp2
   go_quiet (first | (go_at_call 219; refine Calls.quiet_of_same (less_is hl _)))
   go_wp2
   go_region
   all_goals go_wp2
   have HS := Lib.hid (HSw.out (nq + 1))
   generalize ((wr.drewN (nq + 1)).setCell ⟨blk, off + k, none⟩ (.int .u64 (G k0))).setCell ⟨blk, off + k0, none⟩ (.int .u64 (G k)) = wq at *
   obtain ⟨d1, hd1⟩ : ∃ d1, d1 = swp dk k k0 := ⟨_, rfl⟩
   have hs1 : d1.size = n := by rw [hd1, size_swp]; exact hsk
   have H1 := Lib.hid (show swp dk k (k - 1) = d1 by rw [hd1, Hk0.out])
   rw [← hd1] at HS
   clear hd1 HSw ck ck0 fk fk0 hl hkb2
   go_loopw [9] (fun vj wr => ∃ (j : Nat) (dj : Array Int), vj = .int .i64 j ∧ j < k ∧ dj.size = n ∧ Hid (SR w wr blk off dj) ∧ Hid (shiftDown ltInt j dj = shiftDown ltInt (k - 1) d1)) (fun vj _ => (intOf vj).toNat)
   case atStart => exact ⟨k - 1, d1, by congr 1; omega, by omega, hs1, HS, Lib.hid rfl⟩
   case round =>
    clear HS
    obtain ⟨j, dj, rfl, hj1, hsx, HS, HDn⟩ := hrel
    by_cases hjb : 1 ≤ j
    case' pos =>
     obtain ⟨G, hG⟩ : ∃ G : Nat → Int, ∀ t, dj[t]! = G t := ⟨fun t => dj[t]!, fun _ => rfl⟩
     have HG := Lib.hid hG; clear hG
     obtain ⟨j0, hj0⟩ : ∃ j0 : Nat, j0 = j - 1 := ⟨_, rfl⟩
     have wj0 : IntKind.i64.wrap ((j : Int) - 1) = (j0 : Int) := wrapN (by omega) (by omega)
     have ej0 : (j : Int) - 1 = (j0 : Int) := by omega
     have nj : (j : Int) < n := by omega
     have nj0 : (j0 : Int) < n := by omega
     have nej : j ≠ j0 := by omega
     have nej0 : j0 ≠ j := by omega
     have cj : wr.cell? ⟨blk, off + j, none⟩ = some (.int .u64 (G j)) := by rw [HS.out.cell (by omega), HG.out]
     have cj0 : wr.cell? ⟨blk, off + j0, none⟩ = some (.int .u64 (G j0)) := by rw [HS.out.cell (by omega), HG.out]
     have fj : wr.frozen? ⟨blk, off + j, none⟩ = false := HS.out.frozen _
     have fj0 : wr.frozen? ⟨blk, off + j0, none⟩ = false := HS.out.frozen _
     have Hj0 := Lib.hid hj0; clear hj0
     cases hl : ltInt (G j) (G j0)
     case true =>
      have HDn2 := Lib.hid (show shiftDown ltInt j0 (swp dj j j0) = shiftDown ltInt (k - 1) d1 by rw [← HDn.out, shiftDown_go ltInt j dj hjb (by rw [← Hj0.out, HG.out, HG.out]; exact hl), Hj0.out])
      go_wp2
      go_quiet (first | (go_at_call 219; refine Calls.quiet_of_same (less_is hl _)))
      go_wp2
      go_region
      all_goals go_wp2
      go_roundw
      case rel =>
       refine ⟨j0, swp dj j j0, rfl, by omega, by rw [size_swp]; exact hsx, Lib.hid ?_, HDn2⟩
       have := HS.out.swap (nq + 1) (i := j) (j := j0) (by omega) (by omega)
       rw [HG.out, HG.out] at this
       exact this
      case measure => simp [intOf]; omega
     have HX := Lib.hid (show fixDown ltInt a k (swp dk k (k - 1)) = dj by rw [H1.out]; unfold fixDown; rw [if_pos (by omega), ← HDn.out, shiftDown_stop ltInt j dj (.inr (by rw [← Hj0.out, HG.out, HG.out]; exact hl))])
     go_wp2
     go_quiet (first | (go_at_call 219; refine Calls.quiet_of_same (less_is hl _)))
     go_wp2
     have HS := Lib.hid (HS.out.drewN nq)
     generalize wr.drewN nq = wq at *
     clear cj cj0 fj fj0 hl
    case' neg =>
     obtain rfl : j = 0 := by omega
     have HX := Lib.hid (show fixDown ltInt a k (swp dk k (k - 1)) = dj by rw [H1.out]; unfold fixDown; rw [if_pos (by omega), ← HDn.out, shiftDown_stop ltInt 0 dj (.inl rfl)])
     go_wp2
    all_goals
     obtain ⟨dx, hdx⟩ : ∃ dx, dx = dj := ⟨_, rfl⟩
     rw [← hdx] at HS HX hsx
     clear hdx
     go_roundw
     case rel => exact ⟨k, s + 1, _, rfl, by go_num, by omega, by omega, by omega, hsx, HS, Lib.hid (by rw [← HP.out, pi_go ltInt a b s i k dk hs5 HK.out (by omega) (by omega)]; rw [show fixUp ltInt b k (fixDown ltInt a k (swp dk k (k - 1))) = dx by rw [HX.out]; unfold fixUp; rw [if_neg (by omega)]])⟩
     case measure => simp [intOf]; omega
   }
   }
   {
   by_cases hbi : 2 ≤ b - k
   {
   have hda : decide (2 ≤ (k : Int) - a) = false := decide_eq_false (by omega)
   have hdb : decide (2 ≤ (b : Int) - k) = true := decide_eq_true (by omega)
   have hsw : ∀ q, SR w (((wr.drewN q).setCell ⟨blk, off + k, none⟩ (.int .u64 (G k0))).setCell ⟨blk, off + k0, none⟩ (.int .u64 (G k))) blk off (swp dk k k0) := fun q => by
     have := HS.out.swap q (i := k) (j := k0) (by omega) (by omega)
     rw [HG.out, HG.out] at this
     exact this
   have HSw := Lib.hid hsw; clear hsw
   go_wp2
   go_quiet (first | (go_at_call 219; refine Calls.quiet_of_same (less_is hl _)))
   go_wp2
   go_region
   all_goals go_wp2
   have HS := Lib.hid (HSw.out (nq + 1))
   generalize ((wr.drewN (nq + 1)).setCell ⟨blk, off + k, none⟩ (.int .u64 (G k0))).setCell ⟨blk, off + k0, none⟩ (.int .u64 (G k)) = wq at *
   obtain ⟨d1, hd1⟩ : ∃ d1, d1 = swp dk k k0 := ⟨_, rfl⟩
   have hs1 : d1.size = n := by rw [hd1, size_swp]; exact hsk
   have H1 := Lib.hid (show swp dk k (k - 1) = d1 by rw [hd1, Hk0.out])
   rw [← hd1] at HS
   clear hd1 HSw ck ck0 fk fk0 hl hkb2
   have HX := Lib.hid (show fixDown ltInt a k (swp dk k (k - 1)) = d1 by rw [H1.out]; unfold fixDown; rw [if_neg (by omega)])
   obtain ⟨dx, hdx⟩ : ∃ dx, dx = d1 := ⟨_, rfl⟩
   have hsx : dx.size = n := by rw [hdx]; exact hs1
   rw [← hdx] at HS HX
   clear hdx
   go_loopw [10] (fun vj wr => ∃ (j : Nat) (dj : Array Int), vj = .int .i64 j ∧ k + 1 ≤ j ∧ j ≤ b ∧ dj.size = n ∧ Hid (SR w wr blk off dj) ∧ Hid (shiftUp ltInt b j dj = shiftUp ltInt b (k + 1) dx)) (fun vj _ => b - (intOf vj).toNat)
   case atStart => exact ⟨k + 1, dx, by go_num, by omega, by omega, hsx, HS, Lib.hid rfl⟩
   case round =>
    clear HS
    obtain ⟨j, dj, rfl, hj1, hj2, hsj, HS, HUp⟩ := hrel
    by_cases hjb : j < b
    {
    obtain ⟨G, hG⟩ : ∃ G : Nat → Int, ∀ t, dj[t]! = G t := ⟨fun t => dj[t]!, fun _ => rfl⟩
    have HG := Lib.hid hG; clear hG
    obtain ⟨j0, hj0⟩ : ∃ j0 : Nat, j0 = j - 1 := ⟨_, rfl⟩
    have wj0 : IntKind.i64.wrap ((j : Int) - 1) = (j0 : Int) := wrapN (by omega) (by omega)
    have ej0 : (j : Int) - 1 = (j0 : Int) := by omega
    have nj : (j : Int) < n := by omega
    have nj0 : (j0 : Int) < n := by omega
    have nej : j ≠ j0 := by omega
    have nej0 : j0 ≠ j := by omega
    have cj : wr.cell? ⟨blk, off + j, none⟩ = some (.int .u64 (G j)) := by rw [HS.out.cell (by omega), HG.out]
    have cj0 : wr.cell? ⟨blk, off + j0, none⟩ = some (.int .u64 (G j0)) := by rw [HS.out.cell (by omega), HG.out]
    have fj : wr.frozen? ⟨blk, off + j, none⟩ = false := HS.out.frozen _
    have fj0 : wr.frozen? ⟨blk, off + j0, none⟩ = false := HS.out.frozen _
    have Hj0 := Lib.hid hj0; clear hj0
    cases hl : ltInt (G j) (G j0) with
    | true => {
    have HUp2 := Lib.hid (show shiftUp ltInt b (j + 1) (swp dj j j0) = shiftUp ltInt b (k + 1) dx by rw [← HUp.out, shiftUp_go ltInt b j dj hjb (by rw [← Hj0.out, HG.out, HG.out]; exact hl), Hj0.out])
    go_wp2
    go_quiet (first | (go_at_call 219; refine Calls.quiet_of_same (less_is hl _)))
    go_wp2
    go_region
    all_goals go_wp2
    go_roundw
    case rel =>
     refine ⟨j + 1, swp dj j j0, by go_num, by omega, by omega, by rw [size_swp]; exact hsj, Lib.hid ?_, HUp2⟩
     have := HS.out.swap (nq + 1) (i := j) (j := j0) (by omega) (by omega)
     rw [HG.out, HG.out] at this
     exact this
    case measure => simp [intOf]; omega
    }
    | false => {
    go_wp2
    go_quiet (first | (go_at_call 219; refine Calls.quiet_of_same (less_is hl _)))
    go_wp2
    go_roundw
    case rel => exact ⟨k, s + 1, _, rfl, by go_num, by omega, by omega, by omega, hsj, Lib.hid (HS.out.drewN nq), Lib.hid (by rw [← HP.out, pi_go ltInt a b s i k dk hs5 HK.out (by omega) (by omega)]; rw [show fixUp ltInt b k (fixDown ltInt a k (swp dk k (k - 1))) = dj by rw [HX.out]; unfold fixUp; rw [if_pos (by omega), ← HUp.out, shiftUp_stop ltInt b j dj (.inr (by rw [← Hj0.out, HG.out, HG.out]; exact hl))]])⟩
    case measure => simp [intOf]; omega
    }
    }
    {
    go_wp2
    go_roundw
    case rel => exact ⟨k, s + 1, _, rfl, by go_num, by omega, by omega, by omega, hsj, HS, Lib.hid (by rw [← HP.out, pi_go ltInt a b s i k dk hs5 HK.out (by omega) (by omega)]; rw [show fixUp ltInt b k (fixDown ltInt a k (swp dk k (k - 1))) = dj by rw [HX.out]; unfold fixUp; rw [if_pos (by omega), ← HUp.out, shiftUp_stop ltInt b j dj (.inl hjb)]])⟩
    case measure => simp [intOf]; omega
    }
   }
   {
   exfalso
   omega
   }
   }
   }
   }
   }
   {
   obtain rfl : k = b := by omega
   have HK := Lib.hid (show scanSorted ltInt dk k i = k by rw [← HSc.out, scanSorted_stop ltInt dk k k (.inl hk)])
   have HRs := Lib.hid (pi_true ltInt a k s i dk hs5 HK.out)
   go_wp2
   go_quiet (first | (go_at_call 219; refine Calls.quiet_of_same (less_is rfl _)))
   go_wp2
   go_ret
   exact ⟨by rw [← HP.out, HRs.out]; rfl, by rw [← HP.out, HRs.out]; exact HS.out.drewN nq⟩
   }
  }
  {
  obtain rfl : s = 5 := by omega
  go_wp2
  go_ret
  exact ⟨by rw [← HP.out, pi_end]; rfl, by rw [← HP.out, pi_end]; exact HS.out⟩
  }
set_option maxRecDepth 100000
set_option maxHeartbeats 6400000
structure PdqR (d : Array Int) (a b lim : Nat) (wb wp : Bool) (R : Rd Int) : Prop where
  bal : wb = true → R.d1 = d ∧ R.lim = lim
  unb : wb = false → R.d1 = breakPatterns d a b ∧ R.lim = lim - 1
  c : R.c = choosePivot ltInt R.d1 a b
  dec : R.c.2 = .decreasing → R.d2 = reverseRange R.d1 a b ∧ R.pivot = (b - 1) - (R.c.1 - a) ∧ R.hint = .increasing
  ndec : R.c.2 ≠ .decreasing → R.d2 = R.d1 ∧ R.pivot = R.c.1 ∧ R.hint = R.c.2
  yes : (wb && wp && decide (R.hint = .increasing)) = true → R.pi = partialInsertionSort ltInt R.d2 a b
  no : (wb && wp && decide (R.hint = .increasing)) = false → R.pi = (R.d2, false)
  s1 : R.d1.size = d.size
  c1 : a ≤ R.c.1 ∧ R.c.1 < b
  s2 : R.d2.size = d.size
  pv : a ≤ R.pivot ∧ R.pivot < b
  s3 : R.pi.1.size = d.size
  B3 : Sort.Below ltInt a b R.pi.1
  lm : R.lim ≤ lim
  done : R.pi.2 = true → pdq ltInt d a b lim wb wp = R.pi.1
  eq : R.pi.2 = false → (decide (a > 0) && !ltInt R.pi.1[a - 1]! R.pi.1[R.pivot]!) = true → ∀ mid d4, partitionEqual ltInt R.pi.1 a b R.pivot = (mid, d4) → a < mid ∧ mid ≤ b → pdq ltInt d a b lim wb wp = pdq ltInt d4 mid b R.lim wb wp
  left : R.pi.2 = false → (decide (a > 0) && !ltInt R.pi.1[a - 1]! R.pi.1[R.pivot]!) = false → ∀ mid ap d4, partition ltInt R.pi.1 a b R.pivot = (mid, ap, d4) → a ≤ mid ∧ mid < b → mid - a < b - mid →
    pdq ltInt d a b lim wb wp = pdq ltInt (pdq ltInt d4 a mid R.lim true true) (mid + 1) b R.lim (decide (mid - a ≥ (b - a) / 8)) ap
  right : R.pi.2 = false → (decide (a > 0) && !ltInt R.pi.1[a - 1]! R.pi.1[R.pivot]!) = false → ∀ mid ap d4, partition ltInt R.pi.1 a b R.pivot = (mid, ap, d4) → a ≤ mid ∧ mid < b → ¬ mid - a < b - mid →
    pdq ltInt d a b lim wb wp = pdq ltInt (pdq ltInt d4 (mid + 1) b R.lim true true) a mid R.lim (decide (b - mid ≥ (b - a) / 8)) ap
theorem pdq_round {d : Array Int} {a b lim : Nat} (wb wp : Bool) (h12 : ¬ b - a ≤ 12) (hl : ¬ lim = 0) (hb : b ≤ d.size) (hB : Sort.Below ltInt a b d) : ∃ R, PdqR d a b lim wb wp R := by
 obtain ⟨s1, _, hc1, s2, _, hpv, s3, B3⟩ := rd_facts (limit := lim) (wb := wb) (wp := wp) swo_ltInt partialInsertionSort_holds reverseRange_holds (show a < b by omega) hb hB
 refine ⟨rd ltInt d a b lim wb wp, ?_, ?_, rd_c, rd_dec, rd_not, rd_pi_yes, rd_pi_no, s1, hc1, s2, hpv, s3, B3, rd_lim_le, pdq_done h12 hl, ?_, ?_, ?_⟩
 · rintro rfl; exact rd_true
 · rintro rfl; exact rd_false
 {
 intro h1 h2 mid d4 hx h3
 have := pdq_eq (wb := wb) (wp := wp) h12 hl h1 h2 (by rw [hx]; exact h3)
 rw [hx] at this; exact this
 }
 {
 intro h1 h2 mid ap d4 hx h3 h4
 have := pdq_left (wb := wb) (wp := wp) h12 hl h1 h2 (by rw [hx]; exact h3) (by rw [hx]; exact h4)
 rw [hx] at this; exact this
 }
 {
 intro h1 h2 mid ap d4 hx h3 h4
 have := pdq_right (wb := wb) (wp := wp) h12 hl h1 h2 (by rw [hx]; exact h3) (by rw [hx]; exact h4)
 rw [hx] at this; exact this
 }
theorem pdq_u {w : World} {blk off cap n : Nat} (hsz : n < 4611686018427387904) : ∀ (N a b limit : Nat) (d : Array Int) (wr : World), b - a < N → SR w wr blk off d → d.size = n → a ≤ b → b ≤ n → limit < 4611686018427387904 → Sort.Below ltInt a b d →
    Calls Tryz.prog 198 #[.slice (some ⟨blk, off, none⟩) n cap, .int .i64 a, .int .i64 b, .int .i64 limit] wr fun e w' => e = .returned (.tuple #[]) ∧ SR w w' blk off (pdq ltInt d a b limit true true) := by
 intro N
 induction N with
 | zero => intro _ _ _ _ _ h; exact absurd h (Nat.not_lt_zero _)
 | succ N ih => {
 intro a b limit d wr hN hS hn hab hb hlimit hBel0
 have IH := Lib.hid ih; clear ih
 have HS := Lib.hid hS; clear hS
 have HB := Lib.hid hBel0; clear hBel0
 obtain ⟨res, hres⟩ : ∃ res, pdq ltInt d a b limit true true = res := ⟨_, rfl⟩
 rw [hres]
 have HR0 := Lib.hid hres; clear hres
 go_enter Tryz.func198, Tryz.ntmps198
 go_wp2
 go_loopg [1, 2, 3, 8, 9] (b - a) (fun k s1 s2 s3 s8 s9 wr => ∃ (x y lim : Nat) (wb wp : Bool) (dk : Array Int), s1 = .int .i64 x ∧ s2 = .int .i64 y ∧ s3 = .int .i64 lim ∧ s8 = .bool wb ∧ s9 = .bool wp ∧
   x ≤ y ∧ y ≤ n ∧ y - x ≤ k ∧ k ≤ b - a ∧ lim ≤ limit ∧ dk.size = n ∧ Hid (Sort.Below ltInt x y dk) ∧ Hid (SR w wr blk off dk) ∧ Hid (pdq ltInt dk x y lim wb wp = res))
 case atStart => exact ⟨a, b, limit, true, true, d, rfl, rfl, rfl, rfl, rfl, hab, hb, Nat.le_refl _, Nat.le_refl _, Nat.le_refl _, hn, HB, HS, HR0⟩
 case round =>
  clear HB HS HR0
  obtain ⟨x, y, lim, wb, wp, dk, rfl, rfl, rfl, rfl, rfl, hxy, hy, hk, hkN, hlim, hsk, HB, HS, HR⟩ := hrel
  by_cases h12 : y - x ≤ 12
  {
  have h12z : (y : Int) - (x : Int) ≤ 12 := by omega
  have HC := ins_u (cap := cap) HS.out hxy (by omega) (by omega)
  rw [hsk] at HC
  have HC := Lib.hid HC
  go_wp2_with (go_at_call 213; refine HC.out.mono ?_; rintro e w1 ⟨rfl, hw1⟩)
  (try simp only [Exit.inBlock, Exit.then]); refine bodyPost_ret (results_none rfl _ _ _) rfl ?_
  exact ⟨rfl, by rw [← HR.out, pdq_small h12]; exact hw1⟩
  }
  {
  have h12z : ¬ ((y : Int) - (x : Int) ≤ 12) := by omega
  by_cases hl0 : lim = 0
  {
  subst hl0
  have HC := Lib.hid (heap_u (cap := cap) HS.out hsk hxy hy hsz)
  go_wp2_with (go_at_call 214; refine HC.out.mono ?_; rintro e w1 ⟨rfl, hw1⟩)
  (try simp only [Exit.inBlock, Exit.then]); refine bodyPost_ret (results_none rfl _ _ _) rfl ?_
  exact ⟨rfl, by rw [← HR.out, pdq_heap h12 rfl]; exact hw1⟩
  }
  {
  have hl0z : ¬ ((lim : Int) = 0) := by omega
  obtain ⟨R, hP⟩ := pdq_round wb wp h12 hl0 (show y ≤ dk.size by omega) HB.out
  have hc1 := hP.c1
  have hpv := hP.pv
  have hlm := hP.lm
  have PR := Lib.hid hP; clear hP
  have hs1 : R.d1.size = n := by rw [PR.out.s1]; exact hsk
  have hs2 : R.d2.size = n := by rw [PR.out.s2]; exact hsk
  have hs3 : R.pi.1.size = n := by rw [PR.out.s3]; exact hsk
  go_upto_if 35 with fail
  go_cut [3] from 19 (fun s3 wc => s3 = .int .i64 R.lim ∧ Hid (SR w wc blk off R.d1))
  case first =>
   cases wb
   {
   have HC := Lib.hid (break_u (cap := cap) HS.out hsk hxy hy hsz)
   go_wp2_with (go_at_call 215; refine HC.out.mono ?_; rintro e w1 ⟨rfl, hw1⟩)
   go_meet
   case rel =>
    obtain ⟨e1, e2⟩ := PR.out.unb rfl
    exact ⟨by rw [e2]; congr 1; omega, Lib.hid (by rw [e1]; exact hw1)⟩
   }
   {
   go_wp2_with fail
   go_meet
   case rel =>
    obtain ⟨e1, e2⟩ := PR.out.bal rfl
    exact ⟨by rw [e2], by rw [e1]; exact HS⟩
   }
  case rest =>
   clear HS
   obtain ⟨rfl, HS1⟩ := hcut
   have HC := pivot_u (cap := cap) HS1.out hs1 (show x < y by omega) hy hsz
   rw [← PR.out.c] at HC
   have HC := Lib.hid HC
   go_upto_if 50 with (go_at_call 216; refine HC.out.mono ?_; rintro e w2 ⟨rfl, hw2⟩)
   have HS2 := Lib.hid hw2; clear hw2 HC HS1
   go_cut [11, 12] from 19 (fun s11 s12 wc => s11 = .int .i64 R.pivot ∧ s12 = .int .i64 (hintCode R.hint) ∧ Hid (SR w wc blk off R.d2))
   case first =>
    by_cases hh : R.c.2 = .decreasing
    {
    have hcode : hintCode R.c.2 = 2 := by rw [hh]; rfl
    have HC := Lib.hid (rev_u (cap := cap) HS2.out hs1 hxy hy hsz)
    go_wp2_with (go_at_call 217; refine HC.out.mono ?_; rintro e w3 ⟨rfl, hw3⟩)
    go_meet
    case rel =>
     obtain ⟨e1, e2, e3⟩ := PR.out.dec hh
     exact ⟨by rw [e2]; congr 1; omega, by rw [e3]; rfl, Lib.hid (by rw [e1]; exact hw3)⟩
    }
    {
    have hcode : ¬ (hintCode R.c.2 = 2) := fun h => hh (hintCode_two h)
    go_wp2_with fail
    go_meet
    case rel =>
     obtain ⟨e1, e2, e3⟩ := PR.out.ndec hh
     exact ⟨by rw [e2], by rw [e3], by rw [e1]; exact HS2⟩
    }
   case rest =>
    clear HS2
    obtain ⟨rfl, rfl, HS3⟩ := hcut
    go_upto_region 15 with fail
    go_cut [12, 68] from 19 (fun s12 s68 wx => s12 = .int .i64 (hintCode R.hint) ∧ s68 = .bool (wb && wp && decide (R.hint = .increasing)) ∧ wx = wc)
    case first =>
     cases wb <;> cases wp <;> cases hh3 : R.hint <;>
       (have hcode3 := congrArg hintCode hh3
        simp only [hintCode] at hcode3
        go_wp2_with fail
        go_meet
        exact ⟨by simp [hh3, hintCode], by simp [hh3, hintCode], rfl⟩)
    case rest =>
     obtain ⟨rfl, rfl, rfl⟩ := hcut
     go_upto_if 68 with fail
     go_cut [] from 19 (fun wx => R.pi.2 = false ∧ Hid (SR w wx blk off R.pi.1))
     case first =>
      cases h68 : (wb && wp && decide (R.hint = .increasing))
      {
      go_wp2_with fail
      go_meet
      case rel =>
       have e1 := PR.out.no h68
       exact ⟨by rw [e1], by rw [e1]; exact HS3⟩
      }
      {
      have HC := pins_u (cap := cap) HS3.out hs2 (show x < y by omega) hy hsz
      rw [← PR.out.yes h68] at HC
      have HC := Lib.hid HC
      cases hpi : R.pi.2 with
      | false => {
      rw [hpi] at HC
      go_wp2_with (go_at_call 218; refine HC.out.mono ?_; rintro e w4 ⟨rfl, hw4⟩)
      go_meet
      case rel => exact ⟨hpi, Lib.hid hw4⟩
      }
      | true => {
      rw [hpi] at HC
      go_wp2_with (go_at_call 218; refine HC.out.mono ?_; rintro e w4 ⟨rfl, hw4⟩)
      (try simp only [Exit.inBlock, Exit.then]); refine bodyPost_ret (results_none rfl _ _ _) rfl ?_
      exact ⟨rfl, by rw [← HR.out, PR.out.done hpi]; exact hw4⟩
      }
      }
     case rest =>
      clear HS3
      obtain ⟨hp2, HS5⟩ := hcut
      have Hp2 := Lib.hid hp2; clear hp2
      obtain ⟨G, hG⟩ : ∃ G : Nat → Int, ∀ t, R.pi.1[t]! = G t := ⟨fun t => R.pi.1[t]!, fun _ => rfl⟩
      have HG := Lib.hid hG; clear hG
      obtain ⟨x0, hx0⟩ : ∃ x0 : Nat, x0 = x - 1 := ⟨_, rfl⟩
      have Hx0 := Lib.hid hx0; clear hx0
      go_upto_region 17 with fail
      go_cut [87] from 19 (fun s87 wx => s87 = .bool (decide (x > 0) && !ltInt (G x0) (G R.pivot)) ∧ Hid (SR w wx blk off R.pi.1))
      case first =>
       rcases Nat.eq_zero_or_pos x with ha0 | ha0
       {
       have ha0z : decide ((x : Int) > 0) = false := decide_eq_false (by omega)
       go_big_quiet (first | (go_at_call 219; refine Calls.quiet_of_same (less_u _ _ _)))
       go_wp2_with fail
       go_meet
       case rel => exact ⟨by simp [ha0], Lib.hid (HS5.out.drewN nq)⟩
       }
       {
       have ha0z : (x : Int) > 0 := by omega
       have wx0 : IntKind.i64.wrap ((x : Int) - 1) = (x0 : Int) := wrapN (by have := Hx0.out; omega) (by have := Hx0.out; omega)
       have c1 : wc.cell? ⟨blk, off + x0, none⟩ = some (.int .u64 (G x0)) := by rw [HS5.out.cell (by have := Hx0.out; omega), HG.out]
       have c2 : wc.cell? ⟨blk, off + R.pivot, none⟩ = some (.int .u64 (G R.pivot)) := by rw [HS5.out.cell (by omega), HG.out]
       have n1 : (x0 : Int) < n := by have := Hx0.out; omega
       have n2 : (R.pivot : Int) < n := by omega
       go_big_quiet (first | (go_at_call 219; refine Calls.quiet_of_same (less_u _ _ _)))
       go_wp2_with fail
       go_meet
       case rel => exact ⟨by simp [ha0], Lib.hid (HS5.out.drewN nq)⟩
       }
      case rest =>
       clear HS5
       obtain ⟨rfl, HS6⟩ := hcut
       have h87e : (decide (x > 0) && !ltInt R.pi.1[x - 1]! R.pi.1[R.pivot]!) = (decide (x > 0) && !ltInt (G x0) (G R.pivot)) := by rw [HG.out, HG.out, Hx0.out]
       have H87 := Lib.hid h87e; clear h87e
       cases h87 : (decide (x > 0) && !ltInt (G x0) (G R.pivot))
       {
       obtain ⟨mid, ap, d4, hx⟩ : ∃ mid ap d4, partition ltInt R.pi.1 x y R.pivot = (mid, ap, d4) := ⟨_, _, _, rfl⟩
       obtain ⟨r1, r2, r3, r4, r5, r6, r7⟩ := round_part swo_ltInt (partition_holds ltInt) hpv.1 hpv.2 (show y ≤ R.pi.1.size by omega) PR.out.B3 hx
       have HC := part_u (cap := cap) HS6.out hs3 hpv.1 hpv.2 hy hsz
       rw [hx] at HC
       have HC := Lib.hid HC
       have HX := Lib.hid hx; clear hx
       have hs4 : d4.size = n := by rw [r3]; exact hs3
       go_upto_if 113 with (go_at_call 221; refine HC.out.mono ?_; rintro e w7 ⟨rfl, hw7⟩)
       have HS7 := Lib.hid hw7; clear hw7 HC HS6
       by_cases h4 : mid - x < y - mid
       {
       have h4z : (mid : Int) - (x : Int) < (y : Int) - (mid : Int) := by omega
       have HC := Lib.hid (IH.out x mid R.lim d4 w7 (by omega) HS7.out hs4 (by omega) (by omega) (by omega) r4)
       obtain ⟨pL, sL⟩ := pdq_sorts ltInt swo_ltInt d4 x mid R.lim true true (by omega) (by omega) r4
       have HL := Lib.hid (PR.out.left Hp2.out (H87.out.trans h87) mid ap d4 HX.out ⟨r1, r2⟩ h4)
       have HBn := Lib.hid (r6 _ pL sL).1
       have hsn : (pdq ltInt d4 x mid R.lim true true).size = n := by rw [pL.1]; exact hs4
       clear r4 r5 r6 r7 pL sL r3
       generalize pdq ltInt d4 x mid R.lim true true = d5 at *
       go_wp2_with (go_at_call 198; refine HC.out.mono ?_; rintro e w8 ⟨rfl, hw8⟩)
       go_roundg (y - (mid + 1))
       case measure => omega
       case rel =>
        refine ⟨mid + 1, y, R.lim, decide (mid - x ≥ (y - x) / 8), ap, d5, by simp, rfl, rfl, ?_, rfl, by omega, by omega, Nat.le_refl _, by omega, by omega, hsn, HBn, Lib.hid hw8, Lib.hid ?_⟩
        · exact congrArg Value.bool (eighth (by omega) (by omega))
        · rw [← HR.out, HL.out]
       }
       {
       have h4z : ¬ ((mid : Int) - (x : Int) < (y : Int) - (mid : Int)) := by omega
       have HC := Lib.hid (IH.out (mid + 1) y R.lim d4 w7 (by omega) HS7.out hs4 (by omega) (by omega) (by omega) r5)
       obtain ⟨pL, sL⟩ := pdq_sorts ltInt swo_ltInt d4 (mid + 1) y R.lim true true (by omega) (by omega) r5
       have HL := Lib.hid (PR.out.right Hp2.out (H87.out.trans h87) mid ap d4 HX.out ⟨r1, r2⟩ h4)
       have HBn := Lib.hid (r7 _ pL sL).1
       have hsn : (pdq ltInt d4 (mid + 1) y R.lim true true).size = n := by rw [pL.1]; exact hs4
       clear r4 r5 r6 r7 pL sL r3
       generalize pdq ltInt d4 (mid + 1) y R.lim true true = d5 at *
       go_wp2_with (go_at_call 198; refine HC.out.mono ?_; rintro e w8 ⟨rfl, hw8⟩)
       go_roundg (mid - x)
       case measure => omega
       case rel =>
        refine ⟨x, mid, R.lim, decide (y - mid ≥ (y - x) / 8), ap, d5, rfl, rfl, rfl, ?_, rfl, by omega, by omega, Nat.le_refl _, by omega, by omega, hsn, HBn, Lib.hid hw8, Lib.hid ?_⟩
        · exact congrArg Value.bool (eighth (by omega) (by omega))
        · rw [← HR.out, HL.out]
       }
       }
       {
       have h87' := H87.out.trans h87
       have h87'' := h87'
       simp only [Bool.and_eq_true, decide_eq_true_eq, Bool.not_eq_true'] at h87'
       obtain ⟨mid, d4, hx⟩ : ∃ mid d4, partitionEqual ltInt R.pi.1 x y R.pivot = (mid, d4) := ⟨_, _, rfl⟩
       obtain ⟨r1, r2, r3, r4, _⟩ := round_eq swo_ltInt (partitionEqual_holds ltInt) h87'.1 hpv.1 hpv.2 (show y ≤ R.pi.1.size by omega) PR.out.B3 h87'.2 hx
       have HC := peq_u (cap := cap) HS6.out hs3 hpv.1 hpv.2 hy hsz
       rw [hx] at HC
       have HC := Lib.hid HC
       have HL := Lib.hid (PR.out.eq Hp2.out h87'' mid d4 hx ⟨r1, r2⟩)
       have HX := Lib.hid hx; clear hx h87' h87''
       have hs4 : d4.size = n := by rw [r3]; exact hs3
       have HBn := Lib.hid r4
       clear r4 r3
       go_wp2_with (go_at_call 220; refine HC.out.mono ?_; rintro e w7 ⟨rfl, hw7⟩)
       go_roundg (y - mid)
       case measure => omega
       case rel => exact ⟨mid, y, R.lim, wb, wp, d4, rfl, rfl, rfl, rfl, rfl, r2, hy, Nat.le_refl _, by omega, by omega, hs4, HBn, Lib.hid hw7, Lib.hid (by rw [← HR.out, HL.out])⟩
       }
  }
  }
 }
set_option maxRecDepth 10000
set_option maxHeartbeats 800000
theorem sort_u {w wr : World} {blk off cap n : Nat} {d : Array Int} (h : SR w wr blk off d) (hn : d.size = n) (hsz : n < 4611686018427387904) :
    Calls Tryz.prog 162 #[.slice (some ⟨blk, off, none⟩) n cap] wr fun e w' => e = .returned (.tuple #[]) ∧ SR w w' blk off (Sort.sort ltInt d) := by
 have hl : bitsLen n < 4611686018427387904 := Nat.lt_of_le_of_lt ((bitsLen_le_iff n 62).2 (by omega)) (by decide)
 have HL := Lib.hid (len_u n hsz wr)
 have HP := pdq_u (cap := cap) hsz (n - 0 + 1) 0 n (bitsLen n) d wr (Nat.lt_succ_self _) h hn (Nat.zero_le _) (Nat.le_refl _) hl (.inl rfl)
 have e : pdq ltInt d 0 n (bitsLen n) true true = Sort.sort ltInt d := by unfold Sort.sort; rw [hn]
 rw [e] at HP
 have HP := Lib.hid HP
 clear h e
 generalize bitsLen n = k at *
 go_enter Tryz.func162, Tryz.ntmps162
 go_wp2_with fail
 refine HL.out.mono ?_
 rintro _ _ ⟨rfl, rfl⟩
 go_wp2_with fail
 refine HP.out.mono ?_
 rintro _ w1 ⟨rfl, h1⟩
 go_wp2
 go_end0
 exact ⟨rfl, h1⟩
theorem sort_row {w : World} {v : Value} {l : List Nat} (h : w.ownsRow 0 26 1 v l.length (l.map fun (x : Nat) => Value.int .u64 x)) (hv : v.ownBlock.isSome = true) (hbig : l.length < 4611686018427387904) :
    Calls Tryz.prog 162 #[v] w fun e w' => e = .returned (.tuple #[]) ∧ w'.ownsRow 0 26 1 v l.length ((l.mergeSort (fun x y => decide (x ≤ y))).map fun (x : Nat) => Value.int .u64 x) ∧ Fr v.ownBlock.toList w w' := by
 rcases h.2 with ⟨rfl, _⟩ | ⟨g, cap, cur, rfl, hg, hcur, hnc, hcm, hcs, htk⟩
 · cases hv
 {
 have hlen : (l.map fun (x : Nat) => (x : Int)).toArray.size = l.length := by simp
 have henc : encU (l.map fun (x : Nat) => (x : Int)).toArray = l.map fun (x : Nat) => Value.int .u64 x := by simp [encU, Function.comp_def]
 have hsr : SR w w g 0 (l.map fun (x : Nat) => (x : Int)).toArray := by {
 refine ⟨rfl, ⟨cur.toList.drop l.length, ?_, cur.toList, ?_, ?_⟩, Fr.refl _ _⟩
 {
 rw [henc, ← htk, Nat.mul_one, List.take_append_drop]
 unfold Blk; rw [hcur]
 }
 · unfold Blk; rw [hcur]
 · rw [hlen, List.length_drop]; simp; omega
 }
 {
 refine (sort_u (cap := cap) hsr hlen hbig).mono ?_
 rintro _ w' ⟨rfl, h1⟩
 refine ⟨rfl, ?_, h1.fr⟩
 obtain ⟨rest, b1, l0, b2, b3⟩ := h1.row
 have hso := sortInt (l.map fun (x : Nat) => (x : Int))
 have hms : (l.map fun (x : Nat) => (x : Int)).mergeSort (fun x y => decide (x ≤ y)) = (l.mergeSort (fun x y => decide (x ≤ y))).map fun (x : Nat) => (x : Int) := by {
 rw [List.map_mergeSort]
 intro a _ b _
 simp
 }
 have he : encU (Sort.sort ltInt (l.map fun (x : Nat) => (x : Int)).toArray) = (l.mergeSort (fun x y => decide (x ≤ y))).map fun (x : Nat) => Value.int .u64 x := by unfold encU; rw [hso, hms]; simp [Function.comp_def]
 rw [he] at b1
 have hl0 : l0 = cur.toList := by {
 have : Blk w g 26 cur.toList := by unfold Blk; rw [hcur]
 exact b2.eq this
 }
 have hms2 : (Sort.sort ltInt (l.map fun (x : Nat) => (x : Int)).toArray).size = l.length := by {
 have := congrArg List.length hso
 simpa using this
 }
 refine ⟨by simp, .inr ⟨g, cap, _, rfl, Nat.zero_le _, b1, hnc, hcm, ?_, ?_⟩⟩
 {
 rw [hl0, hms2] at b3
 simp at b3 ⊢
 omega
 }
 · rw [Nat.mul_one, List.take_append_of_le_length (by simp), List.take_of_length_le (by simp)]
 }
 }
end Go.Proofs.YtgmnemndjjmgkaaGreat
namespace Go.Proofs.YtgmnemndjjmgkaaGreat
open Go.RowKit
set_option maxRecDepth 10000
set_option maxHeartbeats 800000
def encId (l : List Nat) : List Value := l.map fun (x : Nat) => .int .u64 x
def sortN (l : List Nat) : List Nat := l.mergeSort (fun x y => decide (x ≤ y))
theorem sortN_len (l : List Nat) : (sortN l).length = l.length := by simp [sortN]
theorem made_ids (n : Nat) : madeCells (Value.int .u64 0).cells n = (fnRow n (idF (fun _ => 0))).toArray := by
 apply Array.ext
 · simp [madeCells, fnRow]
 {
 intro i h1 h2
 simp [madeCells, fnRow, idF, Value.cells, Nat.mod_one]
 }
theorem run_make0u (c : Nat) (w : World) (hn : c ≤ 1048576) : (Instr.makeSlice 48 (.int .i64 0) (.int .i64 c)).run Tryz.prog w = .ok (.slice (some ⟨w.heap.size, 0, none⟩) 0 c) (w.alloc (.cells (fnRow c (idF (fun _ => 0))).toArray 26)) := by
 obtain ⟨i0, hi, hz0, hz1, hz2⟩ := info_parts Tryz.info26
 have h := run_make (P := Tryz.prog) w 48 26 i0 (.int .u64 0) Tryz.underlying48 hi hz0 .i64 .i64 0 c (by omega) (by omega) (by rw [hz2]; omega) (by omega)
 rw [hz1] at h
 simp only [Int.toNat_natCast, Nat.mul_one] at h
 rw [made_ids] at h
 exact h
theorem table_list {w : World} {pt : Nat} {T : Tb} {l : List Nat} (h : TableAt w pt T l) :
    Calls Tryz.prog 115 #[ptr pt] w fun e w' => ∃ v, e = .returned v ∧ w'.ownsRow 0 26 1 v (usedL T.A).length (encId (sortN ((usedL T.A).map T.ids))) ∧ (∀ q, v.ownBlock = some q → w.heap.size ≤ q) ∧ Fr [] w w' := by
 have HT := Lib.hid h
 have hlt := h.lt
 obtain ⟨cpc, rst, pa, gc, n, vi, C, la, h1, h2, h3, h4, rfl, hnd, hM, hs, hT, hinj, hb64⟩ := h
 clear hT hinj hM hs h4 hnd
 have hok := h2.ok
 have hs := hok.hs
 have hb := hok.hb
 have c0 := h1.cell 0
 have c1 := h1.cell 1
 have c2 := h1.cell 2
 simp only [List.getElem?_cons_zero, List.getElem?_cons_succ] at c0 c1 c2
 have husd : T.A.used ≤ 65536 := by unfold Ar.used; omega
 have hmk := run_make0u T.A.used w (by omega)
 have hown0 := owns_made (w := w) (e := 26) (cs := fnRow T.A.used (idF fun _ => 0)) T.A.used (fnRow_len _ _) (by omega)
 have HO0 := Lib.hid hown0; clear hown0
 have HF0 : Hid (Fr [] w (w.alloc (.cells (fnRow T.A.used (idF fun _ => 0)).toArray 26))) := Lib.hid ((Fr.refl [] w).alloc _)
 have d1 : (w.alloc (.cells (fnRow T.A.used (idF fun _ => 0)).toArray 26)).cell? ⟨pt, 1, none⟩ = some (ptr pa) := HF0.out.cell c1 (by simp)
 have HLen := Lib.hid (arena_len h2)
 have HLi := Lib.hid (arena_list (h2.fr HF0.out (by simp)))
 have H3 := Lib.hid (And.intro h3 h1); clear h3 h1 h2
 have HLt := Lib.hid hlt; clear hlt
 have hul : (usedL T.A).length ≤ 65536 := by rw [usedL_len hok]; exact husd
 have hum : ∀ i (hi : i < (usedL T.A).length), (usedL T.A)[i] < T.A.begun := fun i hi => (mem_usedL.1 (List.getElem_mem hi)).1
 generalize usedL T.A = us at *
 go_enter Tryz.func115, Tryz.ntmps115
 go_wp2_with (first | (go_at_call 142; refine (table_valid pt _ c0).mono ?_; rintro e w' ⟨rfl, rfl⟩) | (go_at_call 96; refine HLen.out.mono ?_; rintro e w' ⟨rfl, rfl⟩) | (go_at_call 97; refine HLi.out.mono ?_; rintro e w2 ⟨vl, rfl, hownl, hql, hF2⟩; obtain ⟨al, cl, rfl⟩ := ownsRow_slice hownl))
 have HO0' := Lib.hid (ownsRow_same HO0.out (fun q hq => hF2.keep q (HO0.out.lt q hq).2 (by simp)))
 have HF2 := Lib.hid (HF0.out.trans' hF2)
 have hpl : ∀ q, (Value.slice al us.length cl).ownBlock = some q → w.heap.size + 1 ≤ q := fun q hq => by have := hql q hq; simpa using this
 have HQL := Lib.hid hpl; clear hpl hql
 have HOL := Lib.hid hownl; clear hownl hF2
 generalize w.alloc (.cells (fnRow T.A.used (idF fun _ => 0)).toArray 26) = w1 at *
 clear c0 c1 c2 hmk d1 HLen HLi HO0 HF0
 go_loopw [3, 21] (fun v si wr => ∃ i : Nat, i ≤ us.length ∧ si = .int .i64 i ∧ Hid (Fr [] w wr) ∧ Hid (wr.ownsRow 0 3 1 (.slice al us.length cl) us.length (encN us)) ∧ wr.ownsRow 0 26 1 v i (encId ((us.take i).map T.ids)) ∧
   Hid (v.ownBlock.isSome = true ∧ ∀ q, v.ownBlock = some q → w.heap.size ≤ q ∧ (Value.slice al us.length cl).ownBlock ≠ some q)) (fun _ si _ => us.length - (intOf si).toNat)
 case atStart =>
  refine ⟨0, Nat.zero_le _, rfl, HF2, HOL, by simpa [encId] using HO0'.out, Lib.hid ⟨rfl, fun q e => ?_⟩⟩
  simp only [Value.ownBlock, Option.some.injEq] at e
  refine ⟨by omega, fun e2 => ?_⟩
  have := HQL.out q e2
  omega
 case round =>
  clear HO0' HF2 HOL
  obtain ⟨i, hi, rfl, HF, HOL, hown, HQ⟩ := hrel
  obtain ⟨a8, c8, rfl⟩ := ownsRow_slice hown
  by_cases hlt : i < us.length
  {
  have hil : (i : Int) < us.length := by omega
  obtain ⟨gl, cl', e, _, hgl, hcl, _⟩ := ownsRow_at HOL.out hlt
  simp only [Value.slice.injEq, true_and] at e
  obtain ⟨rfl, rfl⟩ := e
  have hx : (encN us)[i]? = some (.int .i64 (us[i] : Nat)) := by simp [encN, hlt]
  rw [hx] at hcl
  have hxb := hum i hlt
  obtain ⟨gi, ci, e, _, hgi, hci, _⟩ := ownsRow_at H3.out.1 hxb
  subst e
  rw [fnRow_at hxb] at hci
  simp only [idF] at hci
  have c2 := (HF.out.blk H3.out.2 (by simp)).cell 2
  simp only [List.getElem?_cons_zero, List.getElem?_cons_succ] at c2
  have hci' := HF.out.cell hci (by simp)
  have Htk := Lib.hid (show (us.take (i + 1)).map T.ids = (us.take i).map T.ids ++ [T.ids us[i]] by rw [List.take_add_one, List.getElem?_eq_getElem hlt, List.map_append]; rfl)
  clear hx hci
  generalize us[i] = x at *
  have hxi : (x : Int) < T.A.begun := by omega
  have hx0 : (0 : Int) ≤ x := by omega
  generalize T.A.begun = bg at *
  generalize T.ids x = y at *
  go_wp2_with (at_builtin; refine wpList_app1 rfl _ _ 48 rfl 26 (.int .u64 0) 8 Tryz.underlying48 Tryz.info26 rfl (.slice a8 i c8) i _ rfl (hown.alloc _) wr.heap.size (.int .u64 y) rfl (cell_new1 _ _ _ _ rfl) rfl (by omega) (by decide) ?_; intro g' cap' w4 hown4 hgrow4 hg4; have hF4 : Fr (Value.slice a8 i c8).ownBlock.toList wr w4 := ((Fr.refl _ _).alloc _).grown hgrow4 (fun q e => .inl (by simp [e])))
  go_roundw
  case rel =>
   have hs4 := HF.out.size
   simp only [World.size_alloc] at hg4
   refine ⟨i + 1, by omega, by go_num, Lib.hid (HF.out.trans hF4 (fun q hq => .inr (HQ.out.2 q (by simpa using hq)).1)), Lib.hid (ownsRow_same HOL.out (fun q hq => hF4.keep q (HOL.out.lt q hq).2 (fun hm => (HQ.out.2 q (by simpa using hm)).2 hq))), ?_, Lib.hid ⟨rfl, fun q e => ?_⟩⟩
   {
   rw [Htk.out]
   have : ∀ (l : List Nat) (y : Nat), encId (l ++ [y]) = encId l ++ [.int .u64 y] := fun l y => by simp [encId]
   rw [this]; exact hown4
   }
   {
   simp only [Value.ownBlock, Option.some.injEq] at e
   subst e
   rcases hg4 with e | e
   · exact HQ.out.2 _ e
   {
   refine ⟨by omega, fun e2 => ?_⟩
   have := (HOL.out.lt _ e2).2
   omega
   }
   }
  case measure => simp [intOf]; omega
  }
  {
  obtain rfl : i = us.length := by omega
  rw [List.take_of_length_le (Nat.le_refl _)] at hown
  have hlm : (us.map T.ids).length = us.length := by simp
  have hsr := sort_row (v := .slice a8 us.length c8) (l := us.map T.ids) (by rw [hlm]; exact hown) HQ.out.1 (by rw [hlm]; omega)
  rw [hlm] at hsr
  have HSr := Lib.hid hsr; clear hsr hown
  go_wp2_with fail
  refine HSr.out.mono ?_
  rintro _ w5 ⟨rfl, hown5, hF5⟩
  have H5 := Lib.hid (And.intro hown5 hF5); clear hown5 hF5
  go_wp2
  go_ret
  exact ⟨_, rfl, H5.out.1, fun q hq => (HQ.out.2 q hq).1, HF.out.trans H5.out.2 (fun q hq => .inr (HQ.out.2 q (by simpa using hq)).1)⟩
  }
def Tryz.laysCloneU_ren : Go.Shelf.Ren := ⟨fun | 41 => 148 | n => n, fun | 22 => 48 | 23 => 26 | 4 => 4 | n => n, fun | n => n⟩
theorem Tryz.laysCloneU : Go.Proofs.SlLaysE0.n41 Tryz.prog Tryz.laysCloneU_ren := {
  mixed := by kernel_rfl
  f41 := ⟨Tryz.f148.name, by decide, Tryz.func148.trans (congrArg some (by kernel_rfl))⟩
  t4 := Tryz.underlying4
  a4 := Tryz.isAgg4
  z4 := Tryz.sizeOf4
  v4 := Tryz.zeroValue4
  t22 := Tryz.underlying48
  a22 := Tryz.isAgg48
  z22 := Tryz.sizeOf48
  v22 := Tryz.zeroValue48 }
def Tryz.laysCloneI_ren : Go.Shelf.Ren := ⟨fun | 41 => 105 | n => n, fun | 22 => 94 | 23 => 3 | 4 => 4 | n => n, fun | n => n⟩
theorem Tryz.laysCloneI : Go.Proofs.SlLaysE0.n41 Tryz.prog Tryz.laysCloneI_ren := {
  mixed := by kernel_rfl
  f41 := ⟨Tryz.f105.name, by decide, Tryz.func105.trans (congrArg some (by kernel_rfl))⟩
  t4 := Tryz.underlying4
  a4 := Tryz.isAgg4
  z4 := Tryz.sizeOf4
  v4 := Tryz.zeroValue4
  t22 := Tryz.underlying94
  a22 := Tryz.isAgg94
  z22 := Tryz.sizeOf94
  v22 := Tryz.zeroValue94 }
theorem ownsRow_to0 {w : World} {base : Nat} {e : TypeId} {size : Nat} {v : Value} {n : Nat} {xs : List Value} (h : w.ownsRow base e size v n xs) : w.ownsRow 0 e size v n xs :=
  ⟨h.1, h.2.elim .inl (fun ⟨g, cap, cur, k1, _, k3⟩ => .inr ⟨g, cap, cur, k1, Nat.zero_le _, k3⟩)⟩
theorem ownsRow_new {w : World} {base : Nat} {e : TypeId} {size : Nat} {v : Value} {n : Nat} {xs : List Value} (h : w.ownsRow base e size v n xs) : ∀ q, v.ownBlock = some q → base ≤ q := by
 intro q hq
 rcases h.2 with ⟨rfl, _⟩ | ⟨g, cap, cur, rfl, hb, _⟩
 · cases hq
 · simp [Value.ownBlock] at hq; omega
theorem clone_ids {w : World} {v : Value} {n : Nat} {f : Nat → Nat} (h : w.ownsRow 0 26 1 v n (fnRow n (idF f))) (hn : n ≤ 65536) :
    Calls Tryz.prog 148 #[v] w fun e w' => ∃ v', e = .returned v' ∧ w'.ownsRow 0 26 1 v' n (fnRow n (idF f)) ∧ (∀ q, v'.ownBlock = some q → w.heap.size ≤ q) ∧ Fr [] w w' := by
 obtain ⟨i0, hi, hz0, hz1, hz2⟩ := info_parts Tryz.info26
 rcases h.2 with ⟨rfl, rfl⟩ | ⟨g, cap, cur, rfl, hg, hcur, hnc, hcm, hcs, htk⟩
 {
 refine (AnyE.slices_Clone_nil Tryz.laysCloneU 0 0 w).mono ?_
 rintro _ _ ⟨rfl, rfl⟩
 exact ⟨_, rfl, h, fun q e => (by cases e), Fr.refl _ _⟩
 }
 {
 refine (AnyE.slices_Clone Tryz.laysCloneU i0 (.int .u64 0) 1 8 hi hz0 hz1 hz2 rfl (by decide) Tryz.sizeOf26 g 0 n cap (fnRow n (idF f)) w (by rw [fnRow_len]; omega) (by unfold maxLen; omega) (by omega) (fun j u hj => ?_) (fun u hu => ?_)).mono ?_
 · rw [Nat.zero_add, h.cellAt j (by have := (List.getElem?_eq_some_iff.1 hj).1; rw [fnRow_len] at this; omega)]; exact hj
 {
 simp only [fnRow, List.mem_map] at hu
 obtain ⟨k, _, rfl⟩ := hu; rfl
 }
 {
 rintro _ w' ⟨v', rfl, h1, _, hB⟩
 exact ⟨v', rfl, ownsRow_to0 h1, ownsRow_new h1, Fr.of_below hB⟩
 }
 }
theorem clone_cells {w : World} {g n cap : Nat} {C : Nat → Nat} {rst : List Value} (h : Blk w g 3 (clRow n C rst)) (h0 : 0 < n) (hn : n ≤ 131072) :
    Calls Tryz.prog 105 #[.slice (some ⟨g, 0, none⟩) n cap] w fun e w' => ∃ g' cap' rst', e = .returned (.slice (some ⟨g', 0, none⟩) n cap') ∧ Blk w' g' 3 (clRow n C rst') ∧ w.heap.size ≤ g' ∧ Fr [] w w' := by
 obtain ⟨i0, hi, hz0, hz1, hz2⟩ := info_parts Tryz.info3
 refine (AnyE.slices_Clone Tryz.laysCloneI i0 (.int .i64 0) 1 8 hi hz0 hz1 hz2 rfl (by decide) Tryz.sizeOf3 g 0 n cap (fnRow n (cellF C)) w (by rw [fnRow_len]; omega) (by unfold maxLen; omega) (by omega) (fun j u hj => ?_) (fun u hu => ?_)).mono ?_
 {
 have hjl : j < n := by have := (List.getElem?_eq_some_iff.1 hj).1; rwa [fnRow_len] at this
 rw [Nat.zero_add, h.cell, clRow_at hjl, ← hj, fnRow_at hjl]
 }
 {
 simp only [fnRow, List.mem_map] at hu
 obtain ⟨k, _, rfl⟩ := hu; rfl
 }
 {
 rintro _ w' ⟨v', rfl, h1, _, hB⟩
 rcases h1.2 with ⟨_, hz⟩ | ⟨g', cap', cur, rfl, hg', hcur, hnc, hcm, hcs, htk⟩
 · omega
 {
 refine ⟨g', cap', cur.toList.drop n, rfl, ?_, hg', Fr.of_below hB⟩
 unfold clRow
 rw [← htk, Nat.mul_one, List.take_append_drop]
 unfold Blk; rw [Array.toArray_toList]; exact hcur
 }
 }
theorem table_copy {w : World} {pt : Nat} {T : Tb} {l : List Nat} (h : TableAt w pt T l) :
    Calls Tryz.prog 102 #[ptr pt] w fun e w' => ∃ pt', e = .returned (ptr pt') ∧ ∃ l', TableAt w' pt' T l' ∧ Fr [] w w' ∧ ∀ b ∈ l', w.heap.size ≤ b := by
 obtain ⟨cpc, rst, pa, gc, n, vi, C, la, h1, h2, h3, h4, rfl, hnd, hM, hs, hT, hinj, hb64⟩ := h
 have hok := h2.ok
 have hs1 := hok.hs
 have hs2 := hok.hb
 have hn := hM.pos
 have hn2 := hM.le
 have c0 := h1.cell 0
 have c1 := h1.cell 1
 have c2 := h1.cell 2
 have c3 := h1.cell 3
 simp only [List.getElem?_cons_zero, List.getElem?_cons_succ] at c0 c1 c2 c3
 have HR := Lib.hid (And.intro hnd (And.intro hM (And.intro hs (And.intro hT (And.intro hinj hb64))))); clear hnd hM hs hT hinj hb64
 have HA := Lib.hid (arena_copy (h2.same (w' := w.drew) (fun _ _ => rfl)))
 have HI := Lib.hid (fun (w' : World) (hf : Fr [] w w') => clone_ids (ownsRow_same (w' := w') h3 (fun k hk => hf.keep k (h3.lt k hk).2 (by simp))) (by omega))
 have HC := Lib.hid (fun (w' : World) (hf : Fr [] w w') => clone_cells (cap := cpc) (hf.blk h4 (by simp)) (by omega) (by omega))
 have hF0 : Fr [] w w.drew := (Fr.refl [] w).drew
 go_enter Tryz.func102, Tryz.ntmps102
 go_wp2_with (go_at_call 142; refine (table_valid pt _ c0).mono ?_; rintro e w' ⟨rfl, rfl⟩)
 go_region_held3 (fun w' => w'.cell? ⟨pt, 1, none⟩ = some (ptr pa) ∧ w'.cell? ⟨pt, 2, none⟩ = some vi ∧ w'.cell? ⟨pt, 3, none⟩ = some (.slice (some ⟨gc, 0, none⟩) n cpc))
   (first
     | go_keep
     | (exact ⟨hF3.cell c1 (by simp), hF3.cell c2 (by simp), hF3.cell c3 (by simp)⟩)
     | (exact ⟨hF4.cell c1 (by simp), hF4.cell c2 (by simp), hF4.cell c3 (by simp)⟩)
     | (exact ⟨hF5.cell c1 (by simp), hF5.cell c2 (by simp), hF5.cell c3 (by simp)⟩)
     | (exact ⟨(hF5.alloc _).cell c1 (by simp), (hF5.alloc _).cell c2 (by simp), (hF5.alloc _).cell c3 (by simp)⟩))
   (first
     | (go_at_call 101; refine HA.out.mono ?_; rintro e w3 ⟨pa', rfl, la', hA3, hF3, hl3⟩; have hla3 := hA3.lt; replace hF3 := hF0.trans' hF3)
     | (go_at_call 148; refine (HI.out _ hF3).mono ?_; rintro e w4 ⟨vi', rfl, hI4, hq4, hF4⟩; replace hA3 := hA3.fr hF4 (by simp); have hsz4 := hF3.size; have hF34 := hF4; replace hF4 := hF3.trans' hF4; obtain ⟨ai, ci, rfl⟩ := ownsRow_slice hI4; have hil4 := fun q hq => (hI4.lt q hq).2)
     | (go_at_call 105; refine (HC.out _ hF4).mono ?_; rintro e w5 ⟨gc', cpc', rst', rfl, hC5, hg5, hF5⟩; replace hA3 := hA3.fr hF5 (by simp); replace hI4 := ownsRow_same (w' := w5) hI4 (fun k hk => hF5.keep k (hI4.lt k hk).2 (by simp)); have hsz5 := hF4.size; replace hF5 := hF4.trans' hF5))
 have hb0 := Blk.new w5 [ptr w5.heap.size, ptr pa', .slice ai T.A.begun ci, .slice (some ⟨gc', 0, none⟩) n cpc'] 204
 have H5 := Lib.hid (And.intro hA3 (And.intro hI4 (And.intro hC5 hF5))); clear hA3 hI4 hC5
 have Hb1 := Lib.hid hb0; clear hb0
 have hq4' : ∀ q, (Value.slice ai T.A.begun ci).ownBlock = some q → w3.heap.size ≤ q := hq4
 have hl3' : ∀ b ∈ la', w.heap.size ≤ b := fun b hb => by have := hl3 b hb; simpa using this
 have hlt3 := H5.out.1.lt
 go_wp2
 go_ret
 have hFz : Fr [] w5 (w5.alloc (.cells #[ptr w5.heap.size, ptr pa', .slice ai T.A.begun ci, .slice (some ⟨gc', 0, none⟩) n cpc'] 204)) := (Fr.refl _ _).alloc _
 have hila : ∀ q, (Value.slice ai T.A.begun ci).ownBlock = some q → q < w5.heap.size := fun q hq => (H5.out.2.1.lt q hq).2
 have hgl := H5.out.2.2.1.lt
 obtain ⟨hnd, hM, hs, hT, hinj, hb64⟩ := HR.out
 refine ⟨w5.heap.size, rfl, w5.heap.size :: gc' :: ((Value.slice ai T.A.begun ci).ownBlock.toList ++ la'), ⟨cpc', rst', pa', gc', n, .slice ai T.A.begun ci, C, la', Hb1.out, H5.out.1.fr hFz (by simp), ownsRow_same H5.out.2.1 (fun k hk => hFz.keep k (H5.out.2.1.lt k hk).2 (by simp)), hFz.blk H5.out.2.2.1 (by simp), rfl, ?_, hM, hs, hT, hinj, hb64⟩, H5.out.2.2.2.trans' hFz, ?_⟩
 {
 have hlan : la'.Nodup := by obtain ⟨_, _, _, _, _, _, _, _, hq, _⟩ := H5.out.1; exact hq
 rw [List.nodup_cons, List.nodup_cons, List.nodup_append]
 refine ⟨?_, ?_, by cases (Value.slice ai T.A.begun ci).ownBlock <;> simp, hlan, ?_⟩
 {
 simp only [List.mem_cons, List.mem_append, Option.mem_toList, not_or]
 exact ⟨by omega, fun e => by have := hila _ e; omega, fun hm => by have := hlt3 _ hm; omega⟩
 }
 {
 simp only [List.mem_append, Option.mem_toList, not_or]
 refine ⟨fun e => by have := hil4 _ e; omega, fun hm => ?_⟩
 have := hla3 _ hm
 have := hF34.size
 omega
 }
 {
 intro x hx y hy e
 subst e
 have h1 := hq4' x (by simpa using hx)
 have h2 := hla3 x hy
 omega
 }
 }
 {
 intro b hb
 simp only [List.mem_cons, List.mem_append, Option.mem_toList] at hb
 have := H5.out.2.2.2.size
 rcases hb with rfl | rfl | hb | hb
 · omega
 · omega
 · have := hq4' b hb; omega
 · exact hl3' b hb
 }
end Go.Proofs.YtgmnemndjjmgkaaGreat
namespace Go.Proofs.YtgmnemndjjmgkaaGreat
open Go.RowKit
section
variable {P : Program} {ops : Array Oper} {md : Region.Mode} (G : Nat → Sem Go.Next → Value → Prop)
def gOp (ops : Array Oper) (i : Nat) (K : Act → Prop) (a : Act) : Prop :=
  match ops[i]? with
  | none => K a
  | some o => if Region.wanted o (yielded ops a.tmps) then ∃ v, G i (execOp a.eval o) v ∧ K (a.put o.dst v) else K (a.put o.dst undef)
def gWalk (ops : Array Oper) (Q : Act → Prop) : Nat → List Oper → Act → Prop
  | _, [], a => Q a
  | k, o :: rest, a => if Region.wanted o (yielded ops a.tmps) then ∃ v, G k (execOp a.eval o) v ∧ gWalk ops Q (k + 1) rest (a.put o.dst v) else gWalk ops Q (k + 1) rest (a.put o.dst undef)
def gAny (md : Region.Mode) (ops : Array Oper) (Q : Act → Prop) : Nat → Array Bool → Act → Prop
  | 0, listed, a => Region.ready md ops listed = [] ∧ Q a
  | fuel + 1, listed, a =>
    (Region.ready md ops listed = [] → Q a) ∧ ∀ i ∈ Region.ready md ops listed, gOp G ops i (gAny md ops Q fuel (listed.setIfInBounds i true)) a
variable {G}
def gYields (G : Nat → Sem Go.Next → Value → Prop) (ops : Array Oper) (i : Nat) (o : Oper) (v : Value) (a : Act) : Prop :=
  (Region.wanted o (yielded ops a.tmps) = true ∧ G i (execOp a.eval o) v) ∨ (Region.wanted o (yielded ops a.tmps) = false ∧ v = undef)
theorem gYields.op {i : Nat} {o : Oper} {v : Value} {a : Act} (hi : ops[i]? = some o) (hy : gYields G ops i o v a) {K : Act → Prop} (h : K (a.put o.dst v)) : gOp G ops i K a := by
 unfold gOp
 simp only [hi]
 rcases hy with ⟨hw, hv⟩ | ⟨hw, rfl⟩
 · rw [if_pos hw]; exact ⟨v, hv, h⟩
 · rw [if_neg (by simp [hw])]; exact h
theorem gYields.same {i : Nat} {o : Oper} {v : Value} {a a' : Act} (hy : gYields G ops i o v a) (he : execOp a'.eval o = execOp a.eval o)
    (hw : Region.wanted o (yielded ops a'.tmps) = Region.wanted o (yielded ops a.tmps)) : gYields G ops i o v a' := by
 unfold gYields at *; rw [he, hw]; exact hy
theorem gOp_mono {i : Nat} {a : Act} {K K' : Act → Prop} (h : ∀ a, K a → K' a) (hh : gOp G ops i K a) : gOp G ops i K' a := by
 unfold gOp at *
 cases ho : ops[i]? with
 | none => simp only [ho] at hh ⊢; exact h _ hh
 | some o => {
 simp only [ho] at hh ⊢
 by_cases hw : Region.wanted o (yielded ops a.tmps) = true
 · rw [if_pos hw] at *; obtain ⟨v, h1, h2⟩ := hh; exact ⟨v, h1, h _ h2⟩
 · rw [if_neg hw] at *; exact h _ hh
 }
theorem gYields_of_op {i : Nat} {o : Oper} {a : Act} {K : Act → Prop} (hi : ops[i]? = some o) (h : gOp G ops i K a) : ∃ v, gYields G ops i o v a ∧ K (a.put o.dst v) := by
 unfold gOp at h
 simp only [hi] at h
 by_cases hw : Region.wanted o (yielded ops a.tmps) = true
 {
 rw [if_pos hw] at h
 obtain ⟨v, h1, h2⟩ := h
 exact ⟨v, .inl ⟨hw, h1⟩, h2⟩
 }
 {
 rw [if_neg hw] at h
 exact ⟨undef, .inr ⟨by simpa using hw, rfl⟩, h⟩
 }
theorem gOp_put {i j : Nat} {oi oj : Oper} {v : Value} (hj : ops[j]? = some oj) (hap : oi.apart ops oj = true)
    (hsi : ∀ cs b, oi.op ≠ .select cs b) (hsj : ∀ cs b, oj.op ≠ .select cs b) {K : Act → Prop} {a : Act}
    (hy : gYields G ops i oi v a) (h : gOp G ops j K (a.put oi.dst v)) :
    gOp G ops j (fun a' => gYields G ops i oi v a' ∧ K (a'.put oi.dst v)) a := by
 obtain ⟨h1, h2, h3⟩ := Oper.apart_spec hap
 have keep : ∀ (a : Act), gYields G ops i oi v a → ∀ u, gYields G ops i oi v (a.put oj.dst u) := fun a hy u =>
   hy.same (execOp_put oi hsi a oj.dst u h3) (wanted_put oi a oj.dst u h3)
 unfold gOp at *
 simp only [hj] at *
 rw [wanted_put oj a oi.dst v h1] at h
 by_cases hw : Region.wanted oj (yielded ops a.tmps) = true
 {
 rw [if_pos hw] at *
 obtain ⟨u, hu, hn⟩ := h
 rw [execOp_put oj hsj a oi.dst v h1] at hu
 exact ⟨u, hu, keep a hy u, by rw [← Act.put_comm a v u h2]; exact hn⟩
 }
 {
 rw [if_neg hw] at *
 exact ⟨keep a hy _, by rw [← Act.put_comm a v undef h2]; exact h⟩
 }
theorem gAny_first {Q : Act → Prop} {i : Nat} {oi : Oper} {v : Value} (hi : ops[i]? = some oi) (hsel : ∀ (j : Nat) (o : Oper) cs b, ops[j]? = some o → o.op ≠ .select cs b) :
    ∀ (fuel : Nat) (listed : Array Bool) (a : Act),
      (∀ j oj, ops[j]? = some oj → j ≠ i → listed.getD j true = false → (∀ e ∈ oj.after, Region.binds md e = true → e.on ≠ i) → oi.apart ops oj = true) →
      i ∈ Region.ready md ops listed → gYields G ops i oi v a →
      gAny G md ops Q fuel (listed.setIfInBounds i true) (a.put oi.dst v) → gAny G md ops Q (fuel + 1) listed a := by
  intro fuel
  induction fuel with
  | zero =>
    intro listed a _ hr hy H
    refine ⟨fun h => (by rw [h] at hr; cases hr), fun j hj => ?_⟩
    by_cases hji : j = i
    · subst hji; exact hy.op hi H
    · have := ready_mono hj hji
      rw [H.1] at this
      cases this
  | succ fuel ih =>
    intro listed a hfree hr hy H
    refine ⟨fun h => (by rw [h] at hr; cases hr), fun j hj => ?_⟩
    by_cases hji : j = i
    · subst hji; exact hy.op hi H
    · have h1 := H.2 j (ready_mono hj hji)
      obtain ⟨hjun, oj, hoj, hall⟩ := mem_ready.1 hj
      have hnot : ∀ e ∈ oj.after, Region.binds md e = true → e.on ≠ i := fun e he hb heq => by
        have h1 := hall e he hb
        have h0 := (mem_ready.1 hr).1
        rw [heq] at h1
        rcases Nat.lt_or_ge i listed.size with h' | h'
        · simp [h'] at h0 h1; rw [h0] at h1; cases h1
        · simp [Array.getElem?_eq_none h'] at h1
      have h2 := gOp_put hoj (hfree j oj hoj hji hjun hnot) (fun cs b => hsel i oi cs b hi) (fun cs b => hsel j oj cs b hoj) hy h1
      have hfree' : ∀ k ok, ops[k]? = some ok → k ≠ i → (listed.setIfInBounds j true).getD k true = false →
          (∀ e ∈ ok.after, Region.binds md e = true → e.on ≠ i) → oi.apart ops ok = true := fun k ok hk hki hun hno => by
        refine hfree k ok hk hki ?_ hno
        by_cases hjk : j = k
        · subst hjk; exact hjun
        · rw [getD_set_ne true hjk] at hun; exact hun
      refine gOp_mono (fun a' h3 => ih (listed.setIfInBounds j true) a' hfree' (ready_mono hr (Ne.symm hji)) h3.1 ?_) h2
      rw [Array.setIfInBounds_comm _ _ hji]
      exact h3.2
theorem gAny_lex {Q : Act → Prop} (hs : Region.noSelect ops = true) : ∀ (l : List Oper) (k : Nat) (listed : Array Bool) (a : Act), (∀ j, l[j]? = ops[k + j]?) →
    Region.lexFrom md ops l.length k listed = true → gWalk G ops Q k l a → gAny G md ops Q l.length listed a
  | [], _, _, _, _, hB, h => ⟨by simpa [Region.lexFrom] using hB, h⟩
  | o :: l, k, listed, a, hl, hB, h => by
    have h0 : ops[k]? = some o := by simpa using (hl 0).symm
    simp only [List.length_cons, Region.lexFrom, Bool.and_eq_true] at hB
    obtain ⟨⟨hr, hf⟩, hB'⟩ := hB
    have hst : gOp G ops k (gWalk G ops Q (k + 1) l) a := by unfold gOp; simp only [h0]; exact h
    obtain ⟨v, hy, hK⟩ := gYields_of_op h0 hst
    exact gAny_first h0 (Region.noSelect_spec hs) l.length listed a (Region.free_spec h0 hf) (by simpa using hr) hy
      (gAny_lex hs l (k + 1) _ _ (fun j => by have := hl (j + 1); simpa [Nat.add_assoc, Nat.add_comm 1 j] using this) hB' hK)
end
def writeUpon (P : Program) (C1 : World → Prop) (v : Value) : Result Go.Next → Prop
  | .ok (.value u) w' => u = v ∧ C1 w'
  | .ok .skip w' => v = undef ∧ C1 w'
  | .ok (.enter f args) w' => Calls P f args w' (fun e w'' => e = .returned v ∧ C1 w'')
  | _ => False
def pureUpon (w : World) (v : Value) : Result Go.Next → Prop
  | .ok (.value u) w' => w' = w ∧ u = v
  | .ok .skip w' => w' = w ∧ v = undef
  | _ => False
def oneG (P : Program) (c : Nat) (C0 C1 : World → Prop) (i : Nat) (s : Sem Go.Next) (v : Value) : Prop :=
  if i < c then ∀ w, C0 w → Oper.quietUpon P C0 w v (s.run P w) else if i = c then ∀ w, C0 w → writeUpon P C1 v (s.run P w) else ∀ w, pureUpon w v (s.run P w)
theorem quiet_upon {P : Program} {o : Oper} {a : Act} {v : Value} {C : World → Prop} {w : World} {K' : Act → World → Prop} {Q' : Exit → Act → World → Prop} (hw : C w) (h : ∀ w', C w' → K' (a.put o.dst v) w')
    {r : Result Go.Next} (h3 : Oper.quietUpon P C w v r) : o.upon P a K' Q' r := by
 cases r with
 | halt x w' => exact h3.elim
 | ok x w' => {
 cases x with
 | value u => obtain ⟨rfl, rfl⟩ := h3; exact h _ hw
 | skip => obtain ⟨rfl, rfl⟩ := h3; exact h _ hw
 | enter f args => {
 obtain ⟨rfl, hc⟩ := h3
 exact hc.mono fun e w'' ⟨he, hw''⟩ => by subst he; exact h _ hw''
 }
 | _ => exact h3.elim
 }
theorem write_upon {P : Program} {o : Oper} {a : Act} {v : Value} {C : World → Prop} {K' : Act → World → Prop} {Q' : Exit → Act → World → Prop} (h : ∀ w', C w' → K' (a.put o.dst v) w')
    {r : Result Go.Next} (h3 : writeUpon P C v r) : o.upon P a K' Q' r := by
 cases r with
 | halt x w' => exact h3.elim
 | ok x w' => {
 cases x with
 | value u => obtain ⟨rfl, hc⟩ := h3; exact h _ hc
 | skip => obtain ⟨rfl, hc⟩ := h3; exact h _ hc
 | enter f args => exact Calls.mono h3 fun e w'' ⟨he, hw''⟩ => by subst he; exact h _ hw''
 | _ => exact h3.elim
 }
theorem pure_upon {P : Program} {o : Oper} {a : Act} {v : Value} {w : World} {K' : Act → World → Prop} {Q' : Exit → Act → World → Prop} (h : K' (a.put o.dst v) w)
    {r : Result Go.Next} (h3 : pureUpon w v r) : o.upon P a K' Q' r := by
 cases r with
 | halt x w' => exact h3.elim
 | ok x w' => {
 cases x with
 | value u => obtain ⟨rfl, rfl⟩ := h3; exact h
 | skip => obtain ⟨rfl, rfl⟩ := h3; exact h
 | _ => exact h3.elim
 }
section
variable {P : Program} {ops : Array Oper} {md : Region.Mode} {C0 C1 : World → Prop} {c : Nat}
theorem rep_false (m j : Nat) : (Array.replicate m false).getD j false = false := by
 by_cases h : j < m <;> simp [h]
def marks (md : Region.Mode) (ops : Array Oper) : Nat → Array Bool → Array Bool
  | 0, S => S
  | j + 1, S => marks md ops j (if S.getD j false then (match ops[j]? with | some o => o.after.toList.foldl (fun S e => if Region.binds md e then S.setIfInBounds e.on true else S) S | none => S) else S)
def allBefore (md : Region.Mode) (ops : Array Oper) (c : Nat) : Bool := (List.range c).all fun i => (marks md ops (c + 1) ((Array.replicate ops.size false).setIfInBounds c true)).getD i false
def Shut (md : Region.Mode) (ops : Array Oper) (L : Array Bool) : Prop := ∀ j oj, ops[j]? = some oj → L.getD j false = true → ∀ e ∈ oj.after, Region.binds md e = true → L.getD e.on false = true
theorem marks_sub {L : Array Bool} (hL : Shut md ops L) : ∀ (j : Nat) (S : Array Bool), (∀ i, S.getD i false = true → L.getD i false = true) → ∀ i, (marks md ops j S).getD i false = true → L.getD i false = true
  | 0, S, h => h
  | j + 1, S, h => by
    unfold marks
    refine marks_sub hL j _ ?_
    by_cases hj : S.getD j false = true
    · rw [if_pos hj]
      cases ho : ops[j]? with
      | none => exact h
      | some o =>
        have hcl := hL j o ho (h j hj)
        have key : ∀ (es : List Edge) (T : Array Bool), (∀ e ∈ es, e ∈ o.after.toList) → (∀ i, T.getD i false = true → L.getD i false = true) →
            ∀ i, (es.foldl (fun S e => if Region.binds md e then S.setIfInBounds e.on true else S) T).getD i false = true → L.getD i false = true := by
          intro es
          induction es with
          | nil => intro T _ hT; exact hT
          | cons e es ih =>
            intro T hes hT
            rw [List.foldl_cons]
            refine ih _ (fun e' he' => hes e' (List.mem_cons_of_mem _ he')) ?_
            by_cases hb : Region.binds md e = true
            · rw [if_pos hb]
              intro i hi
              by_cases hei : e.on = i
              · rw [← hei]; exact hcl e (by simpa using hes e (by simp)) hb
              · rw [getD_set_ne false hei] at hi; exact hT i hi
            · rw [if_neg hb]; exact hT
        exact key _ S (fun e he => he) h
    · rw [if_neg hj]; exact h
theorem before_listed {L : Array Bool} (hL : Shut md ops L) (hB : allBefore md ops c = true) (hc : L.getD c false = true) : ∀ i, i < c → L.getD i false = true := by
 intro i hi
 have h1 := List.all_eq_true.1 hB i (by simpa using hi)
 refine marks_sub hL (c + 1) _ ?_ i h1
 intro j hj
 by_cases e : c = j
 · rw [← e]; exact hc
 {
 rw [getD_set_ne false e, rep_false] at hj
 cases hj
 }
theorem Shut.set {L : Array Bool} {i : Nat} (h : Shut md ops L) (hi : i ∈ Region.ready md ops L) : Shut md ops (L.setIfInBounds i true) := by
 obtain ⟨_, oi, hoi, hall⟩ := mem_ready.1 hi
 intro j oj hj hl e he hb
 by_cases hij : i = j
 {
 subst hij
 have : oj = oi := Option.some.inj (hj.symm.trans hoi)
 subst this
 exact getD_set_true (hall e he hb)
 }
 {
 rw [getD_set_ne false hij] at hl
 exact getD_set_true (h j oj hj hl e he hb)
 }
def phase (c : Nat) (C0 C1 : World → Prop) (listed : Array Bool) (w : World) : Prop := if listed.getD c false = true then C1 w else C0 w
def edgesBack (md : Region.Mode) (ops : Array Oper) : Bool := (List.range ops.size).all fun j => match ops[j]? with
  | some o => o.after.all fun e => !Region.binds md e || decide (e.on < j)
  | none => true
theorem ready_nil {listed : Array Bool} (hs : listed.size = ops.size) (hb : edgesBack md ops = true) (h : Region.ready md ops listed = []) : ∀ j, j < ops.size → listed.getD j false = true := by
 intro j
 induction j using Nat.strongRecOn with
 | _ j ih => {
 intro hj
 apply Classical.byContradiction
 intro hno
 have hun : listed.getD j true = false := by simp [hs, hj] at hno ⊢; exact hno
 obtain ⟨o, ho⟩ : ∃ o, ops[j]? = some o := ⟨_, Array.getElem?_eq_getElem hj⟩
 have hin : j ∈ Region.ready md ops listed := by {
 refine mem_ready.2 ⟨hun, o, ho, fun e he hbe => ?_⟩
 have h1 := List.all_eq_true.1 hb j (by simpa using hj)
 simp only [ho] at h1
 have h2 := Array.all_eq_true'.1 h1 e he
 simp [hbe] at h2
 exact ih e.on h2 (by omega)
 }
 rw [h] at hin
 cases hin
 }
theorem any_of_gAny (hc : c < ops.size) (hb : edgesBack md ops = true) (hbf : allBefore md ops c = true) (hu : ∀ o, ops[c]? = some o → o.guard = none) {Q : Act → Prop} {Q' : Exit → Act → World → Prop} (hQ : ∀ a w, C1 w → Q a → Q' .normal a w) : ∀ (fuel : Nat) (listed : Array Bool) (a : Act) (w : World), listed.size = ops.size →
    Shut md ops listed → phase c C0 C1 listed w → gAny (oneG P c C0 C1) md ops Q fuel listed a → wpAny P md ops Q' fuel listed a w
  | 0, listed, a, w, hs, _, hp, h => ⟨h.1, hQ _ _ (by unfold phase at hp; rw [if_pos (ready_nil hs hb h.1 c hc)] at hp; exact hp) h.2⟩
  | fuel + 1, listed, a, w, hs, hsh, hp, h => by
    refine ⟨fun h0 => hQ _ _ (by unfold phase at hp; rw [if_pos (ready_nil hs hb h0 c hc)] at hp; exact hp) (h.1 h0), fun i hi => ?_⟩
    have hg := h.2 i hi
    obtain ⟨hun, oi, hoi, _⟩ := mem_ready.1 hi
    have hil : i < ops.size := (Array.getElem?_eq_some_iff.1 hoi).1
    have hs' : (listed.setIfInBounds i true).size = ops.size := by simp [hs]
    have hl0 : listed.getD i false = false := by
      simp [hs, hil] at hun ⊢; exact hun
    have next : ∀ a' w', phase c C0 C1 (listed.setIfInBounds i true) w' → gAny (oneG P c C0 C1) md ops Q fuel (listed.setIfInBounds i true) a' → wpAny P md ops Q' fuel (listed.setIfInBounds i true) a' w' :=
      fun a' w' hp' hg' => any_of_gAny hc hb hbf hu hQ fuel _ a' w' hs' (hsh.set hi) hp' hg'
    unfold gOp at hg
    unfold wpOp
    simp only [hoi] at hg ⊢
    by_cases hic : i = c
    · subst hic
      have hl1 : (listed.setIfInBounds i true).getD i false = true := by simp [hs, hil]
      unfold phase at hp
      rw [if_neg (by simp [hl0])] at hp
      have hw : Region.wanted oi (yielded ops a.tmps) = true := by simp [Region.wanted, hu oi hoi]
      rw [if_pos hw] at hg ⊢
      obtain ⟨v, hv, hk⟩ := hg
      unfold oneG at hv
      rw [if_neg (Nat.lt_irrefl _), if_pos rfl] at hv
      exact .inl (write_upon (fun w' hc' => next _ w' (by unfold phase; rw [if_pos hl1]; exact hc') hk) (hv w hp))
    · have hlc : (listed.setIfInBounds i true).getD c false = listed.getD c false := getD_set_ne false hic
      by_cases hw : Region.wanted oi (yielded ops a.tmps) = true
      · rw [if_pos hw] at hg ⊢
        obtain ⟨v, hv, hk⟩ := hg
        unfold oneG at hv
        left
        by_cases hlt : i < c
        · have hcl : ¬ listed.getD c false = true := fun hcl => by rw [before_listed hsh hbf hcl i hlt] at hl0; cases hl0
          rw [if_pos hlt] at hv
          unfold phase at hp
          rw [if_neg hcl] at hp
          exact quiet_upon hp (fun w' hc' => next _ w' (by unfold phase; rw [hlc, if_neg hcl]; exact hc') hk) (hv w hp)
        · rw [if_neg hlt, if_neg hic] at hv
          exact pure_upon (next _ w (by unfold phase at hp ⊢; rw [hlc]; exact hp) hk) (hv w)
      · rw [if_neg hw] at hg ⊢
        exact next _ w (by unfold phase at hp ⊢; rw [hlc]; exact hp) hg
theorem region_one (c : Nat) {id : Nat} {Q : Exit → Act → World → Prop} {a : Act} {w : World} {l : List Oper} (C1 : World → Prop) (hm : P.follows .mixedOrders = true) (hB : Region.lexB .any l.toArray = true)
    (hk : ((edgesBack .any l.toArray && allBefore .any l.toArray c) && match l[c]? with | some o => o.guard.isNone | none => false) = true)
    (h : gWalk (oneG P c (fun w' => ∃ n, w' = w.drewN n) C1) l.toArray (fun a' => ∀ w', C1 w' → Q .normal a' w') 0 l a) : (Code.region id l.toArray true).wp P Q a w := by
 simp only [Region.lexB, Bool.and_eq_true] at hB
 rw [Bool.and_eq_true, Bool.and_eq_true] at hk
 obtain ⟨⟨hk1, hk3⟩, hk2⟩ := hk
 have hcl : c < l.length := by {
 cases ho : l[c]? with
 | none => rw [ho] at hk2; cases hk2
 | some o => exact (List.getElem?_eq_some_iff.1 ho).1
 }
 have hg : ∀ o, l.toArray[c]? = some o → o.guard = none := by {
 intro o ho
 simp only [List.getElem?_toArray] at ho
 rw [ho] at hk2
 simpa using hk2
 }
 refine wp_region_any hm (any_of_gAny (Q := fun a' => ∀ w', C1 w' → Q .normal a' w') (C0 := fun w' => ∃ n, w' = w.drewN n) (C1 := C1) (c := c) (by simpa using hcl) hk1 hk3 hg (fun _ w' hw' h => h w' hw') _ _ _ _ (by simp) ?_ ?_ ?_)
 · intro j oj _ hl; rw [rep_false] at hl; cases hl
 {
 unfold phase
 rw [if_neg (by simp [hcl])]
 exact ⟨1, rfl⟩
 }
 {
 have := gAny_lex (G := oneG P c (fun w' => ∃ n, w' = w.drewN n) C1) (md := .any) hB.1 l 0 (Array.replicate l.toArray.size false) a (by simp) (by simpa using hB.2) h
 simpa using this
 }
theorem gWalk_pre {C0 C1 : World → Prop} {Q : Act → Prop} {k : Nat} {o : Oper} {rest : List Oper} {a : Act} (hk : k < c)
    (h : ∀ K : Act → Prop, (∀ a, gWalk (oneG P c C0 C1) ops Q (k + 1) rest a → K a) → if Region.wanted o (yielded ops a.tmps) then o.quiet P a C0 K else K (a.put o.dst undef)) : gWalk (oneG P c C0 C1) ops Q k (o :: rest) a := by
 have h := h _ (fun _ h => h)
 unfold gWalk
 by_cases hw : Region.wanted o (yielded ops a.tmps) = true
 {
 rw [if_pos hw] at *
 obtain ⟨v, h1, h2⟩ := h
 refine ⟨v, ?_, h2⟩
 unfold oneG; rw [if_pos hk]; exact h1
 }
 · rw [if_neg hw] at *; exact h
theorem gWalk_write {C0 C1 : World → Prop} {Q : Act → Prop} {o : Oper} {rest : List Oper} {a : Act} (hg : o.guard = none) (v : Value)
    (h0 : ∀ w, C0 w → writeUpon P C1 v ((execOp a.eval o).run P w)) (h : gWalk (oneG P c C0 C1) ops Q (c + 1) rest (a.put o.dst v)) : gWalk (oneG P c C0 C1) ops Q c (o :: rest) a := by
 unfold gWalk
 rw [if_pos (by simp [Region.wanted, hg])]
 refine ⟨v, ?_, h⟩
 unfold oneG
 rw [if_neg (Nat.lt_irrefl _), if_pos rfl]
 exact h0
def Oper.pure_ (P : Program) (o : Oper) (a : Act) (next : Act → Prop) : Prop := ∃ v, (∀ w, pureUpon w v ((execOp a.eval o).run P w)) ∧ next (a.put o.dst v)
theorem gWalk_post {C0 C1 : World → Prop} {Q : Act → Prop} {k : Nat} {o : Oper} {rest : List Oper} {a : Act} (hk : c < k)
    (h : ∀ K : Act → Prop, (∀ a, gWalk (oneG P c C0 C1) ops Q (k + 1) rest a → K a) → if Region.wanted o (yielded ops a.tmps) then Oper.pure_ P o a K else K (a.put o.dst undef)) : gWalk (oneG P c C0 C1) ops Q k (o :: rest) a := by
 have h := h _ (fun _ h => h)
 unfold gWalk
 by_cases hw : Region.wanted o (yielded ops a.tmps) = true
 {
 rw [if_pos hw] at *
 obtain ⟨v, h1, h2⟩ := h
 refine ⟨v, ?_, h2⟩
 unfold oneG; rw [if_neg (by omega), if_neg (by omega)]; exact h1
 }
 · rw [if_neg hw] at *; exact h
theorem gWalk_nil {C0 C1 : World → Prop} {Q : Act → Prop} {k : Nat} {a : Act} (h : Q a) : gWalk (oneG P c C0 C1) ops Q k [] a := h
attribute [go_sem] Oper.pure_ pureUpon writeUpon
end
end Go.Proofs.YtgmnemndjjmgkaaGreat
