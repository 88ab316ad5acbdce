/- slices.Sort at uint64. -/
import Derived.Sort.WalkA6
import Derived.Test.YtbegdgnhpklceaaGreatB8
import Derived.Sort.Walk13
import Derived.Sort.AssemblyPlain
import Derived.Deep.Cut
import Derived.Test.YtbegdgnhpklceaaGreatB9
set_option linter.unusedSimpArgs false
set_option linter.unusedVariables false
/- slices.Sort at uint64: partialInsertionSortOrdered. -/
namespace Go.Proofs.YtbegdgnhpklceaaGreat
open Go.RowKit Go.Sort
set_option maxRecDepth 10000
set_option maxHeartbeats 12800000

theorem pins_u {w wr : World} {blk off cap a b n : Nat} {d : Array Int} (h : SR w wr blk off d) (hn : d.size = n) (hab : a < b) (hb : b ≤ n) (hsz : n < 4611686018427387904) :
    Calls Tryz.prog 118 #[.slice (some ⟨blk, off, none⟩) n cap, .int .i64 a, .int .i64 b] wr fun e w' =>
      e = .returned (.bool (partialInsertionSort ltInt d a b).2) ∧ SR w w' blk off (partialInsertionSort ltInt d a b).1 := by
  have HS := Lib.hid h; clear h
  obtain ⟨res, hres⟩ : ∃ res, partialInsertionSort ltInt d a b = res := ⟨_, rfl⟩
  rw [hres]
  have HR0 : Hid (partialIns ltInt a b 5 (a + 1) d = res) := Lib.hid hres
  clear hres
  go_enter Tryz.func118, Tryz.ntmps118
  go_wp2
  go_loopw [7, 8] (fun vi vs wr => ∃ (i s : Nat) (dk : Array Int), vi = .int .i64 i ∧ vs = .int .i64 s ∧ s ≤ 5 ∧ a < i ∧ i ≤ b ∧ dk.size = n ∧ Hid (SR w wr blk off dk) ∧ Hid (partialIns ltInt a b (5 - s) i dk = res)) (fun _ vs _ => 5 - (intOf vs).toNat)
  case atStart => exact ⟨a + 1, 0, d, by go_num, rfl, by omega, by omega, by omega, hn, HS, HR0⟩
  case round =>
    clear HS HR0
    obtain ⟨i, s, dk, rfl, rfl, hs, hai, hib, hsk, HS, HP⟩ := hrel
    by_cases hs5 : s < 5
    · go_wp2
      go_loopw [7] (fun vk wr => ∃ (k : Nat), vk = .int .i64 k ∧ a < k ∧ k ≤ b ∧ Hid (SR w wr blk off dk) ∧ Hid (scanSorted ltInt dk b k = scanSorted ltInt dk b i)) (fun vk _ => b - (intOf vk).toNat)
      case atStart => exact ⟨i, rfl, by omega, by omega, HS, Lib.hid rfl⟩
      case round =>
        clear HS
        obtain ⟨k, rfl, hka, hkb, HS, HSc⟩ := hrel
        by_cases hk : k < b
        · obtain ⟨G, hG⟩ : ∃ G : Nat → Int, ∀ t, dk[t]! = G t := ⟨fun t => dk[t]!, fun _ => rfl⟩
          have HG := Lib.hid hG; clear hG
          obtain ⟨k0, hk0⟩ : ∃ k0 : Nat, k0 = k - 1 := ⟨_, rfl⟩
          have wk0 : IntKind.i64.wrap ((k : Int) - 1) = (k0 : Int) := wrapN (by omega) (by omega)
          have ek0 : (k : Int) - 1 = (k0 : Int) := by omega
          have nk : (k : Int) < n := by omega
          have nk0 : (k0 : Int) < n := by omega
          have nek : k ≠ k0 := by omega
          have nek0 : k0 ≠ k := by omega
          have ck : wr.cell? ⟨blk, off + k, none⟩ = some (.int .u64 (G k)) := by rw [HS.out.cell (by omega), HG.out]
          have ck0 : wr.cell? ⟨blk, off + k0, none⟩ = some (.int .u64 (G k0)) := by rw [HS.out.cell (by omega), HG.out]
          have fk : wr.frozen? ⟨blk, off + k, none⟩ = false := HS.out.frozen _
          have fk0 : wr.frozen? ⟨blk, off + k0, none⟩ = false := HS.out.frozen _
          have Hk0 := Lib.hid hk0; clear hk0
          cases hl : ltInt (G k) (G k0) with
          | false =>
            have HSc2 := Lib.hid (show scanSorted ltInt dk b (k + 1) = scanSorted ltInt dk b i by rw [← HSc.out, scanSorted_go ltInt dk b k hk (by rw [← Hk0.out, HG.out, HG.out]; exact hl)])
            go_wp2
            go_quiet (first | (go_at_call 119; refine Calls.quiet_of_same (less_is hl _)))
            go_wp2
            go_roundw
            case rel => exact ⟨k + 1, by go_num, by omega, by omega, Lib.hid (HS.out.drewN nq), HSc2⟩
            case measure => simp [intOf]; omega
          | true =>
            have HK := Lib.hid (show scanSorted ltInt dk b i = k by rw [← HSc.out, scanSorted_stop ltInt dk b k (.inr (by rw [← Hk0.out, HG.out, HG.out]; exact hl))])
            have hkb2 : ((k : Int) == (b : Int)) = false := beq_eq_false_iff_ne.2 (by omega)
            by_cases h50 : b - a < 50
            · have hd50 : decide ((b : Int) - a < 50) = true := decide_eq_true (by omega)
              have HRs := Lib.hid (pi_short ltInt a b s i dk hs5 (by rw [HK.out]; omega) h50)
              go_wp2
              go_quiet (first | (go_at_call 119; refine Calls.quiet_of_same (less_is hl _)))
              go_wp2
              go_ret
              exact ⟨by rw [← HP.out, HRs.out]; rfl, by rw [← HP.out, HRs.out]; exact HS.out.drewN nq⟩
            · have hd50 : decide ((b : Int) - a < 50) = false := decide_eq_false (by omega)
              by_cases hia : 2 ≤ k - a
              · by_cases hbi : 2 ≤ b - k
                · have hda : decide (2 ≤ (k : Int) - a) = true := decide_eq_true (by omega)
                  have hdb : decide (2 ≤ (b : Int) - k) = true := decide_eq_true (by omega)
                  have hsw : ∀ q, SR w (((wr.drewN q).setCell ⟨blk, off + k, none⟩ (.int .u64 (G k0))).setCell ⟨blk, off + k0, none⟩ (.int .u64 (G k))) blk off (swp dk k k0) := fun q => by
                    have := HS.out.swap q (i := k) (j := k0) (by omega) (by omega)
                    rw [HG.out, HG.out] at this
                    exact this
                  have HSw := Lib.hid hsw; clear hsw
                  go_wp2
                  go_quiet (first | (go_at_call 119; refine Calls.quiet_of_same (less_is hl _)))
                  go_wp2
                  go_region
                  all_goals go_wp2
                  have HS := Lib.hid (HSw.out (nq + 1))
                  generalize ((wr.drewN (nq + 1)).setCell ⟨blk, off + k, none⟩ (.int .u64 (G k0))).setCell ⟨blk, off + k0, none⟩ (.int .u64 (G k)) = wq at *
                  obtain ⟨d1, hd1⟩ : ∃ d1, d1 = swp dk k k0 := ⟨_, rfl⟩
                  have hs1 : d1.size = n := by rw [hd1, size_swp]; exact hsk
                  have H1 := Lib.hid (show swp dk k (k - 1) = d1 by rw [hd1, Hk0.out])
                  rw [← hd1] at HS
                  clear hd1 HSw ck ck0 fk fk0 hl hkb2
                  go_loopw [9] (fun vj wr => ∃ (j : Nat) (dj : Array Int), vj = .int .i64 j ∧ j < k ∧ dj.size = n ∧ Hid (SR w wr blk off dj) ∧ Hid (shiftDown ltInt j dj = shiftDown ltInt (k - 1) d1)) (fun vj _ => (intOf vj).toNat)
                  case atStart => exact ⟨k - 1, d1, by congr 1; omega, by omega, hs1, HS, Lib.hid rfl⟩
                  case round =>
                    clear HS
                    obtain ⟨j, dj, rfl, hj1, hsx, HS, HDn⟩ := hrel
                    by_cases hjb : 1 ≤ j
                    · obtain ⟨G, hG⟩ : ∃ G : Nat → Int, ∀ t, dj[t]! = G t := ⟨fun t => dj[t]!, fun _ => rfl⟩
                      have HG := Lib.hid hG; clear hG
                      obtain ⟨j0, hj0⟩ : ∃ j0 : Nat, j0 = j - 1 := ⟨_, rfl⟩
                      have wj0 : IntKind.i64.wrap ((j : Int) - 1) = (j0 : Int) := wrapN (by omega) (by omega)
                      have ej0 : (j : Int) - 1 = (j0 : Int) := by omega
                      have nj : (j : Int) < n := by omega
                      have nj0 : (j0 : Int) < n := by omega
                      have nej : j ≠ j0 := by omega
                      have nej0 : j0 ≠ j := by omega
                      have cj : wr.cell? ⟨blk, off + j, none⟩ = some (.int .u64 (G j)) := by rw [HS.out.cell (by omega), HG.out]
                      have cj0 : wr.cell? ⟨blk, off + j0, none⟩ = some (.int .u64 (G j0)) := by rw [HS.out.cell (by omega), HG.out]
                      have fj : wr.frozen? ⟨blk, off + j, none⟩ = false := HS.out.frozen _
                      have fj0 : wr.frozen? ⟨blk, off + j0, none⟩ = false := HS.out.frozen _
                      have Hj0 := Lib.hid hj0; clear hj0
                      cases hl : ltInt (G j) (G j0) with
                      | true =>
                        have HDn2 := Lib.hid (show shiftDown ltInt j0 (swp dj j j0) = shiftDown ltInt (k - 1) d1 by rw [← HDn.out, shiftDown_go ltInt j dj hjb (by rw [← Hj0.out, HG.out, HG.out]; exact hl), Hj0.out])
                        go_wp2
                        go_quiet (first | (go_at_call 119; refine Calls.quiet_of_same (less_is hl _)))
                        go_wp2
                        go_region
                        all_goals go_wp2
                        go_roundw
                        case rel =>
                          refine ⟨j0, swp dj j j0, rfl, by omega, by rw [size_swp]; exact hsx, Lib.hid ?_, HDn2⟩
                          have := HS.out.swap (nq + 1) (i := j) (j := j0) (by omega) (by omega)
                          rw [HG.out, HG.out] at this
                          exact this
                        case measure => simp [intOf]; omega
                      | false =>
                        have HX := Lib.hid (show fixDown ltInt a k (swp dk k (k - 1)) = dj by rw [H1.out]; unfold fixDown; rw [if_pos (by omega), ← HDn.out, shiftDown_stop ltInt j dj (.inr (by rw [← Hj0.out, HG.out, HG.out]; exact hl))])
                        go_wp2
                        go_quiet (first | (go_at_call 119; refine Calls.quiet_of_same (less_is hl _)))
                        go_wp2
                        have HS := Lib.hid (HS.out.drewN nq)
                        generalize wr.drewN nq = wq at *
                        clear cj cj0 fj fj0 hl
                        obtain ⟨dx, hdx⟩ : ∃ dx, dx = dj := ⟨_, rfl⟩
                        rw [← hdx] at HS HX hsx
                        clear hdx
                        go_loopw [10] (fun vj wr => ∃ (j : Nat) (dj : Array Int), vj = .int .i64 j ∧ k + 1 ≤ j ∧ j ≤ b ∧ dj.size = n ∧ Hid (SR w wr blk off dj) ∧ Hid (shiftUp ltInt b j dj = shiftUp ltInt b (k + 1) dx)) (fun vj _ => b - (intOf vj).toNat)
                        case atStart => exact ⟨k + 1, dx, by go_num, by omega, by omega, hsx, HS, Lib.hid rfl⟩
                        case round =>
                          clear HS
                          obtain ⟨j, dj, rfl, hj1, hj2, hsj, HS, HUp⟩ := hrel
                          by_cases hjb : j < b
                          · obtain ⟨G, hG⟩ : ∃ G : Nat → Int, ∀ t, dj[t]! = G t := ⟨fun t => dj[t]!, fun _ => rfl⟩
                            have HG := Lib.hid hG; clear hG
                            obtain ⟨j0, hj0⟩ : ∃ j0 : Nat, j0 = j - 1 := ⟨_, rfl⟩
                            have wj0 : IntKind.i64.wrap ((j : Int) - 1) = (j0 : Int) := wrapN (by omega) (by omega)
                            have ej0 : (j : Int) - 1 = (j0 : Int) := by omega
                            have nj : (j : Int) < n := by omega
                            have nj0 : (j0 : Int) < n := by omega
                            have nej : j ≠ j0 := by omega
                            have nej0 : j0 ≠ j := by omega
                            have cj : wr.cell? ⟨blk, off + j, none⟩ = some (.int .u64 (G j)) := by rw [HS.out.cell (by omega), HG.out]
                            have cj0 : wr.cell? ⟨blk, off + j0, none⟩ = some (.int .u64 (G j0)) := by rw [HS.out.cell (by omega), HG.out]
                            have fj : wr.frozen? ⟨blk, off + j, none⟩ = false := HS.out.frozen _
                            have fj0 : wr.frozen? ⟨blk, off + j0, none⟩ = false := HS.out.frozen _
                            have Hj0 := Lib.hid hj0; clear hj0
                            cases hl : ltInt (G j) (G j0) with
                            | true =>
                              have HUp2 := Lib.hid (show shiftUp ltInt b (j + 1) (swp dj j j0) = shiftUp ltInt b (k + 1) dx by rw [← HUp.out, shiftUp_go ltInt b j dj hjb (by rw [← Hj0.out, HG.out, HG.out]; exact hl), Hj0.out])
                              go_wp2
                              go_quiet (first | (go_at_call 119; refine Calls.quiet_of_same (less_is hl _)))
                              go_wp2
                              go_region
                              all_goals go_wp2
                              go_roundw
                              case rel =>
                                refine ⟨j + 1, swp dj j j0, by go_num, by omega, by omega, by rw [size_swp]; exact hsj, Lib.hid ?_, HUp2⟩
                                have := HS.out.swap (nq + 1) (i := j) (j := j0) (by omega) (by omega)
                                rw [HG.out, HG.out] at this
                                exact this
                              case measure => simp [intOf]; omega
                            | false =>
                              go_wp2
                              go_quiet (first | (go_at_call 119; refine Calls.quiet_of_same (less_is hl _)))
                              go_wp2
                              go_roundw
                              case rel => exact ⟨k, s + 1, _, rfl, by go_num, by omega, by omega, by omega, hsj, Lib.hid (HS.out.drewN nq), Lib.hid (by rw [← HP.out, pi_go ltInt a b s i k dk hs5 HK.out (by omega) (by omega)]; rw [show fixUp ltInt b k (fixDown ltInt a k (swp dk k (k - 1))) = dj by rw [HX.out]; unfold fixUp; rw [if_pos (by omega), ← HUp.out, shiftUp_stop ltInt b j dj (.inr (by rw [← Hj0.out, HG.out, HG.out]; exact hl))]])⟩
                              case measure => simp [intOf]; omega
                          · go_wp2
                            go_roundw
                            case rel => exact ⟨k, s + 1, _, rfl, by go_num, by omega, by omega, by omega, hsj, HS, Lib.hid (by rw [← HP.out, pi_go ltInt a b s i k dk hs5 HK.out (by omega) (by omega)]; rw [show fixUp ltInt b k (fixDown ltInt a k (swp dk k (k - 1))) = dj by rw [HX.out]; unfold fixUp; rw [if_pos (by omega), ← HUp.out, shiftUp_stop ltInt b j dj (.inl hjb)]])⟩
                            case measure => simp [intOf]; omega
                    · obtain rfl : j = 0 := by omega
                      have HX := Lib.hid (show fixDown ltInt a k (swp dk k (k - 1)) = dj by rw [H1.out]; unfold fixDown; rw [if_pos (by omega), ← HDn.out, shiftDown_stop ltInt 0 dj (.inl rfl)])
                      go_wp2
                      obtain ⟨dx, hdx⟩ : ∃ dx, dx = dj := ⟨_, rfl⟩
                      rw [← hdx] at HS HX hsx
                      clear hdx
                      go_loopw [10] (fun vj wr => ∃ (j : Nat) (dj : Array Int), vj = .int .i64 j ∧ k + 1 ≤ j ∧ j ≤ b ∧ dj.size = n ∧ Hid (SR w wr blk off dj) ∧ Hid (shiftUp ltInt b j dj = shiftUp ltInt b (k + 1) dx)) (fun vj _ => b - (intOf vj).toNat)
                      case atStart => exact ⟨k + 1, dx, by go_num, by omega, by omega, hsx, HS, Lib.hid rfl⟩
                      case round =>
                        clear HS
                        obtain ⟨j, dj, rfl, hj1, hj2, hsj, HS, HUp⟩ := hrel
                        by_cases hjb : j < b
                        · obtain ⟨G, hG⟩ : ∃ G : Nat → Int, ∀ t, dj[t]! = G t := ⟨fun t => dj[t]!, fun _ => rfl⟩
                          have HG := Lib.hid hG; clear hG
                          obtain ⟨j0, hj0⟩ : ∃ j0 : Nat, j0 = j - 1 := ⟨_, rfl⟩
                          have wj0 : IntKind.i64.wrap ((j : Int) - 1) = (j0 : Int) := wrapN (by omega) (by omega)
                          have ej0 : (j : Int) - 1 = (j0 : Int) := by omega
                          have nj : (j : Int) < n := by omega
                          have nj0 : (j0 : Int) < n := by omega
                          have nej : j ≠ j0 := by omega
                          have nej0 : j0 ≠ j := by omega
                          have cj : wr.cell? ⟨blk, off + j, none⟩ = some (.int .u64 (G j)) := by rw [HS.out.cell (by omega), HG.out]
                          have cj0 : wr.cell? ⟨blk, off + j0, none⟩ = some (.int .u64 (G j0)) := by rw [HS.out.cell (by omega), HG.out]
                          have fj : wr.frozen? ⟨blk, off + j, none⟩ = false := HS.out.frozen _
                          have fj0 : wr.frozen? ⟨blk, off + j0, none⟩ = false := HS.out.frozen _
                          have Hj0 := Lib.hid hj0; clear hj0
                          cases hl : ltInt (G j) (G j0) with
                          | true =>
                            have HUp2 := Lib.hid (show shiftUp ltInt b (j + 1) (swp dj j j0) = shiftUp ltInt b (k + 1) dx by rw [← HUp.out, shiftUp_go ltInt b j dj hjb (by rw [← Hj0.out, HG.out, HG.out]; exact hl), Hj0.out])
                            go_wp2
                            go_quiet (first | (go_at_call 119; refine Calls.quiet_of_same (less_is hl _)))
                            go_wp2
                            go_region
                            all_goals go_wp2
                            go_roundw
                            case rel =>
                              refine ⟨j + 1, swp dj j j0, by go_num, by omega, by omega, by rw [size_swp]; exact hsj, Lib.hid ?_, HUp2⟩
                              have := HS.out.swap (nq + 1) (i := j) (j := j0) (by omega) (by omega)
                              rw [HG.out, HG.out] at this
                              exact this
                            case measure => simp [intOf]; omega
                          | false =>
                            go_wp2
                            go_quiet (first | (go_at_call 119; refine Calls.quiet_of_same (less_is hl _)))
                            go_wp2
                            go_roundw
                            case rel => exact ⟨k, s + 1, _, rfl, by go_num, by omega, by omega, by omega, hsj, Lib.hid (HS.out.drewN nq), Lib.hid (by rw [← HP.out, pi_go ltInt a b s i k dk hs5 HK.out (by omega) (by omega)]; rw [show fixUp ltInt b k (fixDown ltInt a k (swp dk k (k - 1))) = dj by rw [HX.out]; unfold fixUp; rw [if_pos (by omega), ← HUp.out, shiftUp_stop ltInt b j dj (.inr (by rw [← Hj0.out, HG.out, HG.out]; exact hl))]])⟩
                            case measure => simp [intOf]; omega
                        · go_wp2
                          go_roundw
                          case rel => exact ⟨k, s + 1, _, rfl, by go_num, by omega, by omega, by omega, hsj, HS, Lib.hid (by rw [← HP.out, pi_go ltInt a b s i k dk hs5 HK.out (by omega) (by omega)]; rw [show fixUp ltInt b k (fixDown ltInt a k (swp dk k (k - 1))) = dj by rw [HX.out]; unfold fixUp; rw [if_pos (by omega), ← HUp.out, shiftUp_stop ltInt b j dj (.inl hjb)]])⟩
                          case measure => simp [intOf]; omega
                · have hda : decide (2 ≤ (k : Int) - a) = true := decide_eq_true (by omega)
                  have hdb : decide (2 ≤ (b : Int) - k) = false := decide_eq_false (by omega)
                  have hsw : ∀ q, SR w (((wr.drewN q).setCell ⟨blk, off + k, none⟩ (.int .u64 (G k0))).setCell ⟨blk, off + k0, none⟩ (.int .u64 (G k))) blk off (swp dk k k0) := fun q => by
                    have := HS.out.swap q (i := k) (j := k0) (by omega) (by omega)
                    rw [HG.out, HG.out] at this
                    exact this
                  have HSw := Lib.hid hsw; clear hsw
                  go_wp2
                  go_quiet (first | (go_at_call 119; refine Calls.quiet_of_same (less_is hl _)))
                  go_wp2
                  go_region
                  all_goals go_wp2
                  have HS := Lib.hid (HSw.out (nq + 1))
                  generalize ((wr.drewN (nq + 1)).setCell ⟨blk, off + k, none⟩ (.int .u64 (G k0))).setCell ⟨blk, off + k0, none⟩ (.int .u64 (G k)) = wq at *
                  obtain ⟨d1, hd1⟩ : ∃ d1, d1 = swp dk k k0 := ⟨_, rfl⟩
                  have hs1 : d1.size = n := by rw [hd1, size_swp]; exact hsk
                  have H1 := Lib.hid (show swp dk k (k - 1) = d1 by rw [hd1, Hk0.out])
                  rw [← hd1] at HS
                  clear hd1 HSw ck ck0 fk fk0 hl hkb2
                  go_loopw [9] (fun vj wr => ∃ (j : Nat) (dj : Array Int), vj = .int .i64 j ∧ j < k ∧ dj.size = n ∧ Hid (SR w wr blk off dj) ∧ Hid (shiftDown ltInt j dj = shiftDown ltInt (k - 1) d1)) (fun vj _ => (intOf vj).toNat)
                  case atStart => exact ⟨k - 1, d1, by congr 1; omega, by omega, hs1, HS, Lib.hid rfl⟩
                  case round =>
                    clear HS
                    obtain ⟨j, dj, rfl, hj1, hsx, HS, HDn⟩ := hrel
                    by_cases hjb : 1 ≤ j
                    · obtain ⟨G, hG⟩ : ∃ G : Nat → Int, ∀ t, dj[t]! = G t := ⟨fun t => dj[t]!, fun _ => rfl⟩
                      have HG := Lib.hid hG; clear hG
                      obtain ⟨j0, hj0⟩ : ∃ j0 : Nat, j0 = j - 1 := ⟨_, rfl⟩
                      have wj0 : IntKind.i64.wrap ((j : Int) - 1) = (j0 : Int) := wrapN (by omega) (by omega)
                      have ej0 : (j : Int) - 1 = (j0 : Int) := by omega
                      have nj : (j : Int) < n := by omega
                      have nj0 : (j0 : Int) < n := by omega
                      have nej : j ≠ j0 := by omega
                      have nej0 : j0 ≠ j := by omega
                      have cj : wr.cell? ⟨blk, off + j, none⟩ = some (.int .u64 (G j)) := by rw [HS.out.cell (by omega), HG.out]
                      have cj0 : wr.cell? ⟨blk, off + j0, none⟩ = some (.int .u64 (G j0)) := by rw [HS.out.cell (by omega), HG.out]
                      have fj : wr.frozen? ⟨blk, off + j, none⟩ = false := HS.out.frozen _
                      have fj0 : wr.frozen? ⟨blk, off + j0, none⟩ = false := HS.out.frozen _
                      have Hj0 := Lib.hid hj0; clear hj0
                      cases hl : ltInt (G j) (G j0) with
                      | true =>
                        have HDn2 := Lib.hid (show shiftDown ltInt j0 (swp dj j j0) = shiftDown ltInt (k - 1) d1 by rw [← HDn.out, shiftDown_go ltInt j dj hjb (by rw [← Hj0.out, HG.out, HG.out]; exact hl), Hj0.out])
                        go_wp2
                        go_quiet (first | (go_at_call 119; refine Calls.quiet_of_same (less_is hl _)))
                        go_wp2
                        go_region
                        all_goals go_wp2
                        go_roundw
                        case rel =>
                          refine ⟨j0, swp dj j j0, rfl, by omega, by rw [size_swp]; exact hsx, Lib.hid ?_, HDn2⟩
                          have := HS.out.swap (nq + 1) (i := j) (j := j0) (by omega) (by omega)
                          rw [HG.out, HG.out] at this
                          exact this
                        case measure => simp [intOf]; omega
                      | false =>
                        have HX := Lib.hid (show fixDown ltInt a k (swp dk k (k - 1)) = dj by rw [H1.out]; unfold fixDown; rw [if_pos (by omega), ← HDn.out, shiftDown_stop ltInt j dj (.inr (by rw [← Hj0.out, HG.out, HG.out]; exact hl))])
                        go_wp2
                        go_quiet (first | (go_at_call 119; refine Calls.quiet_of_same (less_is hl _)))
                        go_wp2
                        have HS := Lib.hid (HS.out.drewN nq)
                        generalize wr.drewN nq = wq at *
                        clear cj cj0 fj fj0 hl
                        obtain ⟨dx, hdx⟩ : ∃ dx, dx = dj := ⟨_, rfl⟩
                        rw [← hdx] at HS HX hsx
                        clear hdx
                        go_roundw
                        case rel => exact ⟨k, s + 1, _, rfl, by go_num, by omega, by omega, by omega, hsx, HS, Lib.hid (by rw [← HP.out, pi_go ltInt a b s i k dk hs5 HK.out (by omega) (by omega)]; rw [show fixUp ltInt b k (fixDown ltInt a k (swp dk k (k - 1))) = dx by rw [HX.out]; unfold fixUp; rw [if_neg (by omega)]])⟩
                        case measure => simp [intOf]; omega
                    · obtain rfl : j = 0 := by omega
                      have HX := Lib.hid (show fixDown ltInt a k (swp dk k (k - 1)) = dj by rw [H1.out]; unfold fixDown; rw [if_pos (by omega), ← HDn.out, shiftDown_stop ltInt 0 dj (.inl rfl)])
                      go_wp2
                      obtain ⟨dx, hdx⟩ : ∃ dx, dx = dj := ⟨_, rfl⟩
                      rw [← hdx] at HS HX hsx
                      clear hdx
                      go_roundw
                      case rel => exact ⟨k, s + 1, _, rfl, by go_num, by omega, by omega, by omega, hsx, HS, Lib.hid (by rw [← HP.out, pi_go ltInt a b s i k dk hs5 HK.out (by omega) (by omega)]; rw [show fixUp ltInt b k (fixDown ltInt a k (swp dk k (k - 1))) = dx by rw [HX.out]; unfold fixUp; rw [if_neg (by omega)]])⟩
                      case measure => simp [intOf]; omega
              · by_cases hbi : 2 ≤ b - k
                · have hda : decide (2 ≤ (k : Int) - a) = false := decide_eq_false (by omega)
                  have hdb : decide (2 ≤ (b : Int) - k) = true := decide_eq_true (by omega)
                  have hsw : ∀ q, SR w (((wr.drewN q).setCell ⟨blk, off + k, none⟩ (.int .u64 (G k0))).setCell ⟨blk, off + k0, none⟩ (.int .u64 (G k))) blk off (swp dk k k0) := fun q => by
                    have := HS.out.swap q (i := k) (j := k0) (by omega) (by omega)
                    rw [HG.out, HG.out] at this
                    exact this
                  have HSw := Lib.hid hsw; clear hsw
                  go_wp2
                  go_quiet (first | (go_at_call 119; refine Calls.quiet_of_same (less_is hl _)))
                  go_wp2
                  go_region
                  all_goals go_wp2
                  have HS := Lib.hid (HSw.out (nq + 1))
                  generalize ((wr.drewN (nq + 1)).setCell ⟨blk, off + k, none⟩ (.int .u64 (G k0))).setCell ⟨blk, off + k0, none⟩ (.int .u64 (G k)) = wq at *
                  obtain ⟨d1, hd1⟩ : ∃ d1, d1 = swp dk k k0 := ⟨_, rfl⟩
                  have hs1 : d1.size = n := by rw [hd1, size_swp]; exact hsk
                  have H1 := Lib.hid (show swp dk k (k - 1) = d1 by rw [hd1, Hk0.out])
                  rw [← hd1] at HS
                  clear hd1 HSw ck ck0 fk fk0 hl hkb2
                  have HX := Lib.hid (show fixDown ltInt a k (swp dk k (k - 1)) = d1 by rw [H1.out]; unfold fixDown; rw [if_neg (by omega)])
                  obtain ⟨dx, hdx⟩ : ∃ dx, dx = d1 := ⟨_, rfl⟩
                  have hsx : dx.size = n := by rw [hdx]; exact hs1
                  rw [← hdx] at HS HX
                  clear hdx
                  go_loopw [10] (fun vj wr => ∃ (j : Nat) (dj : Array Int), vj = .int .i64 j ∧ k + 1 ≤ j ∧ j ≤ b ∧ dj.size = n ∧ Hid (SR w wr blk off dj) ∧ Hid (shiftUp ltInt b j dj = shiftUp ltInt b (k + 1) dx)) (fun vj _ => b - (intOf vj).toNat)
                  case atStart => exact ⟨k + 1, dx, by go_num, by omega, by omega, hsx, HS, Lib.hid rfl⟩
                  case round =>
                    clear HS
                    obtain ⟨j, dj, rfl, hj1, hj2, hsj, HS, HUp⟩ := hrel
                    by_cases hjb : j < b
                    · obtain ⟨G, hG⟩ : ∃ G : Nat → Int, ∀ t, dj[t]! = G t := ⟨fun t => dj[t]!, fun _ => rfl⟩
                      have HG := Lib.hid hG; clear hG
                      obtain ⟨j0, hj0⟩ : ∃ j0 : Nat, j0 = j - 1 := ⟨_, rfl⟩
                      have wj0 : IntKind.i64.wrap ((j : Int) - 1) = (j0 : Int) := wrapN (by omega) (by omega)
                      have ej0 : (j : Int) - 1 = (j0 : Int) := by omega
                      have nj : (j : Int) < n := by omega
                      have nj0 : (j0 : Int) < n := by omega
                      have nej : j ≠ j0 := by omega
                      have nej0 : j0 ≠ j := by omega
                      have cj : wr.cell? ⟨blk, off + j, none⟩ = some (.int .u64 (G j)) := by rw [HS.out.cell (by omega), HG.out]
                      have cj0 : wr.cell? ⟨blk, off + j0, none⟩ = some (.int .u64 (G j0)) := by rw [HS.out.cell (by omega), HG.out]
                      have fj : wr.frozen? ⟨blk, off + j, none⟩ = false := HS.out.frozen _
                      have fj0 : wr.frozen? ⟨blk, off + j0, none⟩ = false := HS.out.frozen _
                      have Hj0 := Lib.hid hj0; clear hj0
                      cases hl : ltInt (G j) (G j0) with
                      | true =>
                        have HUp2 := Lib.hid (show shiftUp ltInt b (j + 1) (swp dj j j0) = shiftUp ltInt b (k + 1) dx by rw [← HUp.out, shiftUp_go ltInt b j dj hjb (by rw [← Hj0.out, HG.out, HG.out]; exact hl), Hj0.out])
                        go_wp2
                        go_quiet (first | (go_at_call 119; refine Calls.quiet_of_same (less_is hl _)))
                        go_wp2
                        go_region
                        all_goals go_wp2
                        go_roundw
                        case rel =>
                          refine ⟨j + 1, swp dj j j0, by go_num, by omega, by omega, by rw [size_swp]; exact hsj, Lib.hid ?_, HUp2⟩
                          have := HS.out.swap (nq + 1) (i := j) (j := j0) (by omega) (by omega)
                          rw [HG.out, HG.out] at this
                          exact this
                        case measure => simp [intOf]; omega
                      | false =>
                        go_wp2
                        go_quiet (first | (go_at_call 119; refine Calls.quiet_of_same (less_is hl _)))
                        go_wp2
                        go_roundw
                        case rel => exact ⟨k, s + 1, _, rfl, by go_num, by omega, by omega, by omega, hsj, Lib.hid (HS.out.drewN nq), Lib.hid (by rw [← HP.out, pi_go ltInt a b s i k dk hs5 HK.out (by omega) (by omega)]; rw [show fixUp ltInt b k (fixDown ltInt a k (swp dk k (k - 1))) = dj by rw [HX.out]; unfold fixUp; rw [if_pos (by omega), ← HUp.out, shiftUp_stop ltInt b j dj (.inr (by rw [← Hj0.out, HG.out, HG.out]; exact hl))]])⟩
                        case measure => simp [intOf]; omega
                    · go_wp2
                      go_roundw
                      case rel => exact ⟨k, s + 1, _, rfl, by go_num, by omega, by omega, by omega, hsj, HS, Lib.hid (by rw [← HP.out, pi_go ltInt a b s i k dk hs5 HK.out (by omega) (by omega)]; rw [show fixUp ltInt b k (fixDown ltInt a k (swp dk k (k - 1))) = dj by rw [HX.out]; unfold fixUp; rw [if_pos (by omega), ← HUp.out, shiftUp_stop ltInt b j dj (.inl hjb)]])⟩
                      case measure => simp [intOf]; omega
                · exfalso
                  omega
        · obtain rfl : k = b := by omega
          have HK := Lib.hid (show scanSorted ltInt dk k i = k by rw [← HSc.out, scanSorted_stop ltInt dk k k (.inl hk)])
          have HRs := Lib.hid (pi_true ltInt a k s i dk hs5 HK.out)
          go_wp2
          go_quiet (first | (go_at_call 119; refine Calls.quiet_of_same (less_is rfl _)))
          go_wp2
          go_ret
          exact ⟨by rw [← HP.out, HRs.out]; rfl, by rw [← HP.out, HRs.out]; exact HS.out.drewN nq⟩
    · obtain rfl : s = 5 := by omega
      go_wp2
      go_ret
      exact ⟨by rw [← HP.out, pi_end]; rfl, by rw [← HP.out, pi_end]; exact HS.out⟩
end Go.Proofs.YtbegdgnhpklceaaGreat

/- slices.Sort at uint64: pdqsortOrdered. -/
namespace Go.Proofs.YtbegdgnhpklceaaGreat
open Go.RowKit Go.Sort
set_option maxRecDepth 100000
set_option maxHeartbeats 6400000

/-- What a round of pdqsort does, told of its own values R. -/
structure PdqR (d : Array Int) (a b lim : Nat) (wb wp : Bool) (R : Rd Int) : Prop where
  bal : wb = true → R.d1 = d ∧ R.lim = lim
  unb : wb = false → R.d1 = breakPatterns d a b ∧ R.lim = lim - 1
  c : R.c = choosePivot ltInt R.d1 a b
  dec : R.c.2 = .decreasing → R.d2 = reverseRange R.d1 a b ∧ R.pivot = (b - 1) - (R.c.1 - a) ∧ R.hint = .increasing
  ndec : R.c.2 ≠ .decreasing → R.d2 = R.d1 ∧ R.pivot = R.c.1 ∧ R.hint = R.c.2
  yes : (wb && wp && decide (R.hint = .increasing)) = true → R.pi = partialInsertionSort ltInt R.d2 a b
  no : (wb && wp && decide (R.hint = .increasing)) = false → R.pi = (R.d2, false)
  s1 : R.d1.size = d.size
  c1 : a ≤ R.c.1 ∧ R.c.1 < b
  s2 : R.d2.size = d.size
  pv : a ≤ R.pivot ∧ R.pivot < b
  s3 : R.pi.1.size = d.size
  B3 : Sort.Below ltInt a b R.pi.1
  lm : R.lim ≤ lim
  done : R.pi.2 = true → pdq ltInt d a b lim wb wp = R.pi.1
  eq : R.pi.2 = false → (decide (a > 0) && !ltInt R.pi.1[a - 1]! R.pi.1[R.pivot]!) = true → ∀ mid d4, partitionEqual ltInt R.pi.1 a b R.pivot = (mid, d4) → a < mid ∧ mid ≤ b → pdq ltInt d a b lim wb wp = pdq ltInt d4 mid b R.lim wb wp
  left : R.pi.2 = false → (decide (a > 0) && !ltInt R.pi.1[a - 1]! R.pi.1[R.pivot]!) = false → ∀ mid ap d4, partition ltInt R.pi.1 a b R.pivot = (mid, ap, d4) → a ≤ mid ∧ mid < b → mid - a < b - mid →
    pdq ltInt d a b lim wb wp = pdq ltInt (pdq ltInt d4 a mid R.lim true true) (mid + 1) b R.lim (decide (mid - a ≥ (b - a) / 8)) ap
  right : R.pi.2 = false → (decide (a > 0) && !ltInt R.pi.1[a - 1]! R.pi.1[R.pivot]!) = false → ∀ mid ap d4, partition ltInt R.pi.1 a b R.pivot = (mid, ap, d4) → a ≤ mid ∧ mid < b → ¬ mid - a < b - mid →
    pdq ltInt d a b lim wb wp = pdq ltInt (pdq ltInt d4 (mid + 1) b R.lim true true) a mid R.lim (decide (b - mid ≥ (b - a) / 8)) ap

theorem pdq_round {d : Array Int} {a b lim : Nat} (wb wp : Bool) (h12 : ¬ b - a ≤ 12) (hl : ¬ lim = 0) (hb : b ≤ d.size) (hB : Sort.Below ltInt a b d) : ∃ R, PdqR d a b lim wb wp R := by
  obtain ⟨s1, _, hc1, s2, _, hpv, s3, B3⟩ := rd_facts (limit := lim) (wb := wb) (wp := wp) swo_ltInt partialInsertionSort_holds reverseRange_holds (show a < b by omega) hb hB
  refine ⟨rd ltInt d a b lim wb wp, ?_, ?_, rd_c, rd_dec, rd_not, rd_pi_yes, rd_pi_no, s1, hc1, s2, hpv, s3, B3, rd_lim_le, pdq_done h12 hl, ?_, ?_, ?_⟩
  · rintro rfl; exact rd_true
  · rintro rfl; exact rd_false
  · intro h1 h2 mid d4 hx h3
    have := pdq_eq (wb := wb) (wp := wp) h12 hl h1 h2 (by rw [hx]; exact h3)
    rw [hx] at this; exact this
  · intro h1 h2 mid ap d4 hx h3 h4
    have := pdq_left (wb := wb) (wp := wp) h12 hl h1 h2 (by rw [hx]; exact h3) (by rw [hx]; exact h4)
    rw [hx] at this; exact this
  · intro h1 h2 mid ap d4 hx h3 h4
    have := pdq_right (wb := wb) (wp := wp) h12 hl h1 h2 (by rw [hx]; exact h3) (by rw [hx]; exact h4)
    rw [hx] at this; exact this

theorem pdq_u {w : World} {blk off cap n : Nat} (hsz : n < 4611686018427387904) : ∀ (N a b limit : Nat) (d : Array Int) (wr : World), b - a < N → SR w wr blk off d → d.size = n → a ≤ b → b ≤ n → limit < 4611686018427387904 → Sort.Below ltInt a b d →
    Calls Tryz.prog 106 #[.slice (some ⟨blk, off, none⟩) n cap, .int .i64 a, .int .i64 b, .int .i64 limit] wr fun e w' => e = .returned (.tuple #[]) ∧ SR w w' blk off (pdq ltInt d a b limit true true) := by
  intro N
  induction N with
  | zero => intro _ _ _ _ _ h; exact absurd h (Nat.not_lt_zero _)
  | succ N ih =>
    intro a b limit d wr hN hS hn hab hb hlimit hBel0
    have IH := Lib.hid ih; clear ih
    have HS := Lib.hid hS; clear hS
    have HB := Lib.hid hBel0; clear hBel0
    obtain ⟨res, hres⟩ : ∃ res, pdq ltInt d a b limit true true = res := ⟨_, rfl⟩
    rw [hres]
    have HR0 := Lib.hid hres; clear hres
    go_enter Tryz.func106, Tryz.ntmps106
    go_wp2
    go_loopg [1, 2, 3, 8, 9] (b - a) (fun k s1 s2 s3 s8 s9 wr => ∃ (x y lim : Nat) (wb wp : Bool) (dk : Array Int), s1 = .int .i64 x ∧ s2 = .int .i64 y ∧ s3 = .int .i64 lim ∧ s8 = .bool wb ∧ s9 = .bool wp ∧
      x ≤ y ∧ y ≤ n ∧ y - x ≤ k ∧ k ≤ b - a ∧ lim ≤ limit ∧ dk.size = n ∧ Hid (Sort.Below ltInt x y dk) ∧ Hid (SR w wr blk off dk) ∧ Hid (pdq ltInt dk x y lim wb wp = res))
    case atStart => exact ⟨a, b, limit, true, true, d, rfl, rfl, rfl, rfl, rfl, hab, hb, Nat.le_refl _, Nat.le_refl _, Nat.le_refl _, hn, HB, HS, HR0⟩
    case round =>
      clear HB HS HR0
      obtain ⟨x, y, lim, wb, wp, dk, rfl, rfl, rfl, rfl, rfl, hxy, hy, hk, hkN, hlim, hsk, HB, HS, HR⟩ := hrel
      by_cases h12 : y - x ≤ 12
      · have h12z : (y : Int) - (x : Int) ≤ 12 := by omega
        have HC := ins_u (cap := cap) HS.out hxy (by omega) (by omega)
        rw [hsk] at HC
        have HC := Lib.hid HC
        go_wp2_with (go_at_call 113; refine HC.out.mono ?_; rintro e w1 ⟨rfl, hw1⟩)
        (try simp only [Exit.inBlock, Exit.then]); refine bodyPost_ret (results_none rfl _ _ _) rfl ?_
        exact ⟨rfl, by rw [← HR.out, pdq_small h12]; exact hw1⟩
      · have h12z : ¬ ((y : Int) - (x : Int) ≤ 12) := by omega
        by_cases hl0 : lim = 0
        · subst hl0
          have HC := Lib.hid (heap_u (cap := cap) HS.out hsk hxy hy hsz)
          go_wp2_with (go_at_call 114; refine HC.out.mono ?_; rintro e w1 ⟨rfl, hw1⟩)
          (try simp only [Exit.inBlock, Exit.then]); refine bodyPost_ret (results_none rfl _ _ _) rfl ?_
          exact ⟨rfl, by rw [← HR.out, pdq_heap h12 rfl]; exact hw1⟩
        · have hl0z : ¬ ((lim : Int) = 0) := by omega
          obtain ⟨R, hP⟩ := pdq_round wb wp h12 hl0 (show y ≤ dk.size by omega) HB.out
          have hc1 := hP.c1
          have hpv := hP.pv
          have hlm := hP.lm
          have PR := Lib.hid hP; clear hP
          have hs1 : R.d1.size = n := by rw [PR.out.s1]; exact hsk
          have hs2 : R.d2.size = n := by rw [PR.out.s2]; exact hsk
          have hs3 : R.pi.1.size = n := by rw [PR.out.s3]; exact hsk
          go_upto_if 35 with fail
          go_cut [3] from 19 (fun s3 wc => s3 = .int .i64 R.lim ∧ Hid (SR w wc blk off R.d1))
          case first =>
            cases wb
            · have HC := Lib.hid (break_u (cap := cap) HS.out hsk hxy hy hsz)
              go_wp2_with (go_at_call 115; refine HC.out.mono ?_; rintro e w1 ⟨rfl, hw1⟩)
              go_meet
              case rel =>
                obtain ⟨e1, e2⟩ := PR.out.unb rfl
                exact ⟨by rw [e2]; congr 1; omega, Lib.hid (by rw [e1]; exact hw1)⟩
            · go_wp2_with fail
              go_meet
              case rel =>
                obtain ⟨e1, e2⟩ := PR.out.bal rfl
                exact ⟨by rw [e2], by rw [e1]; exact HS⟩
          case rest =>
            clear HS
            obtain ⟨rfl, HS1⟩ := hcut
            have HC := pivot_u (cap := cap) HS1.out hs1 (show x < y by omega) hy hsz
            rw [← PR.out.c] at HC
            have HC := Lib.hid HC
            go_upto_if 50 with (go_at_call 116; refine HC.out.mono ?_; rintro e w2 ⟨rfl, hw2⟩)
            have HS2 := Lib.hid hw2; clear hw2 HC HS1
            go_cut [11, 12] from 19 (fun s11 s12 wc => s11 = .int .i64 R.pivot ∧ s12 = .int .i64 (hintCode R.hint) ∧ Hid (SR w wc blk off R.d2))
            case first =>
              by_cases hh : R.c.2 = .decreasing
              · have hcode : hintCode R.c.2 = 2 := by rw [hh]; rfl
                have HC := Lib.hid (rev_u (cap := cap) HS2.out hs1 hxy hy hsz)
                go_wp2_with (go_at_call 117; refine HC.out.mono ?_; rintro e w3 ⟨rfl, hw3⟩)
                go_meet
                case rel =>
                  obtain ⟨e1, e2, e3⟩ := PR.out.dec hh
                  exact ⟨by rw [e2]; congr 1; omega, by rw [e3]; rfl, Lib.hid (by rw [e1]; exact hw3)⟩
              · have hcode : ¬ (hintCode R.c.2 = 2) := fun h => hh (hintCode_two h)
                go_wp2_with fail
                go_meet
                case rel =>
                  obtain ⟨e1, e2, e3⟩ := PR.out.ndec hh
                  exact ⟨by rw [e2], by rw [e3], by rw [e1]; exact HS2⟩
            case rest =>
              clear HS2
              obtain ⟨rfl, rfl, HS3⟩ := hcut
              go_upto_region 15 with fail
              go_cut [12, 68] from 19 (fun s12 s68 wx => s12 = .int .i64 (hintCode R.hint) ∧ s68 = .bool (wb && wp && decide (R.hint = .increasing)) ∧ wx = wc)
              case first =>
                cases wb <;> cases wp <;> cases hh3 : R.hint <;>
                  (have hcode3 := congrArg hintCode hh3
                   simp only [hintCode] at hcode3
                   go_wp2_with fail
                   go_meet
                   exact ⟨by simp [hh3, hintCode], by simp [hh3, hintCode], rfl⟩)
              case rest =>
                obtain ⟨rfl, rfl, rfl⟩ := hcut
                go_upto_if 68 with fail
                go_cut [] from 19 (fun wx => R.pi.2 = false ∧ Hid (SR w wx blk off R.pi.1))
                case first =>
                  cases h68 : (wb && wp && decide (R.hint = .increasing))
                  · go_wp2_with fail
                    go_meet
                    case rel =>
                      have e1 := PR.out.no h68
                      exact ⟨by rw [e1], by rw [e1]; exact HS3⟩
                  · have HC := pins_u (cap := cap) HS3.out hs2 (show x < y by omega) hy hsz
                    rw [← PR.out.yes h68] at HC
                    have HC := Lib.hid HC
                    cases hpi : R.pi.2 with
                    | false =>
                      rw [hpi] at HC
                      go_wp2_with (go_at_call 118; refine HC.out.mono ?_; rintro e w4 ⟨rfl, hw4⟩)
                      go_meet
                      case rel => exact ⟨hpi, Lib.hid hw4⟩
                    | true =>
                      rw [hpi] at HC
                      go_wp2_with (go_at_call 118; refine HC.out.mono ?_; rintro e w4 ⟨rfl, hw4⟩)
                      (try simp only [Exit.inBlock, Exit.then]); refine bodyPost_ret (results_none rfl _ _ _) rfl ?_
                      exact ⟨rfl, by rw [← HR.out, PR.out.done hpi]; exact hw4⟩
                case rest =>
                  clear HS3
                  obtain ⟨hp2, HS5⟩ := hcut
                  have Hp2 := Lib.hid hp2; clear hp2
                  obtain ⟨G, hG⟩ : ∃ G : Nat → Int, ∀ t, R.pi.1[t]! = G t := ⟨fun t => R.pi.1[t]!, fun _ => rfl⟩
                  have HG := Lib.hid hG; clear hG
                  obtain ⟨x0, hx0⟩ : ∃ x0 : Nat, x0 = x - 1 := ⟨_, rfl⟩
                  have Hx0 := Lib.hid hx0; clear hx0
                  go_upto_region 17 with fail
                  go_cut [87] from 19 (fun s87 wx => s87 = .bool (decide (x > 0) && !ltInt (G x0) (G R.pivot)) ∧ Hid (SR w wx blk off R.pi.1))
                  case first =>
                    rcases Nat.eq_zero_or_pos x with ha0 | ha0
                    · have ha0z : decide ((x : Int) > 0) = false := decide_eq_false (by omega)
                      go_big_quiet (first | (go_at_call 119; refine Calls.quiet_of_same (less_u _ _ _)))
                      go_wp2_with fail
                      go_meet
                      case rel => exact ⟨by simp [ha0], Lib.hid (HS5.out.drewN nq)⟩
                    · have ha0z : (x : Int) > 0 := by omega
                      have wx0 : IntKind.i64.wrap ((x : Int) - 1) = (x0 : Int) := wrapN (by have := Hx0.out; omega) (by have := Hx0.out; omega)
                      have c1 : wc.cell? ⟨blk, off + x0, none⟩ = some (.int .u64 (G x0)) := by rw [HS5.out.cell (by have := Hx0.out; omega), HG.out]
                      have c2 : wc.cell? ⟨blk, off + R.pivot, none⟩ = some (.int .u64 (G R.pivot)) := by rw [HS5.out.cell (by omega), HG.out]
                      have n1 : (x0 : Int) < n := by have := Hx0.out; omega
                      have n2 : (R.pivot : Int) < n := by omega
                      go_big_quiet (first | (go_at_call 119; refine Calls.quiet_of_same (less_u _ _ _)))
                      go_wp2_with fail
                      go_meet
                      case rel => exact ⟨by simp [ha0], Lib.hid (HS5.out.drewN nq)⟩
                  case rest =>
                    clear HS5
                    obtain ⟨rfl, HS6⟩ := hcut
                    have h87e : (decide (x > 0) && !ltInt R.pi.1[x - 1]! R.pi.1[R.pivot]!) = (decide (x > 0) && !ltInt (G x0) (G R.pivot)) := by rw [HG.out, HG.out, Hx0.out]
                    have H87 := Lib.hid h87e; clear h87e
                    cases h87 : (decide (x > 0) && !ltInt (G x0) (G R.pivot))
                    · obtain ⟨mid, ap, d4, hx⟩ : ∃ mid ap d4, partition ltInt R.pi.1 x y R.pivot = (mid, ap, d4) := ⟨_, _, _, rfl⟩
                      obtain ⟨r1, r2, r3, r4, r5, r6, r7⟩ := round_part swo_ltInt (partition_holds ltInt) hpv.1 hpv.2 (show y ≤ R.pi.1.size by omega) PR.out.B3 hx
                      have HC := part_u (cap := cap) HS6.out hs3 hpv.1 hpv.2 hy hsz
                      rw [hx] at HC
                      have HC := Lib.hid HC
                      have HX := Lib.hid hx; clear hx
                      have hs4 : d4.size = n := by rw [r3]; exact hs3
                      go_upto_if 113 with (go_at_call 121; refine HC.out.mono ?_; rintro e w7 ⟨rfl, hw7⟩)
                      have HS7 := Lib.hid hw7; clear hw7 HC HS6
                      by_cases h4 : mid - x < y - mid
                      · have h4z : (mid : Int) - (x : Int) < (y : Int) - (mid : Int) := by omega
                        have HC := Lib.hid (IH.out x mid R.lim d4 w7 (by omega) HS7.out hs4 (by omega) (by omega) (by omega) r4)
                        obtain ⟨pL, sL⟩ := pdq_sorts ltInt swo_ltInt d4 x mid R.lim true true (by omega) (by omega) r4
                        have HL := Lib.hid (PR.out.left Hp2.out (H87.out.trans h87) mid ap d4 HX.out ⟨r1, r2⟩ h4)
                        have HBn := Lib.hid (r6 _ pL sL).1
                        have hsn : (pdq ltInt d4 x mid R.lim true true).size = n := by rw [pL.1]; exact hs4
                        clear r4 r5 r6 r7 pL sL r3
                        generalize pdq ltInt d4 x mid R.lim true true = d5 at *
                        go_wp2_with (go_at_call 106; refine HC.out.mono ?_; rintro e w8 ⟨rfl, hw8⟩)
                        go_roundg (y - (mid + 1))
                        case measure => omega
                        case rel =>
                          refine ⟨mid + 1, y, R.lim, decide (mid - x ≥ (y - x) / 8), ap, d5, by simp, rfl, rfl, ?_, rfl, by omega, by omega, Nat.le_refl _, by omega, by omega, hsn, HBn, Lib.hid hw8, Lib.hid ?_⟩
                          · exact congrArg Value.bool (eighth (by omega) (by omega))
                          · rw [← HR.out, HL.out]
                      · have h4z : ¬ ((mid : Int) - (x : Int) < (y : Int) - (mid : Int)) := by omega
                        have HC := Lib.hid (IH.out (mid + 1) y R.lim d4 w7 (by omega) HS7.out hs4 (by omega) (by omega) (by omega) r5)
                        obtain ⟨pL, sL⟩ := pdq_sorts ltInt swo_ltInt d4 (mid + 1) y R.lim true true (by omega) (by omega) r5
                        have HL := Lib.hid (PR.out.right Hp2.out (H87.out.trans h87) mid ap d4 HX.out ⟨r1, r2⟩ h4)
                        have HBn := Lib.hid (r7 _ pL sL).1
                        have hsn : (pdq ltInt d4 (mid + 1) y R.lim true true).size = n := by rw [pL.1]; exact hs4
                        clear r4 r5 r6 r7 pL sL r3
                        generalize pdq ltInt d4 (mid + 1) y R.lim true true = d5 at *
                        go_wp2_with (go_at_call 106; refine HC.out.mono ?_; rintro e w8 ⟨rfl, hw8⟩)
                        go_roundg (mid - x)
                        case measure => omega
                        case rel =>
                          refine ⟨x, mid, R.lim, decide (y - mid ≥ (y - x) / 8), ap, d5, rfl, rfl, rfl, ?_, rfl, by omega, by omega, Nat.le_refl _, by omega, by omega, hsn, HBn, Lib.hid hw8, Lib.hid ?_⟩
                          · exact congrArg Value.bool (eighth (by omega) (by omega))
                          · rw [← HR.out, HL.out]
                    · have h87' := H87.out.trans h87
                      have h87'' := h87'
                      simp only [Bool.and_eq_true, decide_eq_true_eq, Bool.not_eq_true'] at h87'
                      obtain ⟨mid, d4, hx⟩ : ∃ mid d4, partitionEqual ltInt R.pi.1 x y R.pivot = (mid, d4) := ⟨_, _, rfl⟩
                      obtain ⟨r1, r2, r3, r4, _⟩ := round_eq swo_ltInt (partitionEqual_holds ltInt) h87'.1 hpv.1 hpv.2 (show y ≤ R.pi.1.size by omega) PR.out.B3 h87'.2 hx
                      have HC := peq_u (cap := cap) HS6.out hs3 hpv.1 hpv.2 hy hsz
                      rw [hx] at HC
                      have HC := Lib.hid HC
                      have HL := Lib.hid (PR.out.eq Hp2.out h87'' mid d4 hx ⟨r1, r2⟩)
                      have HX := Lib.hid hx; clear hx h87' h87''
                      have hs4 : d4.size = n := by rw [r3]; exact hs3
                      have HBn := Lib.hid r4
                      clear r4 r3
                      go_wp2_with (go_at_call 120; refine HC.out.mono ?_; rintro e w7 ⟨rfl, hw7⟩)
                      go_roundg (y - mid)
                      case measure => omega
                      case rel => exact ⟨mid, y, R.lim, wb, wp, d4, rfl, rfl, rfl, rfl, rfl, r2, hy, Nat.le_refl _, by omega, by omega, hs4, HBn, Lib.hid hw7, Lib.hid (by rw [← HR.out, HL.out])⟩
end Go.Proofs.YtbegdgnhpklceaaGreat

namespace Go.Proofs.YtbegdgnhpklceaaGreat
open Go.RowKit Go.Sort
set_option maxRecDepth 10000
set_option maxHeartbeats 800000

theorem sort_u {w wr : World} {blk off cap n : Nat} {d : Array Int} (h : SR w wr blk off d) (hn : d.size = n) (hsz : n < 4611686018427387904) :
    Calls Tryz.prog 93 #[.slice (some ⟨blk, off, none⟩) n cap] wr fun e w' => e = .returned (.tuple #[]) ∧ SR w w' blk off (Sort.sort ltInt d) := by
  have hl : bitsLen n < 4611686018427387904 := Nat.lt_of_le_of_lt ((bitsLen_le_iff n 62).2 (by omega)) (by decide)
  have HL := Lib.hid (len_u n hsz wr)
  have HP := pdq_u (cap := cap) hsz (n - 0 + 1) 0 n (bitsLen n) d wr (Nat.lt_succ_self _) h hn (Nat.zero_le _) (Nat.le_refl _) hl (.inl rfl)
  have e : pdq ltInt d 0 n (bitsLen n) true true = Sort.sort ltInt d := by unfold Sort.sort; rw [hn]
  rw [e] at HP
  have HP := Lib.hid HP
  clear h e
  generalize bitsLen n = k at *
  go_enter Tryz.func93, Tryz.ntmps93
  go_wp2_with fail
  refine HL.out.mono ?_
  rintro _ _ ⟨rfl, rfl⟩
  go_wp2_with fail
  refine HP.out.mono ?_
  rintro _ w1 ⟨rfl, h1⟩
  go_wp2
  go_end0
  exact ⟨rfl, h1⟩

/-- A row of ids of one's own, sorted. -/
theorem sort_row {w : World} {v : Value} {l : List Nat} (h : w.ownsRow 0 22 1 v l.length (l.map fun (x : Nat) => Value.int .u64 x)) (hv : v.ownBlock.isSome = true) (hbig : l.length < 4611686018427387904) :
    Calls Tryz.prog 93 #[v] w fun e w' => e = .returned (.tuple #[]) ∧ w'.ownsRow 0 22 1 v l.length ((l.mergeSort (fun x y => decide (x ≤ y))).map fun (x : Nat) => Value.int .u64 x) ∧ Fr v.ownBlock.toList w w' := by
  rcases h.2 with ⟨rfl, _⟩ | ⟨g, cap, cur, rfl, hg, hcur, hnc, hcm, hcs, htk⟩
  · cases hv
  · have hlen : (l.map fun (x : Nat) => (x : Int)).toArray.size = l.length := by simp
    have henc : encU (l.map fun (x : Nat) => (x : Int)).toArray = l.map fun (x : Nat) => Value.int .u64 x := by simp [encU, Function.comp_def]
    have hsr : SR w w g 0 (l.map fun (x : Nat) => (x : Int)).toArray := by
      refine ⟨rfl, ⟨cur.toList.drop l.length, ?_, cur.toList, ?_, ?_⟩, Fr.refl _ _⟩
      · rw [henc, ← htk, Nat.mul_one, List.take_append_drop]
        unfold Blk; rw [hcur]
      · unfold Blk; rw [hcur]
      · rw [hlen, List.length_drop]; simp; omega
    · refine (sort_u (cap := cap) hsr hlen hbig).mono ?_
      rintro _ w' ⟨rfl, h1⟩
      refine ⟨rfl, ?_, h1.fr⟩
      obtain ⟨rest, b1, l0, b2, b3⟩ := h1.row
      have hso := sortInt (l.map fun (x : Nat) => (x : Int))
      have hms : (l.map fun (x : Nat) => (x : Int)).mergeSort (fun x y => decide (x ≤ y)) = (l.mergeSort (fun x y => decide (x ≤ y))).map fun (x : Nat) => (x : Int) := by
        rw [List.map_mergeSort]
        intro a _ b _
        simp
      have he : encU (Sort.sort ltInt (l.map fun (x : Nat) => (x : Int)).toArray) = (l.mergeSort (fun x y => decide (x ≤ y))).map fun (x : Nat) => Value.int .u64 x := by
        unfold encU; rw [hso, hms]; simp [Function.comp_def]
      rw [he] at b1
      have hl0 : l0 = cur.toList := by
        have : Blk w g 22 cur.toList := by unfold Blk; rw [hcur]
        exact b2.eq this
      have hms2 : (Sort.sort ltInt (l.map fun (x : Nat) => (x : Int)).toArray).size = l.length := by
        have := congrArg List.length hso
        simpa using this
      refine ⟨by simp, .inr ⟨g, cap, _, rfl, Nat.zero_le _, b1, hnc, hcm, ?_, ?_⟩⟩
      · rw [hl0, hms2] at b3
        simp at b3 ⊢
        omega
      · rw [Nat.mul_one, List.take_append_of_le_length (by simp), List.take_of_length_le (by simp)]
end Go.Proofs.YtbegdgnhpklceaaGreat
