/- intern: Copy. -/
import Derived.Sort.WalkA6
import Derived.Test.YtgmnemndjjmgkaaGreatB6
import Derived.Sort.Walk13
import Derived.Sort.AssemblyPlain
import Derived.Deep.Cut
import Derived.Test.YtgmnemndjjmgkaaGreatB4
import Derived.Deep.RegionHeld3
import Derived.Shelf.SlGeneric
import Derived.Ground.SlgnProg
import Derived.Shelf.SlicesE.Clone
import Derived.Test.YtgmnemndjjmgkaaGreatB5
set_option linter.unusedSimpArgs false
set_option linter.unusedVariables false
/- slices.Sort at uint64: partialInsertionSortOrdered. -/
namespace Go.Proofs.YtgmnemndjjmgkaaGreat
open Go.RowKit Go.Sort
set_option maxRecDepth 10000
set_option maxHeartbeats 12800000
theorem pins_u {w wr : World} {blk off cap a b n : Nat} {d : Array Int} (h : SR w wr blk off d) (hn : d.size = n) (hab : a < b) (hb : b ≤ n) (hsz : n < 4611686018427387904) :
    Calls Tryz.prog 218 #[.slice (some ⟨blk, off, none⟩) n cap, .int .i64 a, .int .i64 b] wr fun e w' =>
      e = .returned (.bool (partialInsertionSort ltInt d a b).2) ∧ SR w w' blk off (partialInsertionSort ltInt d a b).1 := by
 have HS := Lib.hid h; clear h
 obtain ⟨res, hres⟩ : ∃ res, partialInsertionSort ltInt d a b = res := ⟨_, rfl⟩
 rw [hres]
 have HR0 : Hid (partialIns ltInt a b 5 (a + 1) d = res) := Lib.hid hres
 clear hres
 go_enter Tryz.func218, Tryz.ntmps218
 go_wp2
 go_loopw [7, 8] (fun vi vs wr => ∃ (i s : Nat) (dk : Array Int), vi = .int .i64 i ∧ vs = .int .i64 s ∧ s ≤ 5 ∧ a < i ∧ i ≤ b ∧ dk.size = n ∧ Hid (SR w wr blk off dk) ∧ Hid (partialIns ltInt a b (5 - s) i dk = res)) (fun _ vs _ => 5 - (intOf vs).toNat)
 case atStart => exact ⟨a + 1, 0, d, by go_num, rfl, by omega, by omega, by omega, hn, HS, HR0⟩
 case round =>
  clear HS HR0
  obtain ⟨i, s, dk, rfl, rfl, hs, hai, hib, hsk, HS, HP⟩ := hrel
  by_cases hs5 : s < 5
  {
  go_wp2
  go_loopw [7] (fun vk wr => ∃ (k : Nat), vk = .int .i64 k ∧ a < k ∧ k ≤ b ∧ Hid (SR w wr blk off dk) ∧ Hid (scanSorted ltInt dk b k = scanSorted ltInt dk b i)) (fun vk _ => b - (intOf vk).toNat)
  case atStart => exact ⟨i, rfl, by omega, by omega, HS, Lib.hid rfl⟩
  case round =>
   clear HS
   obtain ⟨k, rfl, hka, hkb, HS, HSc⟩ := hrel
   by_cases hk : k < b
   {
   obtain ⟨G, hG⟩ : ∃ G : Nat → Int, ∀ t, dk[t]! = G t := ⟨fun t => dk[t]!, fun _ => rfl⟩
   have HG := Lib.hid hG; clear hG
   obtain ⟨k0, hk0⟩ : ∃ k0 : Nat, k0 = k - 1 := ⟨_, rfl⟩
   have wk0 : IntKind.i64.wrap ((k : Int) - 1) = (k0 : Int) := wrapN (by omega) (by omega)
   have ek0 : (k : Int) - 1 = (k0 : Int) := by omega
   have nk : (k : Int) < n := by omega
   have nk0 : (k0 : Int) < n := by omega
   have nek : k ≠ k0 := by omega
   have nek0 : k0 ≠ k := by omega
   have ck : wr.cell? ⟨blk, off + k, none⟩ = some (.int .u64 (G k)) := by rw [HS.out.cell (by omega), HG.out]
   have ck0 : wr.cell? ⟨blk, off + k0, none⟩ = some (.int .u64 (G k0)) := by rw [HS.out.cell (by omega), HG.out]
   have fk : wr.frozen? ⟨blk, off + k, none⟩ = false := HS.out.frozen _
   have fk0 : wr.frozen? ⟨blk, off + k0, none⟩ = false := HS.out.frozen _
   have Hk0 := Lib.hid hk0; clear hk0
   cases hl : ltInt (G k) (G k0) with
   | false => {
   have HSc2 := Lib.hid (show scanSorted ltInt dk b (k + 1) = scanSorted ltInt dk b i by rw [← HSc.out, scanSorted_go ltInt dk b k hk (by rw [← Hk0.out, HG.out, HG.out]; exact hl)])
   go_wp2
   go_quiet (first | (go_at_call 219; refine Calls.quiet_of_same (less_is hl _)))
   go_wp2
   go_roundw
   case rel => exact ⟨k + 1, by go_num, by omega, by omega, Lib.hid (HS.out.drewN nq), HSc2⟩
   case measure => simp [intOf]; omega
   }
   | true => {
   have HK := Lib.hid (show scanSorted ltInt dk b i = k by rw [← HSc.out, scanSorted_stop ltInt dk b k (.inr (by rw [← Hk0.out, HG.out, HG.out]; exact hl))])
   have hkb2 : ((k : Int) == (b : Int)) = false := beq_eq_false_iff_ne.2 (by omega)
   by_cases h50 : b - a < 50
   {
   have hd50 : decide ((b : Int) - a < 50) = true := decide_eq_true (by omega)
   have HRs := Lib.hid (pi_short ltInt a b s i dk hs5 (by rw [HK.out]; omega) h50)
   go_wp2
   go_quiet (first | (go_at_call 219; refine Calls.quiet_of_same (less_is hl _)))
   go_wp2
   go_ret
   exact ⟨by rw [← HP.out, HRs.out]; rfl, by rw [← HP.out, HRs.out]; exact HS.out.drewN nq⟩
   }
   {
   have hd50 : decide ((b : Int) - a < 50) = false := decide_eq_false (by omega)
   by_cases hia : 2 ≤ k - a
   {
   by_cases hbi : 2 ≤ b - k
   {
   have hda : decide (2 ≤ (k : Int) - a) = true := decide_eq_true (by omega)
   have hdb : decide (2 ≤ (b : Int) - k) = true := decide_eq_true (by omega)
   have hsw : ∀ q, SR w (((wr.drewN q).setCell ⟨blk, off + k, none⟩ (.int .u64 (G k0))).setCell ⟨blk, off + k0, none⟩ (.int .u64 (G k))) blk off (swp dk k k0) := fun q => by
     have := HS.out.swap q (i := k) (j := k0) (by omega) (by omega)
     rw [HG.out, HG.out] at this
     exact this
   have HSw := Lib.hid hsw; clear hsw
   go_wp2
   go_quiet (first | (go_at_call 219; refine Calls.quiet_of_same (less_is hl _)))
   go_wp2
   go_region
   all_goals go_wp2
   have HS := Lib.hid (HSw.out (nq + 1))
   generalize ((wr.drewN (nq + 1)).setCell ⟨blk, off + k, none⟩ (.int .u64 (G k0))).setCell ⟨blk, off + k0, none⟩ (.int .u64 (G k)) = wq at *
   obtain ⟨d1, hd1⟩ : ∃ d1, d1 = swp dk k k0 := ⟨_, rfl⟩
   have hs1 : d1.size = n := by rw [hd1, size_swp]; exact hsk
   have H1 := Lib.hid (show swp dk k (k - 1) = d1 by rw [hd1, Hk0.out])
   rw [← hd1] at HS
   clear hd1 HSw ck ck0 fk fk0 hl hkb2
   go_loopw [9] (fun vj wr => ∃ (j : Nat) (dj : Array Int), vj = .int .i64 j ∧ j < k ∧ dj.size = n ∧ Hid (SR w wr blk off dj) ∧ Hid (shiftDown ltInt j dj = shiftDown ltInt (k - 1) d1)) (fun vj _ => (intOf vj).toNat)
   case atStart => exact ⟨k - 1, d1, by congr 1; omega, by omega, hs1, HS, Lib.hid rfl⟩
   case round =>
    clear HS
    obtain ⟨j, dj, rfl, hj1, hsx, HS, HDn⟩ := hrel
    by_cases hjb : 1 ≤ j
    case' pos =>
     obtain ⟨G, hG⟩ : ∃ G : Nat → Int, ∀ t, dj[t]! = G t := ⟨fun t => dj[t]!, fun _ => rfl⟩
     have HG := Lib.hid hG; clear hG
     obtain ⟨j0, hj0⟩ : ∃ j0 : Nat, j0 = j - 1 := ⟨_, rfl⟩
     have wj0 : IntKind.i64.wrap ((j : Int) - 1) = (j0 : Int) := wrapN (by omega) (by omega)
     have ej0 : (j : Int) - 1 = (j0 : Int) := by omega
     have nj : (j : Int) < n := by omega
     have nj0 : (j0 : Int) < n := by omega
     have nej : j ≠ j0 := by omega
     have nej0 : j0 ≠ j := by omega
     have cj : wr.cell? ⟨blk, off + j, none⟩ = some (.int .u64 (G j)) := by rw [HS.out.cell (by omega), HG.out]
     have cj0 : wr.cell? ⟨blk, off + j0, none⟩ = some (.int .u64 (G j0)) := by rw [HS.out.cell (by omega), HG.out]
     have fj : wr.frozen? ⟨blk, off + j, none⟩ = false := HS.out.frozen _
     have fj0 : wr.frozen? ⟨blk, off + j0, none⟩ = false := HS.out.frozen _
     have Hj0 := Lib.hid hj0; clear hj0
     cases hl : ltInt (G j) (G j0)
     case true =>
      have HDn2 := Lib.hid (show shiftDown ltInt j0 (swp dj j j0) = shiftDown ltInt (k - 1) d1 by rw [← HDn.out, shiftDown_go ltInt j dj hjb (by rw [← Hj0.out, HG.out, HG.out]; exact hl), Hj0.out])
      go_wp2
      go_quiet (first | (go_at_call 219; refine Calls.quiet_of_same (less_is hl _)))
      go_wp2
      go_region
      all_goals go_wp2
      go_roundw
      case rel =>
       refine ⟨j0, swp dj j j0, rfl, by omega, by rw [size_swp]; exact hsx, Lib.hid ?_, HDn2⟩
       have := HS.out.swap (nq + 1) (i := j) (j := j0) (by omega) (by omega)
       rw [HG.out, HG.out] at this
       exact this
      case measure => simp [intOf]; omega
     have HX := Lib.hid (show fixDown ltInt a k (swp dk k (k - 1)) = dj by rw [H1.out]; unfold fixDown; rw [if_pos (by omega), ← HDn.out, shiftDown_stop ltInt j dj (.inr (by rw [← Hj0.out, HG.out, HG.out]; exact hl))])
     go_wp2
     go_quiet (first | (go_at_call 219; refine Calls.quiet_of_same (less_is hl _)))
     go_wp2
     have HS := Lib.hid (HS.out.drewN nq)
     generalize wr.drewN nq = wq at *
     clear cj cj0 fj fj0 hl
    case' neg =>
     obtain rfl : j = 0 := by omega
     have HX := Lib.hid (show fixDown ltInt a k (swp dk k (k - 1)) = dj by rw [H1.out]; unfold fixDown; rw [if_pos (by omega), ← HDn.out, shiftDown_stop ltInt 0 dj (.inl rfl)])
     go_wp2
    all_goals
     obtain ⟨dx, hdx⟩ : ∃ dx, dx = dj := ⟨_, rfl⟩
     rw [← hdx] at HS HX hsx
     clear hdx
     go_loopw [10] (fun vj wr => ∃ (j : Nat) (dj : Array Int), vj = .int .i64 j ∧ k + 1 ≤ j ∧ j ≤ b ∧ dj.size = n ∧ Hid (SR w wr blk off dj) ∧ Hid (shiftUp ltInt b j dj = shiftUp ltInt b (k + 1) dx)) (fun vj _ => b - (intOf vj).toNat)
     case atStart => exact ⟨k + 1, dx, by go_num, by omega, by omega, hsx, HS, Lib.hid rfl⟩
     case round =>
      clear HS
      obtain ⟨j, dj, rfl, hj1, hj2, hsj, HS, HUp⟩ := hrel
      by_cases hjb : j < b
      {
      obtain ⟨G, hG⟩ : ∃ G : Nat → Int, ∀ t, dj[t]! = G t := ⟨fun t => dj[t]!, fun _ => rfl⟩
      have HG := Lib.hid hG; clear hG
      obtain ⟨j0, hj0⟩ : ∃ j0 : Nat, j0 = j - 1 := ⟨_, rfl⟩
      have wj0 : IntKind.i64.wrap ((j : Int) - 1) = (j0 : Int) := wrapN (by omega) (by omega)
      have ej0 : (j : Int) - 1 = (j0 : Int) := by omega
      have nj : (j : Int) < n := by omega
      have nj0 : (j0 : Int) < n := by omega
      have nej : j ≠ j0 := by omega
      have nej0 : j0 ≠ j := by omega
      have cj : wr.cell? ⟨blk, off + j, none⟩ = some (.int .u64 (G j)) := by rw [HS.out.cell (by omega), HG.out]
      have cj0 : wr.cell? ⟨blk, off + j0, none⟩ = some (.int .u64 (G j0)) := by rw [HS.out.cell (by omega), HG.out]
      have fj : wr.frozen? ⟨blk, off + j, none⟩ = false := HS.out.frozen _
      have fj0 : wr.frozen? ⟨blk, off + j0, none⟩ = false := HS.out.frozen _
      have Hj0 := Lib.hid hj0; clear hj0
      cases hl : ltInt (G j) (G j0) with
      | true => {
      have HUp2 := Lib.hid (show shiftUp ltInt b (j + 1) (swp dj j j0) = shiftUp ltInt b (k + 1) dx by rw [← HUp.out, shiftUp_go ltInt b j dj hjb (by rw [← Hj0.out, HG.out, HG.out]; exact hl), Hj0.out])
      go_wp2
      go_quiet (first | (go_at_call 219; refine Calls.quiet_of_same (less_is hl _)))
      go_wp2
      go_region
      all_goals go_wp2
      go_roundw
      case rel =>
       refine ⟨j + 1, swp dj j j0, by go_num, by omega, by omega, by rw [size_swp]; exact hsj, Lib.hid ?_, HUp2⟩
       have := HS.out.swap (nq + 1) (i := j) (j := j0) (by omega) (by omega)
       rw [HG.out, HG.out] at this
       exact this
      case measure => simp [intOf]; omega
      }
      | false => {
      go_wp2
      go_quiet (first | (go_at_call 219; refine Calls.quiet_of_same (less_is hl _)))
      go_wp2
      go_roundw
      case rel => exact ⟨k, s + 1, _, rfl, by go_num, by omega, by omega, by omega, hsj, Lib.hid (HS.out.drewN nq), Lib.hid (by rw [← HP.out, pi_go ltInt a b s i k dk hs5 HK.out (by omega) (by omega)]; rw [show fixUp ltInt b k (fixDown ltInt a k (swp dk k (k - 1))) = dj by rw [HX.out]; unfold fixUp; rw [if_pos (by omega), ← HUp.out, shiftUp_stop ltInt b j dj (.inr (by rw [← Hj0.out, HG.out, HG.out]; exact hl))]])⟩
      case measure => simp [intOf]; omega
      }
      }
      {
      go_wp2
      go_roundw
      case rel => exact ⟨k, s + 1, _, rfl, by go_num, by omega, by omega, by omega, hsj, HS, Lib.hid (by rw [← HP.out, pi_go ltInt a b s i k dk hs5 HK.out (by omega) (by omega)]; rw [show fixUp ltInt b k (fixDown ltInt a k (swp dk k (k - 1))) = dj by rw [HX.out]; unfold fixUp; rw [if_pos (by omega), ← HUp.out, shiftUp_stop ltInt b j dj (.inl hjb)]])⟩
      case measure => simp [intOf]; omega
      }
   }
   {
   have hda : decide (2 ≤ (k : Int) - a) = true := decide_eq_true (by omega)
   have hdb : decide (2 ≤ (b : Int) - k) = false := decide_eq_false (by omega)
   have hsw : ∀ q, SR w (((wr.drewN q).setCell ⟨blk, off + k, none⟩ (.int .u64 (G k0))).setCell ⟨blk, off + k0, none⟩ (.int .u64 (G k))) blk off (swp dk k k0) := fun q => by
     have := HS.out.swap q (i := k) (j := k0) (by omega) (by omega)
     rw [HG.out, HG.out] at this
     exact this
   have HSw := Lib.hid hsw; clear hsw
   go_wp2
   go_quiet (first | (go_at_call 219; refine Calls.quiet_of_same (less_is hl _)))
   go_wp2
   go_region
   all_goals go_wp2
   have HS := Lib.hid (HSw.out (nq + 1))
   generalize ((wr.drewN (nq + 1)).setCell ⟨blk, off + k, none⟩ (.int .u64 (G k0))).setCell ⟨blk, off + k0, none⟩ (.int .u64 (G k)) = wq at *
   obtain ⟨d1, hd1⟩ : ∃ d1, d1 = swp dk k k0 := ⟨_, rfl⟩
   have hs1 : d1.size = n := by rw [hd1, size_swp]; exact hsk
   have H1 := Lib.hid (show swp dk k (k - 1) = d1 by rw [hd1, Hk0.out])
   rw [← hd1] at HS
   clear hd1 HSw ck ck0 fk fk0 hl hkb2
   go_loopw [9] (fun vj wr => ∃ (j : Nat) (dj : Array Int), vj = .int .i64 j ∧ j < k ∧ dj.size = n ∧ Hid (SR w wr blk off dj) ∧ Hid (shiftDown ltInt j dj = shiftDown ltInt (k - 1) d1)) (fun vj _ => (intOf vj).toNat)
   case atStart => exact ⟨k - 1, d1, by congr 1; omega, by omega, hs1, HS, Lib.hid rfl⟩
   case round =>
    clear HS
    obtain ⟨j, dj, rfl, hj1, hsx, HS, HDn⟩ := hrel
    by_cases hjb : 1 ≤ j
    case' pos =>
     obtain ⟨G, hG⟩ : ∃ G : Nat → Int, ∀ t, dj[t]! = G t := ⟨fun t => dj[t]!, fun _ => rfl⟩
     have HG := Lib.hid hG; clear hG
     obtain ⟨j0, hj0⟩ : ∃ j0 : Nat, j0 = j - 1 := ⟨_, rfl⟩
     have wj0 : IntKind.i64.wrap ((j : Int) - 1) = (j0 : Int) := wrapN (by omega) (by omega)
     have ej0 : (j : Int) - 1 = (j0 : Int) := by omega
     have nj : (j : Int) < n := by omega
     have nj0 : (j0 : Int) < n := by omega
     have nej : j ≠ j0 := by omega
     have nej0 : j0 ≠ j := by omega
     have cj : wr.cell? ⟨blk, off + j, none⟩ = some (.int .u64 (G j)) := by rw [HS.out.cell (by omega), HG.out]
     have cj0 : wr.cell? ⟨blk, off + j0, none⟩ = some (.int .u64 (G j0)) := by rw [HS.out.cell (by omega), HG.out]
     have fj : wr.frozen? ⟨blk, off + j, none⟩ = false := HS.out.frozen _
     have fj0 : wr.frozen? ⟨blk, off + j0, none⟩ = false := HS.out.frozen _
     have Hj0 := Lib.hid hj0; clear hj0
     cases hl : ltInt (G j) (G j0)
     case true =>
      have HDn2 := Lib.hid (show shiftDown ltInt j0 (swp dj j j0) = shiftDown ltInt (k - 1) d1 by rw [← HDn.out, shiftDown_go ltInt j dj hjb (by rw [← Hj0.out, HG.out, HG.out]; exact hl), Hj0.out])
      go_wp2
      go_quiet (first | (go_at_call 219; refine Calls.quiet_of_same (less_is hl _)))
      go_wp2
      go_region
      all_goals go_wp2
      go_roundw
      case rel =>
       refine ⟨j0, swp dj j j0, rfl, by omega, by rw [size_swp]; exact hsx, Lib.hid ?_, HDn2⟩
       have := HS.out.swap (nq + 1) (i := j) (j := j0) (by omega) (by omega)
       rw [HG.out, HG.out] at this
       exact this
      case measure => simp [intOf]; omega
     have HX := Lib.hid (show fixDown ltInt a k (swp dk k (k - 1)) = dj by rw [H1.out]; unfold fixDown; rw [if_pos (by omega), ← HDn.out, shiftDown_stop ltInt j dj (.inr (by rw [← Hj0.out, HG.out, HG.out]; exact hl))])
     go_wp2
     go_quiet (first | (go_at_call 219; refine Calls.quiet_of_same (less_is hl _)))
     go_wp2
     have HS := Lib.hid (HS.out.drewN nq)
     generalize wr.drewN nq = wq at *
     clear cj cj0 fj fj0 hl
    case' neg =>
     obtain rfl : j = 0 := by omega
     have HX := Lib.hid (show fixDown ltInt a k (swp dk k (k - 1)) = dj by rw [H1.out]; unfold fixDown; rw [if_pos (by omega), ← HDn.out, shiftDown_stop ltInt 0 dj (.inl rfl)])
     go_wp2
    all_goals
     obtain ⟨dx, hdx⟩ : ∃ dx, dx = dj := ⟨_, rfl⟩
     rw [← hdx] at HS HX hsx
     clear hdx
     go_roundw
     case rel => exact ⟨k, s + 1, _, rfl, by go_num, by omega, by omega, by omega, hsx, HS, Lib.hid (by rw [← HP.out, pi_go ltInt a b s i k dk hs5 HK.out (by omega) (by omega)]; rw [show fixUp ltInt b k (fixDown ltInt a k (swp dk k (k - 1))) = dx by rw [HX.out]; unfold fixUp; rw [if_neg (by omega)]])⟩
     case measure => simp [intOf]; omega
   }
   }
   {
   by_cases hbi : 2 ≤ b - k
   {
   have hda : decide (2 ≤ (k : Int) - a) = false := decide_eq_false (by omega)
   have hdb : decide (2 ≤ (b : Int) - k) = true := decide_eq_true (by omega)
   have hsw : ∀ q, SR w (((wr.drewN q).setCell ⟨blk, off + k, none⟩ (.int .u64 (G k0))).setCell ⟨blk, off + k0, none⟩ (.int .u64 (G k))) blk off (swp dk k k0) := fun q => by
     have := HS.out.swap q (i := k) (j := k0) (by omega) (by omega)
     rw [HG.out, HG.out] at this
     exact this
   have HSw := Lib.hid hsw; clear hsw
   go_wp2
   go_quiet (first | (go_at_call 219; refine Calls.quiet_of_same (less_is hl _)))
   go_wp2
   go_region
   all_goals go_wp2
   have HS := Lib.hid (HSw.out (nq + 1))
   generalize ((wr.drewN (nq + 1)).setCell ⟨blk, off + k, none⟩ (.int .u64 (G k0))).setCell ⟨blk, off + k0, none⟩ (.int .u64 (G k)) = wq at *
   obtain ⟨d1, hd1⟩ : ∃ d1, d1 = swp dk k k0 := ⟨_, rfl⟩
   have hs1 : d1.size = n := by rw [hd1, size_swp]; exact hsk
   have H1 := Lib.hid (show swp dk k (k - 1) = d1 by rw [hd1, Hk0.out])
   rw [← hd1] at HS
   clear hd1 HSw ck ck0 fk fk0 hl hkb2
   have HX := Lib.hid (show fixDown ltInt a k (swp dk k (k - 1)) = d1 by rw [H1.out]; unfold fixDown; rw [if_neg (by omega)])
   obtain ⟨dx, hdx⟩ : ∃ dx, dx = d1 := ⟨_, rfl⟩
   have hsx : dx.size = n := by rw [hdx]; exact hs1
   rw [← hdx] at HS HX
   clear hdx
   go_loopw [10] (fun vj wr => ∃ (j : Nat) (dj : Array Int), vj = .int .i64 j ∧ k + 1 ≤ j ∧ j ≤ b ∧ dj.size = n ∧ Hid (SR w wr blk off dj) ∧ Hid (shiftUp ltInt b j dj = shiftUp ltInt b (k + 1) dx)) (fun vj _ => b - (intOf vj).toNat)
   case atStart => exact ⟨k + 1, dx, by go_num, by omega, by omega, hsx, HS, Lib.hid rfl⟩
   case round =>
    clear HS
    obtain ⟨j, dj, rfl, hj1, hj2, hsj, HS, HUp⟩ := hrel
    by_cases hjb : j < b
    {
    obtain ⟨G, hG⟩ : ∃ G : Nat → Int, ∀ t, dj[t]! = G t := ⟨fun t => dj[t]!, fun _ => rfl⟩
    have HG := Lib.hid hG; clear hG
    obtain ⟨j0, hj0⟩ : ∃ j0 : Nat, j0 = j - 1 := ⟨_, rfl⟩
    have wj0 : IntKind.i64.wrap ((j : Int) - 1) = (j0 : Int) := wrapN (by omega) (by omega)
    have ej0 : (j : Int) - 1 = (j0 : Int) := by omega
    have nj : (j : Int) < n := by omega
    have nj0 : (j0 : Int) < n := by omega
    have nej : j ≠ j0 := by omega
    have nej0 : j0 ≠ j := by omega
    have cj : wr.cell? ⟨blk, off + j, none⟩ = some (.int .u64 (G j)) := by rw [HS.out.cell (by omega), HG.out]
    have cj0 : wr.cell? ⟨blk, off + j0, none⟩ = some (.int .u64 (G j0)) := by rw [HS.out.cell (by omega), HG.out]
    have fj : wr.frozen? ⟨blk, off + j, none⟩ = false := HS.out.frozen _
    have fj0 : wr.frozen? ⟨blk, off + j0, none⟩ = false := HS.out.frozen _
    have Hj0 := Lib.hid hj0; clear hj0
    cases hl : ltInt (G j) (G j0) with
    | true => {
    have HUp2 := Lib.hid (show shiftUp ltInt b (j + 1) (swp dj j j0) = shiftUp ltInt b (k + 1) dx by rw [← HUp.out, shiftUp_go ltInt b j dj hjb (by rw [← Hj0.out, HG.out, HG.out]; exact hl), Hj0.out])
    go_wp2
    go_quiet (first | (go_at_call 219; refine Calls.quiet_of_same (less_is hl _)))
    go_wp2
    go_region
    all_goals go_wp2
    go_roundw
    case rel =>
     refine ⟨j + 1, swp dj j j0, by go_num, by omega, by omega, by rw [size_swp]; exact hsj, Lib.hid ?_, HUp2⟩
     have := HS.out.swap (nq + 1) (i := j) (j := j0) (by omega) (by omega)
     rw [HG.out, HG.out] at this
     exact this
    case measure => simp [intOf]; omega
    }
    | false => {
    go_wp2
    go_quiet (first | (go_at_call 219; refine Calls.quiet_of_same (less_is hl _)))
    go_wp2
    go_roundw
    case rel => exact ⟨k, s + 1, _, rfl, by go_num, by omega, by omega, by omega, hsj, Lib.hid (HS.out.drewN nq), Lib.hid (by rw [← HP.out, pi_go ltInt a b s i k dk hs5 HK.out (by omega) (by omega)]; rw [show fixUp ltInt b k (fixDown ltInt a k (swp dk k (k - 1))) = dj by rw [HX.out]; unfold fixUp; rw [if_pos (by omega), ← HUp.out, shiftUp_stop ltInt b j dj (.inr (by rw [← Hj0.out, HG.out, HG.out]; exact hl))]])⟩
    case measure => simp [intOf]; omega
    }
    }
    {
    go_wp2
    go_roundw
    case rel => exact ⟨k, s + 1, _, rfl, by go_num, by omega, by omega, by omega, hsj, HS, Lib.hid (by rw [← HP.out, pi_go ltInt a b s i k dk hs5 HK.out (by omega) (by omega)]; rw [show fixUp ltInt b k (fixDown ltInt a k (swp dk k (k - 1))) = dj by rw [HX.out]; unfold fixUp; rw [if_pos (by omega), ← HUp.out, shiftUp_stop ltInt b j dj (.inl hjb)]])⟩
    case measure => simp [intOf]; omega
    }
   }
   {
   exfalso
   omega
   }
   }
   }
   }
   }
   {
   obtain rfl : k = b := by omega
   have HK := Lib.hid (show scanSorted ltInt dk k i = k by rw [← HSc.out, scanSorted_stop ltInt dk k k (.inl hk)])
   have HRs := Lib.hid (pi_true ltInt a k s i dk hs5 HK.out)
   go_wp2
   go_quiet (first | (go_at_call 219; refine Calls.quiet_of_same (less_is rfl _)))
   go_wp2
   go_ret
   exact ⟨by rw [← HP.out, HRs.out]; rfl, by rw [← HP.out, HRs.out]; exact HS.out.drewN nq⟩
   }
  }
  {
  obtain rfl : s = 5 := by omega
  go_wp2
  go_ret
  exact ⟨by rw [← HP.out, pi_end]; rfl, by rw [← HP.out, pi_end]; exact HS.out⟩
  }
end Go.Proofs.YtgmnemndjjmgkaaGreat

/- slices.Sort at uint64: pdqsortOrdered. -/
namespace Go.Proofs.YtgmnemndjjmgkaaGreat
open Go.RowKit Go.Sort
set_option maxRecDepth 100000
set_option maxHeartbeats 6400000
structure PdqR (d : Array Int) (a b lim : Nat) (wb wp : Bool) (R : Rd Int) : Prop where
  bal : wb = true → R.d1 = d ∧ R.lim = lim
  unb : wb = false → R.d1 = breakPatterns d a b ∧ R.lim = lim - 1
  c : R.c = choosePivot ltInt R.d1 a b
  dec : R.c.2 = .decreasing → R.d2 = reverseRange R.d1 a b ∧ R.pivot = (b - 1) - (R.c.1 - a) ∧ R.hint = .increasing
  ndec : R.c.2 ≠ .decreasing → R.d2 = R.d1 ∧ R.pivot = R.c.1 ∧ R.hint = R.c.2
  yes : (wb && wp && decide (R.hint = .increasing)) = true → R.pi = partialInsertionSort ltInt R.d2 a b
  no : (wb && wp && decide (R.hint = .increasing)) = false → R.pi = (R.d2, false)
  s1 : R.d1.size = d.size
  c1 : a ≤ R.c.1 ∧ R.c.1 < b
  s2 : R.d2.size = d.size
  pv : a ≤ R.pivot ∧ R.pivot < b
  s3 : R.pi.1.size = d.size
  B3 : Sort.Below ltInt a b R.pi.1
  lm : R.lim ≤ lim
  done : R.pi.2 = true → pdq ltInt d a b lim wb wp = R.pi.1
  eq : R.pi.2 = false → (decide (a > 0) && !ltInt R.pi.1[a - 1]! R.pi.1[R.pivot]!) = true → ∀ mid d4, partitionEqual ltInt R.pi.1 a b R.pivot = (mid, d4) → a < mid ∧ mid ≤ b → pdq ltInt d a b lim wb wp = pdq ltInt d4 mid b R.lim wb wp
  left : R.pi.2 = false → (decide (a > 0) && !ltInt R.pi.1[a - 1]! R.pi.1[R.pivot]!) = false → ∀ mid ap d4, partition ltInt R.pi.1 a b R.pivot = (mid, ap, d4) → a ≤ mid ∧ mid < b → mid - a < b - mid →
    pdq ltInt d a b lim wb wp = pdq ltInt (pdq ltInt d4 a mid R.lim true true) (mid + 1) b R.lim (decide (mid - a ≥ (b - a) / 8)) ap
  right : R.pi.2 = false → (decide (a > 0) && !ltInt R.pi.1[a - 1]! R.pi.1[R.pivot]!) = false → ∀ mid ap d4, partition ltInt R.pi.1 a b R.pivot = (mid, ap, d4) → a ≤ mid ∧ mid < b → ¬ mid - a < b - mid →
    pdq ltInt d a b lim wb wp = pdq ltInt (pdq ltInt d4 (mid + 1) b R.lim true true) a mid R.lim (decide (b - mid ≥ (b - a) / 8)) ap
theorem pdq_round {d : Array Int} {a b lim : Nat} (wb wp : Bool) (h12 : ¬ b - a ≤ 12) (hl : ¬ lim = 0) (hb : b ≤ d.size) (hB : Sort.Below ltInt a b d) : ∃ R, PdqR d a b lim wb wp R := by
 obtain ⟨s1, _, hc1, s2, _, hpv, s3, B3⟩ := rd_facts (limit := lim) (wb := wb) (wp := wp) swo_ltInt partialInsertionSort_holds reverseRange_holds (show a < b by omega) hb hB
 refine ⟨rd ltInt d a b lim wb wp, ?_, ?_, rd_c, rd_dec, rd_not, rd_pi_yes, rd_pi_no, s1, hc1, s2, hpv, s3, B3, rd_lim_le, pdq_done h12 hl, ?_, ?_, ?_⟩
 · rintro rfl; exact rd_true
 · rintro rfl; exact rd_false
 {
 intro h1 h2 mid d4 hx h3
 have := pdq_eq (wb := wb) (wp := wp) h12 hl h1 h2 (by rw [hx]; exact h3)
 rw [hx] at this; exact this
 }
 {
 intro h1 h2 mid ap d4 hx h3 h4
 have := pdq_left (wb := wb) (wp := wp) h12 hl h1 h2 (by rw [hx]; exact h3) (by rw [hx]; exact h4)
 rw [hx] at this; exact this
 }
 {
 intro h1 h2 mid ap d4 hx h3 h4
 have := pdq_right (wb := wb) (wp := wp) h12 hl h1 h2 (by rw [hx]; exact h3) (by rw [hx]; exact h4)
 rw [hx] at this; exact this
 }
theorem pdq_u {w : World} {blk off cap n : Nat} (hsz : n < 4611686018427387904) : ∀ (N a b limit : Nat) (d : Array Int) (wr : World), b - a < N → SR w wr blk off d → d.size = n → a ≤ b → b ≤ n → limit < 4611686018427387904 → Sort.Below ltInt a b d →
    Calls Tryz.prog 198 #[.slice (some ⟨blk, off, none⟩) n cap, .int .i64 a, .int .i64 b, .int .i64 limit] wr fun e w' => e = .returned (.tuple #[]) ∧ SR w w' blk off (pdq ltInt d a b limit true true) := by
 intro N
 induction N with
 | zero => intro _ _ _ _ _ h; exact absurd h (Nat.not_lt_zero _)
 | succ N ih => {
 intro a b limit d wr hN hS hn hab hb hlimit hBel0
 have IH := Lib.hid ih; clear ih
 have HS := Lib.hid hS; clear hS
 have HB := Lib.hid hBel0; clear hBel0
 obtain ⟨res, hres⟩ : ∃ res, pdq ltInt d a b limit true true = res := ⟨_, rfl⟩
 rw [hres]
 have HR0 := Lib.hid hres; clear hres
 go_enter Tryz.func198, Tryz.ntmps198
 go_wp2
 go_loopg [1, 2, 3, 8, 9] (b - a) (fun k s1 s2 s3 s8 s9 wr => ∃ (x y lim : Nat) (wb wp : Bool) (dk : Array Int), s1 = .int .i64 x ∧ s2 = .int .i64 y ∧ s3 = .int .i64 lim ∧ s8 = .bool wb ∧ s9 = .bool wp ∧
   x ≤ y ∧ y ≤ n ∧ y - x ≤ k ∧ k ≤ b - a ∧ lim ≤ limit ∧ dk.size = n ∧ Hid (Sort.Below ltInt x y dk) ∧ Hid (SR w wr blk off dk) ∧ Hid (pdq ltInt dk x y lim wb wp = res))
 case atStart => exact ⟨a, b, limit, true, true, d, rfl, rfl, rfl, rfl, rfl, hab, hb, Nat.le_refl _, Nat.le_refl _, Nat.le_refl _, hn, HB, HS, HR0⟩
 case round =>
  clear HB HS HR0
  obtain ⟨x, y, lim, wb, wp, dk, rfl, rfl, rfl, rfl, rfl, hxy, hy, hk, hkN, hlim, hsk, HB, HS, HR⟩ := hrel
  by_cases h12 : y - x ≤ 12
  {
  have h12z : (y : Int) - (x : Int) ≤ 12 := by omega
  have HC := ins_u (cap := cap) HS.out hxy (by omega) (by omega)
  rw [hsk] at HC
  have HC := Lib.hid HC
  go_wp2_with (go_at_call 213; refine HC.out.mono ?_; rintro e w1 ⟨rfl, hw1⟩)
  (try simp only [Exit.inBlock, Exit.then]); refine bodyPost_ret (results_none rfl _ _ _) rfl ?_
  exact ⟨rfl, by rw [← HR.out, pdq_small h12]; exact hw1⟩
  }
  {
  have h12z : ¬ ((y : Int) - (x : Int) ≤ 12) := by omega
  by_cases hl0 : lim = 0
  {
  subst hl0
  have HC := Lib.hid (heap_u (cap := cap) HS.out hsk hxy hy hsz)
  go_wp2_with (go_at_call 214; refine HC.out.mono ?_; rintro e w1 ⟨rfl, hw1⟩)
  (try simp only [Exit.inBlock, Exit.then]); refine bodyPost_ret (results_none rfl _ _ _) rfl ?_
  exact ⟨rfl, by rw [← HR.out, pdq_heap h12 rfl]; exact hw1⟩
  }
  {
  have hl0z : ¬ ((lim : Int) = 0) := by omega
  obtain ⟨R, hP⟩ := pdq_round wb wp h12 hl0 (show y ≤ dk.size by omega) HB.out
  have hc1 := hP.c1
  have hpv := hP.pv
  have hlm := hP.lm
  have PR := Lib.hid hP; clear hP
  have hs1 : R.d1.size = n := by rw [PR.out.s1]; exact hsk
  have hs2 : R.d2.size = n := by rw [PR.out.s2]; exact hsk
  have hs3 : R.pi.1.size = n := by rw [PR.out.s3]; exact hsk
  go_upto_if 35 with fail
  go_cut [3] from 19 (fun s3 wc => s3 = .int .i64 R.lim ∧ Hid (SR w wc blk off R.d1))
  case first =>
   cases wb
   {
   have HC := Lib.hid (break_u (cap := cap) HS.out hsk hxy hy hsz)
   go_wp2_with (go_at_call 215; refine HC.out.mono ?_; rintro e w1 ⟨rfl, hw1⟩)
   go_meet
   case rel =>
    obtain ⟨e1, e2⟩ := PR.out.unb rfl
    exact ⟨by rw [e2]; congr 1; omega, Lib.hid (by rw [e1]; exact hw1)⟩
   }
   {
   go_wp2_with fail
   go_meet
   case rel =>
    obtain ⟨e1, e2⟩ := PR.out.bal rfl
    exact ⟨by rw [e2], by rw [e1]; exact HS⟩
   }
  case rest =>
   clear HS
   obtain ⟨rfl, HS1⟩ := hcut
   have HC := pivot_u (cap := cap) HS1.out hs1 (show x < y by omega) hy hsz
   rw [← PR.out.c] at HC
   have HC := Lib.hid HC
   go_upto_if 50 with (go_at_call 216; refine HC.out.mono ?_; rintro e w2 ⟨rfl, hw2⟩)
   have HS2 := Lib.hid hw2; clear hw2 HC HS1
   go_cut [11, 12] from 19 (fun s11 s12 wc => s11 = .int .i64 R.pivot ∧ s12 = .int .i64 (hintCode R.hint) ∧ Hid (SR w wc blk off R.d2))
   case first =>
    by_cases hh : R.c.2 = .decreasing
    {
    have hcode : hintCode R.c.2 = 2 := by rw [hh]; rfl
    have HC := Lib.hid (rev_u (cap := cap) HS2.out hs1 hxy hy hsz)
    go_wp2_with (go_at_call 217; refine HC.out.mono ?_; rintro e w3 ⟨rfl, hw3⟩)
    go_meet
    case rel =>
     obtain ⟨e1, e2, e3⟩ := PR.out.dec hh
     exact ⟨by rw [e2]; congr 1; omega, by rw [e3]; rfl, Lib.hid (by rw [e1]; exact hw3)⟩
    }
    {
    have hcode : ¬ (hintCode R.c.2 = 2) := fun h => hh (hintCode_two h)
    go_wp2_with fail
    go_meet
    case rel =>
     obtain ⟨e1, e2, e3⟩ := PR.out.ndec hh
     exact ⟨by rw [e2], by rw [e3], by rw [e1]; exact HS2⟩
    }
   case rest =>
    clear HS2
    obtain ⟨rfl, rfl, HS3⟩ := hcut
    go_upto_region 15 with fail
    go_cut [12, 68] from 19 (fun s12 s68 wx => s12 = .int .i64 (hintCode R.hint) ∧ s68 = .bool (wb && wp && decide (R.hint = .increasing)) ∧ wx = wc)
    case first =>
     cases wb <;> cases wp <;> cases hh3 : R.hint <;>
       (have hcode3 := congrArg hintCode hh3
        simp only [hintCode] at hcode3
        go_wp2_with fail
        go_meet
        exact ⟨by simp [hh3, hintCode], by simp [hh3, hintCode], rfl⟩)
    case rest =>
     obtain ⟨rfl, rfl, rfl⟩ := hcut
     go_upto_if 68 with fail
     go_cut [] from 19 (fun wx => R.pi.2 = false ∧ Hid (SR w wx blk off R.pi.1))
     case first =>
      cases h68 : (wb && wp && decide (R.hint = .increasing))
      {
      go_wp2_with fail
      go_meet
      case rel =>
       have e1 := PR.out.no h68
       exact ⟨by rw [e1], by rw [e1]; exact HS3⟩
      }
      {
      have HC := pins_u (cap := cap) HS3.out hs2 (show x < y by omega) hy hsz
      rw [← PR.out.yes h68] at HC
      have HC := Lib.hid HC
      cases hpi : R.pi.2 with
      | false => {
      rw [hpi] at HC
      go_wp2_with (go_at_call 218; refine HC.out.mono ?_; rintro e w4 ⟨rfl, hw4⟩)
      go_meet
      case rel => exact ⟨hpi, Lib.hid hw4⟩
      }
      | true => {
      rw [hpi] at HC
      go_wp2_with (go_at_call 218; refine HC.out.mono ?_; rintro e w4 ⟨rfl, hw4⟩)
      (try simp only [Exit.inBlock, Exit.then]); refine bodyPost_ret (results_none rfl _ _ _) rfl ?_
      exact ⟨rfl, by rw [← HR.out, PR.out.done hpi]; exact hw4⟩
      }
      }
     case rest =>
      clear HS3
      obtain ⟨hp2, HS5⟩ := hcut
      have Hp2 := Lib.hid hp2; clear hp2
      obtain ⟨G, hG⟩ : ∃ G : Nat → Int, ∀ t, R.pi.1[t]! = G t := ⟨fun t => R.pi.1[t]!, fun _ => rfl⟩
      have HG := Lib.hid hG; clear hG
      obtain ⟨x0, hx0⟩ : ∃ x0 : Nat, x0 = x - 1 := ⟨_, rfl⟩
      have Hx0 := Lib.hid hx0; clear hx0
      go_upto_region 17 with fail
      go_cut [87] from 19 (fun s87 wx => s87 = .bool (decide (x > 0) && !ltInt (G x0) (G R.pivot)) ∧ Hid (SR w wx blk off R.pi.1))
      case first =>
       rcases Nat.eq_zero_or_pos x with ha0 | ha0
       {
       have ha0z : decide ((x : Int) > 0) = false := decide_eq_false (by omega)
       go_big_quiet (first | (go_at_call 219; refine Calls.quiet_of_same (less_u _ _ _)))
       go_wp2_with fail
       go_meet
       case rel => exact ⟨by simp [ha0], Lib.hid (HS5.out.drewN nq)⟩
       }
       {
       have ha0z : (x : Int) > 0 := by omega
       have wx0 : IntKind.i64.wrap ((x : Int) - 1) = (x0 : Int) := wrapN (by have := Hx0.out; omega) (by have := Hx0.out; omega)
       have c1 : wc.cell? ⟨blk, off + x0, none⟩ = some (.int .u64 (G x0)) := by rw [HS5.out.cell (by have := Hx0.out; omega), HG.out]
       have c2 : wc.cell? ⟨blk, off + R.pivot, none⟩ = some (.int .u64 (G R.pivot)) := by rw [HS5.out.cell (by omega), HG.out]
       have n1 : (x0 : Int) < n := by have := Hx0.out; omega
       have n2 : (R.pivot : Int) < n := by omega
       go_big_quiet (first | (go_at_call 219; refine Calls.quiet_of_same (less_u _ _ _)))
       go_wp2_with fail
       go_meet
       case rel => exact ⟨by simp [ha0], Lib.hid (HS5.out.drewN nq)⟩
       }
      case rest =>
       clear HS5
       obtain ⟨rfl, HS6⟩ := hcut
       have h87e : (decide (x > 0) && !ltInt R.pi.1[x - 1]! R.pi.1[R.pivot]!) = (decide (x > 0) && !ltInt (G x0) (G R.pivot)) := by rw [HG.out, HG.out, Hx0.out]
       have H87 := Lib.hid h87e; clear h87e
       cases h87 : (decide (x > 0) && !ltInt (G x0) (G R.pivot))
       {
       obtain ⟨mid, ap, d4, hx⟩ : ∃ mid ap d4, partition ltInt R.pi.1 x y R.pivot = (mid, ap, d4) := ⟨_, _, _, rfl⟩
       obtain ⟨r1, r2, r3, r4, r5, r6, r7⟩ := round_part swo_ltInt (partition_holds ltInt) hpv.1 hpv.2 (show y ≤ R.pi.1.size by omega) PR.out.B3 hx
       have HC := part_u (cap := cap) HS6.out hs3 hpv.1 hpv.2 hy hsz
       rw [hx] at HC
       have HC := Lib.hid HC
       have HX := Lib.hid hx; clear hx
       have hs4 : d4.size = n := by rw [r3]; exact hs3
       go_upto_if 113 with (go_at_call 221; refine HC.out.mono ?_; rintro e w7 ⟨rfl, hw7⟩)
       have HS7 := Lib.hid hw7; clear hw7 HC HS6
       by_cases h4 : mid - x < y - mid
       {
       have h4z : (mid : Int) - (x : Int) < (y : Int) - (mid : Int) := by omega
       have HC := Lib.hid (IH.out x mid R.lim d4 w7 (by omega) HS7.out hs4 (by omega) (by omega) (by omega) r4)
       obtain ⟨pL, sL⟩ := pdq_sorts ltInt swo_ltInt d4 x mid R.lim true true (by omega) (by omega) r4
       have HL := Lib.hid (PR.out.left Hp2.out (H87.out.trans h87) mid ap d4 HX.out ⟨r1, r2⟩ h4)
       have HBn := Lib.hid (r6 _ pL sL).1
       have hsn : (pdq ltInt d4 x mid R.lim true true).size = n := by rw [pL.1]; exact hs4
       clear r4 r5 r6 r7 pL sL r3
       generalize pdq ltInt d4 x mid R.lim true true = d5 at *
       go_wp2_with (go_at_call 198; refine HC.out.mono ?_; rintro e w8 ⟨rfl, hw8⟩)
       go_roundg (y - (mid + 1))
       case measure => omega
       case rel =>
        refine ⟨mid + 1, y, R.lim, decide (mid - x ≥ (y - x) / 8), ap, d5, by simp, rfl, rfl, ?_, rfl, by omega, by omega, Nat.le_refl _, by omega, by omega, hsn, HBn, Lib.hid hw8, Lib.hid ?_⟩
        · exact congrArg Value.bool (eighth (by omega) (by omega))
        · rw [← HR.out, HL.out]
       }
       {
       have h4z : ¬ ((mid : Int) - (x : Int) < (y : Int) - (mid : Int)) := by omega
       have HC := Lib.hid (IH.out (mid + 1) y R.lim d4 w7 (by omega) HS7.out hs4 (by omega) (by omega) (by omega) r5)
       obtain ⟨pL, sL⟩ := pdq_sorts ltInt swo_ltInt d4 (mid + 1) y R.lim true true (by omega) (by omega) r5
       have HL := Lib.hid (PR.out.right Hp2.out (H87.out.trans h87) mid ap d4 HX.out ⟨r1, r2⟩ h4)
       have HBn := Lib.hid (r7 _ pL sL).1
       have hsn : (pdq ltInt d4 (mid + 1) y R.lim true true).size = n := by rw [pL.1]; exact hs4
       clear r4 r5 r6 r7 pL sL r3
       generalize pdq ltInt d4 (mid + 1) y R.lim true true = d5 at *
       go_wp2_with (go_at_call 198; refine HC.out.mono ?_; rintro e w8 ⟨rfl, hw8⟩)
       go_roundg (mid - x)
       case measure => omega
       case rel =>
        refine ⟨x, mid, R.lim, decide (y - mid ≥ (y - x) / 8), ap, d5, rfl, rfl, rfl, ?_, rfl, by omega, by omega, Nat.le_refl _, by omega, by omega, hsn, HBn, Lib.hid hw8, Lib.hid ?_⟩
        · exact congrArg Value.bool (eighth (by omega) (by omega))
        · rw [← HR.out, HL.out]
       }
       }
       {
       have h87' := H87.out.trans h87
       have h87'' := h87'
       simp only [Bool.and_eq_true, decide_eq_true_eq, Bool.not_eq_true'] at h87'
       obtain ⟨mid, d4, hx⟩ : ∃ mid d4, partitionEqual ltInt R.pi.1 x y R.pivot = (mid, d4) := ⟨_, _, rfl⟩
       obtain ⟨r1, r2, r3, r4, _⟩ := round_eq swo_ltInt (partitionEqual_holds ltInt) h87'.1 hpv.1 hpv.2 (show y ≤ R.pi.1.size by omega) PR.out.B3 h87'.2 hx
       have HC := peq_u (cap := cap) HS6.out hs3 hpv.1 hpv.2 hy hsz
       rw [hx] at HC
       have HC := Lib.hid HC
       have HL := Lib.hid (PR.out.eq Hp2.out h87'' mid d4 hx ⟨r1, r2⟩)
       have HX := Lib.hid hx; clear hx h87' h87''
       have hs4 : d4.size = n := by rw [r3]; exact hs3
       have HBn := Lib.hid r4
       clear r4 r3
       go_wp2_with (go_at_call 220; refine HC.out.mono ?_; rintro e w7 ⟨rfl, hw7⟩)
       go_roundg (y - mid)
       case measure => omega
       case rel => exact ⟨mid, y, R.lim, wb, wp, d4, rfl, rfl, rfl, rfl, rfl, r2, hy, Nat.le_refl _, by omega, by omega, hs4, HBn, Lib.hid hw7, Lib.hid (by rw [← HR.out, HL.out])⟩
       }
  }
  }
 }
end Go.Proofs.YtgmnemndjjmgkaaGreat

/- slices.Sort at uint64. -/
namespace Go.Proofs.YtgmnemndjjmgkaaGreat
open Go.RowKit Go.Sort
set_option maxRecDepth 10000
set_option maxHeartbeats 800000
theorem sort_u {w wr : World} {blk off cap n : Nat} {d : Array Int} (h : SR w wr blk off d) (hn : d.size = n) (hsz : n < 4611686018427387904) :
    Calls Tryz.prog 162 #[.slice (some ⟨blk, off, none⟩) n cap] wr fun e w' => e = .returned (.tuple #[]) ∧ SR w w' blk off (Sort.sort ltInt d) := by
 have hl : bitsLen n < 4611686018427387904 := Nat.lt_of_le_of_lt ((bitsLen_le_iff n 62).2 (by omega)) (by decide)
 have HL := Lib.hid (len_u n hsz wr)
 have HP := pdq_u (cap := cap) hsz (n - 0 + 1) 0 n (bitsLen n) d wr (Nat.lt_succ_self _) h hn (Nat.zero_le _) (Nat.le_refl _) hl (.inl rfl)
 have e : pdq ltInt d 0 n (bitsLen n) true true = Sort.sort ltInt d := by unfold Sort.sort; rw [hn]
 rw [e] at HP
 have HP := Lib.hid HP
 clear h e
 generalize bitsLen n = k at *
 go_enter Tryz.func162, Tryz.ntmps162
 go_wp2_with fail
 refine HL.out.mono ?_
 rintro _ _ ⟨rfl, rfl⟩
 go_wp2_with fail
 refine HP.out.mono ?_
 rintro _ w1 ⟨rfl, h1⟩
 go_wp2
 go_end0
 exact ⟨rfl, h1⟩
theorem sort_row {w : World} {v : Value} {l : List Nat} (h : w.ownsRow 0 26 1 v l.length (l.map fun (x : Nat) => Value.int .u64 x)) (hv : v.ownBlock.isSome = true) (hbig : l.length < 4611686018427387904) :
    Calls Tryz.prog 162 #[v] w fun e w' => e = .returned (.tuple #[]) ∧ w'.ownsRow 0 26 1 v l.length ((l.mergeSort (fun x y => decide (x ≤ y))).map fun (x : Nat) => Value.int .u64 x) ∧ Fr v.ownBlock.toList w w' := by
 rcases h.2 with ⟨rfl, _⟩ | ⟨g, cap, cur, rfl, hg, hcur, hnc, hcm, hcs, htk⟩
 · cases hv
 {
 have hlen : (l.map fun (x : Nat) => (x : Int)).toArray.size = l.length := by simp
 have henc : encU (l.map fun (x : Nat) => (x : Int)).toArray = l.map fun (x : Nat) => Value.int .u64 x := by simp [encU, Function.comp_def]
 have hsr : SR w w g 0 (l.map fun (x : Nat) => (x : Int)).toArray := by {
 refine ⟨rfl, ⟨cur.toList.drop l.length, ?_, cur.toList, ?_, ?_⟩, Fr.refl _ _⟩
 {
 rw [henc, ← htk, Nat.mul_one, List.take_append_drop]
 unfold Blk; rw [hcur]
 }
 · unfold Blk; rw [hcur]
 · rw [hlen, List.length_drop]; simp; omega
 }
 {
 refine (sort_u (cap := cap) hsr hlen hbig).mono ?_
 rintro _ w' ⟨rfl, h1⟩
 refine ⟨rfl, ?_, h1.fr⟩
 obtain ⟨rest, b1, l0, b2, b3⟩ := h1.row
 have hso := sortInt (l.map fun (x : Nat) => (x : Int))
 have hms : (l.map fun (x : Nat) => (x : Int)).mergeSort (fun x y => decide (x ≤ y)) = (l.mergeSort (fun x y => decide (x ≤ y))).map fun (x : Nat) => (x : Int) := by {
 rw [List.map_mergeSort]
 intro a _ b _
 simp
 }
 have he : encU (Sort.sort ltInt (l.map fun (x : Nat) => (x : Int)).toArray) = (l.mergeSort (fun x y => decide (x ≤ y))).map fun (x : Nat) => Value.int .u64 x := by unfold encU; rw [hso, hms]; simp [Function.comp_def]
 rw [he] at b1
 have hl0 : l0 = cur.toList := by {
 have : Blk w g 26 cur.toList := by unfold Blk; rw [hcur]
 exact b2.eq this
 }
 have hms2 : (Sort.sort ltInt (l.map fun (x : Nat) => (x : Int)).toArray).size = l.length := by {
 have := congrArg List.length hso
 simpa using this
 }
 refine ⟨by simp, .inr ⟨g, cap, _, rfl, Nat.zero_le _, b1, hnc, hcm, ?_, ?_⟩⟩
 {
 rw [hl0, hms2] at b3
 simp at b3 ⊢
 omega
 }
 · rw [Nat.mul_one, List.take_append_of_le_length (by simp), List.take_of_length_le (by simp)]
 }
 }
end Go.Proofs.YtgmnemndjjmgkaaGreat

/- intern: List. -/
namespace Go.Proofs.YtgmnemndjjmgkaaGreat
open Go.RowKit
set_option maxRecDepth 10000
set_option maxHeartbeats 800000
def encId (l : List Nat) : List Value := l.map fun (x : Nat) => .int .u64 x
def sortN (l : List Nat) : List Nat := l.mergeSort (fun x y => decide (x ≤ y))
theorem sortN_len (l : List Nat) : (sortN l).length = l.length := by simp [sortN]
theorem made_ids (n : Nat) : madeCells (Value.int .u64 0).cells n = (fnRow n (idF (fun _ => 0))).toArray := by
 apply Array.ext
 · simp [madeCells, fnRow]
 {
 intro i h1 h2
 simp [madeCells, fnRow, idF, Value.cells, Nat.mod_one]
 }
theorem run_make0u (c : Nat) (w : World) (hn : c ≤ 1048576) : (Instr.makeSlice 48 (.int .i64 0) (.int .i64 c)).run Tryz.prog w = .ok (.slice (some ⟨w.heap.size, 0, none⟩) 0 c) (w.alloc (.cells (fnRow c (idF (fun _ => 0))).toArray 26)) := by
 obtain ⟨i0, hi, hz0, hz1, hz2⟩ := info_parts Tryz.info26
 have h := run_make (P := Tryz.prog) w 48 26 i0 (.int .u64 0) Tryz.underlying48 hi hz0 .i64 .i64 0 c (by omega) (by omega) (by rw [hz2]; omega) (by omega)
 rw [hz1] at h
 simp only [Int.toNat_natCast, Nat.mul_one] at h
 rw [made_ids] at h
 exact h
theorem table_list {w : World} {pt : Nat} {T : Tb} {l : List Nat} (h : TableAt w pt T l) :
    Calls Tryz.prog 115 #[ptr pt] w fun e w' => ∃ v, e = .returned v ∧ w'.ownsRow 0 26 1 v (usedL T.A).length (encId (sortN ((usedL T.A).map T.ids))) ∧ (∀ q, v.ownBlock = some q → w.heap.size ≤ q) ∧ Fr [] w w' := by
 have HT := Lib.hid h
 have hlt := h.lt
 obtain ⟨cpc, rst, pa, gc, n, vi, C, la, h1, h2, h3, h4, rfl, hnd, hM, hs, hT, hinj, hb64⟩ := h
 clear hT hinj hM hs h4 hnd
 have hok := h2.ok
 have hs := hok.hs
 have hb := hok.hb
 have c0 := h1.cell 0
 have c1 := h1.cell 1
 have c2 := h1.cell 2
 simp only [List.getElem?_cons_zero, List.getElem?_cons_succ] at c0 c1 c2
 have husd : T.A.used ≤ 65536 := by unfold Ar.used; omega
 have hmk := run_make0u T.A.used w (by omega)
 have hown0 := owns_made (w := w) (e := 26) (cs := fnRow T.A.used (idF fun _ => 0)) T.A.used (fnRow_len _ _) (by omega)
 have HO0 := Lib.hid hown0; clear hown0
 have HF0 : Hid (Fr [] w (w.alloc (.cells (fnRow T.A.used (idF fun _ => 0)).toArray 26))) := Lib.hid ((Fr.refl [] w).alloc _)
 have d1 : (w.alloc (.cells (fnRow T.A.used (idF fun _ => 0)).toArray 26)).cell? ⟨pt, 1, none⟩ = some (ptr pa) := HF0.out.cell c1 (by simp)
 have HLen := Lib.hid (arena_len h2)
 have HLi := Lib.hid (arena_list (h2.fr HF0.out (by simp)))
 have H3 := Lib.hid (And.intro h3 h1); clear h3 h1 h2
 have HLt := Lib.hid hlt; clear hlt
 have hul : (usedL T.A).length ≤ 65536 := by rw [usedL_len hok]; exact husd
 have hum : ∀ i (hi : i < (usedL T.A).length), (usedL T.A)[i] < T.A.begun := fun i hi => (mem_usedL.1 (List.getElem_mem hi)).1
 generalize usedL T.A = us at *
 go_enter Tryz.func115, Tryz.ntmps115
 go_wp2_with (first | (go_at_call 142; refine (table_valid pt _ c0).mono ?_; rintro e w' ⟨rfl, rfl⟩) | (go_at_call 96; refine HLen.out.mono ?_; rintro e w' ⟨rfl, rfl⟩) | (go_at_call 97; refine HLi.out.mono ?_; rintro e w2 ⟨vl, rfl, hownl, hql, hF2⟩; obtain ⟨al, cl, rfl⟩ := ownsRow_slice hownl))
 have HO0' := Lib.hid (ownsRow_same HO0.out (fun q hq => hF2.keep q (HO0.out.lt q hq).2 (by simp)))
 have HF2 := Lib.hid (HF0.out.trans' hF2)
 have hpl : ∀ q, (Value.slice al us.length cl).ownBlock = some q → w.heap.size + 1 ≤ q := fun q hq => by have := hql q hq; simpa using this
 have HQL := Lib.hid hpl; clear hpl hql
 have HOL := Lib.hid hownl; clear hownl hF2
 generalize w.alloc (.cells (fnRow T.A.used (idF fun _ => 0)).toArray 26) = w1 at *
 clear c0 c1 c2 hmk d1 HLen HLi HO0 HF0
 go_loopw [3, 21] (fun v si wr => ∃ i : Nat, i ≤ us.length ∧ si = .int .i64 i ∧ Hid (Fr [] w wr) ∧ Hid (wr.ownsRow 0 3 1 (.slice al us.length cl) us.length (encN us)) ∧ wr.ownsRow 0 26 1 v i (encId ((us.take i).map T.ids)) ∧
   Hid (v.ownBlock.isSome = true ∧ ∀ q, v.ownBlock = some q → w.heap.size ≤ q ∧ (Value.slice al us.length cl).ownBlock ≠ some q)) (fun _ si _ => us.length - (intOf si).toNat)
 case atStart =>
  refine ⟨0, Nat.zero_le _, rfl, HF2, HOL, by simpa [encId] using HO0'.out, Lib.hid ⟨rfl, fun q e => ?_⟩⟩
  simp only [Value.ownBlock, Option.some.injEq] at e
  refine ⟨by omega, fun e2 => ?_⟩
  have := HQL.out q e2
  omega
 case round =>
  clear HO0' HF2 HOL
  obtain ⟨i, hi, rfl, HF, HOL, hown, HQ⟩ := hrel
  obtain ⟨a8, c8, rfl⟩ := ownsRow_slice hown
  by_cases hlt : i < us.length
  {
  have hil : (i : Int) < us.length := by omega
  obtain ⟨gl, cl', e, _, hgl, hcl, _⟩ := ownsRow_at HOL.out hlt
  simp only [Value.slice.injEq, true_and] at e
  obtain ⟨rfl, rfl⟩ := e
  have hx : (encN us)[i]? = some (.int .i64 (us[i] : Nat)) := by simp [encN, hlt]
  rw [hx] at hcl
  have hxb := hum i hlt
  obtain ⟨gi, ci, e, _, hgi, hci, _⟩ := ownsRow_at H3.out.1 hxb
  subst e
  rw [fnRow_at hxb] at hci
  simp only [idF] at hci
  have c2 := (HF.out.blk H3.out.2 (by simp)).cell 2
  simp only [List.getElem?_cons_zero, List.getElem?_cons_succ] at c2
  have hci' := HF.out.cell hci (by simp)
  have Htk := Lib.hid (show (us.take (i + 1)).map T.ids = (us.take i).map T.ids ++ [T.ids us[i]] by rw [List.take_add_one, List.getElem?_eq_getElem hlt, List.map_append]; rfl)
  clear hx hci
  generalize us[i] = x at *
  have hxi : (x : Int) < T.A.begun := by omega
  have hx0 : (0 : Int) ≤ x := by omega
  generalize T.A.begun = bg at *
  generalize T.ids x = y at *
  go_wp2_with (at_builtin; refine wpList_app1 rfl _ _ 48 rfl 26 (.int .u64 0) 8 Tryz.underlying48 Tryz.info26 rfl (.slice a8 i c8) i _ rfl (hown.alloc _) wr.heap.size (.int .u64 y) rfl (cell_new1 _ _ _ _ rfl) rfl (by omega) (by decide) ?_; intro g' cap' w4 hown4 hgrow4 hg4; have hF4 : Fr (Value.slice a8 i c8).ownBlock.toList wr w4 := ((Fr.refl _ _).alloc _).grown hgrow4 (fun q e => .inl (by simp [e])))
  go_roundw
  case rel =>
   have hs4 := HF.out.size
   simp only [World.size_alloc] at hg4
   refine ⟨i + 1, by omega, by go_num, Lib.hid (HF.out.trans hF4 (fun q hq => .inr (HQ.out.2 q (by simpa using hq)).1)), Lib.hid (ownsRow_same HOL.out (fun q hq => hF4.keep q (HOL.out.lt q hq).2 (fun hm => (HQ.out.2 q (by simpa using hm)).2 hq))), ?_, Lib.hid ⟨rfl, fun q e => ?_⟩⟩
   {
   rw [Htk.out]
   have : ∀ (l : List Nat) (y : Nat), encId (l ++ [y]) = encId l ++ [.int .u64 y] := fun l y => by simp [encId]
   rw [this]; exact hown4
   }
   {
   simp only [Value.ownBlock, Option.some.injEq] at e
   subst e
   rcases hg4 with e | e
   · exact HQ.out.2 _ e
   {
   refine ⟨by omega, fun e2 => ?_⟩
   have := (HOL.out.lt _ e2).2
   omega
   }
   }
  case measure => simp [intOf]; omega
  }
  {
  obtain rfl : i = us.length := by omega
  rw [List.take_of_length_le (Nat.le_refl _)] at hown
  have hlm : (us.map T.ids).length = us.length := by simp
  have hsr := sort_row (v := .slice a8 us.length c8) (l := us.map T.ids) (by rw [hlm]; exact hown) HQ.out.1 (by rw [hlm]; omega)
  rw [hlm] at hsr
  have HSr := Lib.hid hsr; clear hsr hown
  go_wp2_with fail
  refine HSr.out.mono ?_
  rintro _ w5 ⟨rfl, hown5, hF5⟩
  have H5 := Lib.hid (And.intro hown5 hF5); clear hown5 hF5
  go_wp2
  go_ret
  exact ⟨_, rfl, H5.out.1, fun q hq => (HQ.out.2 q hq).1, HF.out.trans H5.out.2 (fun q hq => .inr (HQ.out.2 q (by simpa using hq)).1)⟩
  }
end Go.Proofs.YtgmnemndjjmgkaaGreat

namespace Go.Proofs.YtgmnemndjjmgkaaGreat
open Go.RowKit
set_option maxRecDepth 10000
set_option maxHeartbeats 800000
def Tryz.laysCloneU_ren : Go.Shelf.Ren := ⟨fun | 41 => 148 | n => n, fun | 22 => 48 | 23 => 26 | 4 => 4 | n => n, fun | n => n⟩
theorem Tryz.laysCloneU : Go.Proofs.SlLaysE0.n41 Tryz.prog Tryz.laysCloneU_ren := {
  mixed := by kernel_rfl
  f41 := ⟨Tryz.f148.name, by decide, Tryz.func148.trans (congrArg some (by kernel_rfl))⟩
  t4 := Tryz.underlying4
  a4 := Tryz.isAgg4
  z4 := Tryz.sizeOf4
  v4 := Tryz.zeroValue4
  t22 := Tryz.underlying48
  a22 := Tryz.isAgg48
  z22 := Tryz.sizeOf48
  v22 := Tryz.zeroValue48 }
def Tryz.laysCloneI_ren : Go.Shelf.Ren := ⟨fun | 41 => 105 | n => n, fun | 22 => 94 | 23 => 3 | 4 => 4 | n => n, fun | n => n⟩
theorem Tryz.laysCloneI : Go.Proofs.SlLaysE0.n41 Tryz.prog Tryz.laysCloneI_ren := {
  mixed := by kernel_rfl
  f41 := ⟨Tryz.f105.name, by decide, Tryz.func105.trans (congrArg some (by kernel_rfl))⟩
  t4 := Tryz.underlying4
  a4 := Tryz.isAgg4
  z4 := Tryz.sizeOf4
  v4 := Tryz.zeroValue4
  t22 := Tryz.underlying94
  a22 := Tryz.isAgg94
  z22 := Tryz.sizeOf94
  v22 := Tryz.zeroValue94 }
theorem ownsRow_to0 {w : World} {base : Nat} {e : TypeId} {size : Nat} {v : Value} {n : Nat} {xs : List Value} (h : w.ownsRow base e size v n xs) : w.ownsRow 0 e size v n xs :=
  ⟨h.1, h.2.elim .inl (fun ⟨g, cap, cur, k1, _, k3⟩ => .inr ⟨g, cap, cur, k1, Nat.zero_le _, k3⟩)⟩
theorem ownsRow_new {w : World} {base : Nat} {e : TypeId} {size : Nat} {v : Value} {n : Nat} {xs : List Value} (h : w.ownsRow base e size v n xs) : ∀ q, v.ownBlock = some q → base ≤ q := by
 intro q hq
 rcases h.2 with ⟨rfl, _⟩ | ⟨g, cap, cur, rfl, hb, _⟩
 · cases hq
 · simp [Value.ownBlock] at hq; omega
theorem clone_ids {w : World} {v : Value} {n : Nat} {f : Nat → Nat} (h : w.ownsRow 0 26 1 v n (fnRow n (idF f))) (hn : n ≤ 65536) :
    Calls Tryz.prog 148 #[v] w fun e w' => ∃ v', e = .returned v' ∧ w'.ownsRow 0 26 1 v' n (fnRow n (idF f)) ∧ (∀ q, v'.ownBlock = some q → w.heap.size ≤ q) ∧ Fr [] w w' := by
 obtain ⟨i0, hi, hz0, hz1, hz2⟩ := info_parts Tryz.info26
 rcases h.2 with ⟨rfl, rfl⟩ | ⟨g, cap, cur, rfl, hg, hcur, hnc, hcm, hcs, htk⟩
 {
 refine (AnyE.slices_Clone_nil Tryz.laysCloneU 0 0 w).mono ?_
 rintro _ _ ⟨rfl, rfl⟩
 exact ⟨_, rfl, h, fun q e => (by cases e), Fr.refl _ _⟩
 }
 {
 refine (AnyE.slices_Clone Tryz.laysCloneU i0 (.int .u64 0) 1 8 hi hz0 hz1 hz2 rfl (by decide) Tryz.sizeOf26 g 0 n cap (fnRow n (idF f)) w (by rw [fnRow_len]; omega) (by unfold maxLen; omega) (by omega) (fun j u hj => ?_) (fun u hu => ?_)).mono ?_
 · rw [Nat.zero_add, h.cellAt j (by have := (List.getElem?_eq_some_iff.1 hj).1; rw [fnRow_len] at this; omega)]; exact hj
 {
 simp only [fnRow, List.mem_map] at hu
 obtain ⟨k, _, rfl⟩ := hu; rfl
 }
 {
 rintro _ w' ⟨v', rfl, h1, _, hB⟩
 exact ⟨v', rfl, ownsRow_to0 h1, ownsRow_new h1, Fr.of_below hB⟩
 }
 }
theorem clone_cells {w : World} {g n cap : Nat} {C : Nat → Nat} {rst : List Value} (h : Blk w g 3 (clRow n C rst)) (h0 : 0 < n) (hn : n ≤ 131072) :
    Calls Tryz.prog 105 #[.slice (some ⟨g, 0, none⟩) n cap] w fun e w' => ∃ g' cap' rst', e = .returned (.slice (some ⟨g', 0, none⟩) n cap') ∧ Blk w' g' 3 (clRow n C rst') ∧ w.heap.size ≤ g' ∧ Fr [] w w' := by
 obtain ⟨i0, hi, hz0, hz1, hz2⟩ := info_parts Tryz.info3
 refine (AnyE.slices_Clone Tryz.laysCloneI i0 (.int .i64 0) 1 8 hi hz0 hz1 hz2 rfl (by decide) Tryz.sizeOf3 g 0 n cap (fnRow n (cellF C)) w (by rw [fnRow_len]; omega) (by unfold maxLen; omega) (by omega) (fun j u hj => ?_) (fun u hu => ?_)).mono ?_
 {
 have hjl : j < n := by have := (List.getElem?_eq_some_iff.1 hj).1; rwa [fnRow_len] at this
 rw [Nat.zero_add, h.cell, clRow_at hjl, ← hj, fnRow_at hjl]
 }
 {
 simp only [fnRow, List.mem_map] at hu
 obtain ⟨k, _, rfl⟩ := hu; rfl
 }
 {
 rintro _ w' ⟨v', rfl, h1, _, hB⟩
 rcases h1.2 with ⟨_, hz⟩ | ⟨g', cap', cur, rfl, hg', hcur, hnc, hcm, hcs, htk⟩
 · omega
 {
 refine ⟨g', cap', cur.toList.drop n, rfl, ?_, hg', Fr.of_below hB⟩
 unfold clRow
 rw [← htk, Nat.mul_one, List.take_append_drop]
 unfold Blk; rw [Array.toArray_toList]; exact hcur
 }
 }
theorem table_copy {w : World} {pt : Nat} {T : Tb} {l : List Nat} (h : TableAt w pt T l) :
    Calls Tryz.prog 102 #[ptr pt] w fun e w' => ∃ pt', e = .returned (ptr pt') ∧ ∃ l', TableAt w' pt' T l' ∧ Fr [] w w' ∧ ∀ b ∈ l', w.heap.size ≤ b := by
 obtain ⟨cpc, rst, pa, gc, n, vi, C, la, h1, h2, h3, h4, rfl, hnd, hM, hs, hT, hinj, hb64⟩ := h
 have hok := h2.ok
 have hs1 := hok.hs
 have hs2 := hok.hb
 have hn := hM.pos
 have hn2 := hM.le
 have c0 := h1.cell 0
 have c1 := h1.cell 1
 have c2 := h1.cell 2
 have c3 := h1.cell 3
 simp only [List.getElem?_cons_zero, List.getElem?_cons_succ] at c0 c1 c2 c3
 have HR := Lib.hid (And.intro hnd (And.intro hM (And.intro hs (And.intro hT (And.intro hinj hb64))))); clear hnd hM hs hT hinj hb64
 have HA := Lib.hid (arena_copy (h2.same (w' := w.drew) (fun _ _ => rfl)))
 have HI := Lib.hid (fun (w' : World) (hf : Fr [] w w') => clone_ids (ownsRow_same (w' := w') h3 (fun k hk => hf.keep k (h3.lt k hk).2 (by simp))) (by omega))
 have HC := Lib.hid (fun (w' : World) (hf : Fr [] w w') => clone_cells (cap := cpc) (hf.blk h4 (by simp)) (by omega) (by omega))
 have hF0 : Fr [] w w.drew := (Fr.refl [] w).drew
 go_enter Tryz.func102, Tryz.ntmps102
 go_wp2_with (go_at_call 142; refine (table_valid pt _ c0).mono ?_; rintro e w' ⟨rfl, rfl⟩)
 go_region_held3 (fun w' => w'.cell? ⟨pt, 1, none⟩ = some (ptr pa) ∧ w'.cell? ⟨pt, 2, none⟩ = some vi ∧ w'.cell? ⟨pt, 3, none⟩ = some (.slice (some ⟨gc, 0, none⟩) n cpc))
   (first
     | go_keep
     | (exact ⟨hF3.cell c1 (by simp), hF3.cell c2 (by simp), hF3.cell c3 (by simp)⟩)
     | (exact ⟨hF4.cell c1 (by simp), hF4.cell c2 (by simp), hF4.cell c3 (by simp)⟩)
     | (exact ⟨hF5.cell c1 (by simp), hF5.cell c2 (by simp), hF5.cell c3 (by simp)⟩)
     | (exact ⟨(hF5.alloc _).cell c1 (by simp), (hF5.alloc _).cell c2 (by simp), (hF5.alloc _).cell c3 (by simp)⟩))
   (first
     | (go_at_call 101; refine HA.out.mono ?_; rintro e w3 ⟨pa', rfl, la', hA3, hF3, hl3⟩; have hla3 := hA3.lt; replace hF3 := hF0.trans' hF3)
     | (go_at_call 148; refine (HI.out _ hF3).mono ?_; rintro e w4 ⟨vi', rfl, hI4, hq4, hF4⟩; replace hA3 := hA3.fr hF4 (by simp); have hsz4 := hF3.size; have hF34 := hF4; replace hF4 := hF3.trans' hF4; obtain ⟨ai, ci, rfl⟩ := ownsRow_slice hI4; have hil4 := fun q hq => (hI4.lt q hq).2)
     | (go_at_call 105; refine (HC.out _ hF4).mono ?_; rintro e w5 ⟨gc', cpc', rst', rfl, hC5, hg5, hF5⟩; replace hA3 := hA3.fr hF5 (by simp); replace hI4 := ownsRow_same (w' := w5) hI4 (fun k hk => hF5.keep k (hI4.lt k hk).2 (by simp)); have hsz5 := hF4.size; replace hF5 := hF4.trans' hF5))
 have hb0 := Blk.new w5 [ptr w5.heap.size, ptr pa', .slice ai T.A.begun ci, .slice (some ⟨gc', 0, none⟩) n cpc'] 204
 have H5 := Lib.hid (And.intro hA3 (And.intro hI4 (And.intro hC5 hF5))); clear hA3 hI4 hC5
 have Hb1 := Lib.hid hb0; clear hb0
 have hq4' : ∀ q, (Value.slice ai T.A.begun ci).ownBlock = some q → w3.heap.size ≤ q := hq4
 have hl3' : ∀ b ∈ la', w.heap.size ≤ b := fun b hb => by have := hl3 b hb; simpa using this
 have hlt3 := H5.out.1.lt
 go_wp2
 go_ret
 have hFz : Fr [] w5 (w5.alloc (.cells #[ptr w5.heap.size, ptr pa', .slice ai T.A.begun ci, .slice (some ⟨gc', 0, none⟩) n cpc'] 204)) := (Fr.refl _ _).alloc _
 have hila : ∀ q, (Value.slice ai T.A.begun ci).ownBlock = some q → q < w5.heap.size := fun q hq => (H5.out.2.1.lt q hq).2
 have hgl := H5.out.2.2.1.lt
 obtain ⟨hnd, hM, hs, hT, hinj, hb64⟩ := HR.out
 refine ⟨w5.heap.size, rfl, w5.heap.size :: gc' :: ((Value.slice ai T.A.begun ci).ownBlock.toList ++ la'), ⟨cpc', rst', pa', gc', n, .slice ai T.A.begun ci, C, la', Hb1.out, H5.out.1.fr hFz (by simp), ownsRow_same H5.out.2.1 (fun k hk => hFz.keep k (H5.out.2.1.lt k hk).2 (by simp)), hFz.blk H5.out.2.2.1 (by simp), rfl, ?_, hM, hs, hT, hinj, hb64⟩, H5.out.2.2.2.trans' hFz, ?_⟩
 {
 have hlan : la'.Nodup := by obtain ⟨_, _, _, _, _, _, _, _, hq, _⟩ := H5.out.1; exact hq
 rw [List.nodup_cons, List.nodup_cons, List.nodup_append]
 refine ⟨?_, ?_, by cases (Value.slice ai T.A.begun ci).ownBlock <;> simp, hlan, ?_⟩
 {
 simp only [List.mem_cons, List.mem_append, Option.mem_toList, not_or]
 exact ⟨by omega, fun e => by have := hila _ e; omega, fun hm => by have := hlt3 _ hm; omega⟩
 }
 {
 simp only [List.mem_append, Option.mem_toList, not_or]
 refine ⟨fun e => by have := hil4 _ e; omega, fun hm => ?_⟩
 have := hla3 _ hm
 have := hF34.size
 omega
 }
 {
 intro x hx y hy e
 subst e
 have h1 := hq4' x (by simpa using hx)
 have h2 := hla3 x hy
 omega
 }
 }
 {
 intro b hb
 simp only [List.mem_cons, List.mem_append, Option.mem_toList] at hb
 have := H5.out.2.2.2.size
 rcases hb with rfl | rfl | hb | hb
 · omega
 · omega
 · have := hq4' b hb; omega
 · exact hl3' b hb
 }
end Go.Proofs.YtgmnemndjjmgkaaGreat
