/- lct: New. -/
import Derived.Test.YtoppjjgecgbbkaaLctLink
namespace Go.Proofs.Ytoppjjgecgbbkaa
open Go.RowKit
set_option maxRecDepth 10000
set_option maxHeartbeats 800000

theorem new_no (n : Int) (w : World) (h : n < 0 ∨ 65536 < n) :
    Calls Try.prog 14 #[.int .i64 n] w fun e w' => e = .returned (.tuple #[.pointer none, .int .i64 2]) ∧ w' = w := by
  rcases h with h | h
  · go_enter Try.func14, Try.ntmps14
    go_wp2
    go_ret2
    exact ⟨rfl, rfl⟩
  · have h0 : ¬ n < 0 := by omega
    go_enter Try.func14, Try.ntmps14
    go_wp2
    go_ret2
    exact ⟨rfl, rfl⟩

def nd0 : Nd := { k0 := 0, k1 := 0, up := 0, flip := false, key := 0, size := 0, first := 0, light := 0, total := 0 }
def ndv : Value := .agg #[.int .i64 0, .int .i64 0, .int .i64 0, .bool false, .int .i64 0, .int .i64 0, .int .i64 0, .int .i64 0, .int .i64 0]
theorem Try.info71 : (Try.prog.info? 71).map (fun i => (i.zero, i.size, i.bytes)) = some (some ndv, 9, 72) := by kernel_rfl
theorem ndv_cells : ndv.cells = #[.int .i64 0, .int .i64 0, .int .i64 0, .bool false, .int .i64 0, .int .i64 0, .int .i64 0, .int .i64 0, .int .i64 0] := by kernel_rfl

theorem made_nodes (N i f : Nat) (hi : i < N) (hf : f < 9) : (madeCells ndv.cells (N * 9))[i * 9 + f]? = some (fv nd0 f) := by
  rw [ndv_cells]
  unfold madeCells
  have hlt : i * 9 + f < N * 9 := by omega
  have : (i * 9 + f) % 9 = f := by omega
  simp only [Array.getElem?_map, Array.getElem?_range, hlt, if_true, Option.map_some]
  show some (_[(i * 9 + f) % 9]!) = _
  rw [this]
  match f, hf with
  | 0, _ => rfl
  | 1, _ => rfl
  | 2, _ => rfl
  | 3, _ => rfl
  | 4, _ => rfl
  | 5, _ => rfl
  | 6, _ => rfl
  | 7, _ => rfl
  | 8, _ => rfl

def zeroNodes (m : Nat) : Array Value := madeCells ndv.cells (m * 9)
theorem run_make_nodes (n : Nat) (w : World) (hn : n ≤ 1048576) : (Instr.makeSlice 63 (.int .i64 n) (.int .i64 n)).run Try.prog w = .ok (.slice (some ⟨w.heap.size, 0, none⟩) n n) (w.alloc (.cells (zeroNodes n) 71)) := by
  obtain ⟨i0, hi, hz0, hz1, hz2⟩ := info_parts Try.info71
  have h := run_make (P := Try.prog) w 63 71 i0 ndv Try.underlying63 hi hz0 .i64 .i64 n n (by omega) (by omega) (by rw [hz2]; omega) (by omega)
  rw [hz1] at h
  simp only [Int.toNat_natCast] at h
  exact h

def newT (k : Nat) : Tbl := fun i => if 0 < i ∧ i ≤ k then { nd0 with size := 1, first := i, total := 1 } else nd0
theorem newT_succ (k : Nat) : refresh (newT k) (k + 1) = newT (k + 1) := by
  have h0 : (newT k (k + 1)).k0 = 0 ∧ (newT k (k + 1)).k1 = 0 ∧ newT k (k + 1) = nd0 := by
    have : newT k (k + 1) = nd0 := by unfold newT; rw [if_neg (by omega)]
    rw [this]; exact ⟨rfl, rfl, rfl⟩
  have e : refresh (newT k) (k + 1) = ref0 (newT k) (k + 1) := by
    show refKid (refKid (ref0 (newT k) (k + 1)) (k + 1) (newT k (k + 1)).k0) (k + 1) (newT k (k + 1)).k1 = _
    rw [h0.1, h0.2.1]; rfl
  rw [e]
  funext i
  unfold ref0
  by_cases hi : i = k + 1
  · subst hi
    rw [upd_same, h0.2.2]
    unfold newT; rw [if_pos (by omega)]
    simp [nd0, wrap64]
  · rw [upd_other hi]
    unfold newT
    by_cases h1 : 0 < i ∧ i ≤ k
    · rw [if_pos h1, if_pos (by omega)]
    · rw [if_neg h1, if_neg (by omega)]
theorem newT_inR (k N : Nat) (_hk : k < N) : InR N (newT k) := by
  intro i hi
  unfold newT
  split
  · exact ⟨by show 0 < N; omega, by show 0 < N; omega, by show 0 < N; omega, hi⟩
  · exact ⟨by show 0 < N; omega, by show 0 < N; omega, by show 0 < N; omega, by show 0 < N; omega⟩

theorem new_w (n : Nat) (w : World) (h : n ≤ 65536) :
    Calls Try.prog 14 #[.int .i64 n] w fun e w' => ∃ pf g, e = .returned (.tuple #[.pointer (some ⟨pf, 0, none⟩), .int .i64 0]) ∧ LM w' pf g n (fun _ _ => False) (fun _ => 0) ∧ Fr [] w w' ∧ w.heap.size ≤ pf ∧ w.heap.size ≤ g := by
  have hmk : ∀ W : World, (Instr.makeSlice 63 (.int .i64 ((n : Int) + 1)) (.int .i64 ((n : Int) + 1))).run Try.prog W = .ok (.slice (some ⟨W.heap.size, 0, none⟩) (n + 1) (n + 1)) (W.alloc (.cells (zeroNodes (n + 1)) 71)) := fun W => run_make_nodes (n + 1) W (by omega)
  have h0 : ¬ ((n : Int) < 0) := by omega
  have h1 : ¬ (65536 < (n : Int)) := by omega
  go_enter Try.func14, Try.ntmps14
  go_wp2
  obtain ⟨W0, hW0⟩ : ∃ W0, (w.alloc (.cells (zeroNodes (n + 1)) 71)).alloc (.cells #[.pointer (some ⟨w.heap.size + 1, 0, none⟩), .slice (some ⟨w.heap.size, 0, none⟩) (n + 1) (n + 1), .int .i64 0] 65) = W0 := ⟨_, rfl⟩
  have hL0 : LctAt W0 (w.heap.size + 1) w.heap.size (n + 1) (n + 1) (newT 0) 0 := by
    subst hW0
    refine ⟨?_, ?_, by omega, by omega, Nat.le_refl _⟩
    · have := Blk.new (w.alloc (.cells (zeroNodes (n + 1)) 71)) [.pointer (some ⟨w.heap.size + 1, 0, none⟩), .slice (some ⟨w.heap.size, 0, none⟩) (n + 1) (n + 1), .int .i64 0] 65
      rw [World.size_alloc] at this; exact this
    · refine ⟨zeroNodes (n + 1), ?_, by simp [zeroNodes, size_madeCells], fun i hi f hf => ?_⟩
      · exact (Below.heap_alloc _ _ _ (by simp)).trans (World.alloc_heap_new w _)
      · have : newT 0 i = nd0 := by unfold newT; rw [if_neg (by omega)]
        rw [this]; exact made_nodes (n + 1) i f hi hf
  have hF0 : Fr [] w W0 := by subst hW0; exact ((Fr.refl _ _).alloc _).alloc _
  rw [hW0]
  clear hW0 hmk
  go_loopw [22] (fun x wr => ∃ k : Nat, k ≤ n ∧ x = .int .i64 k ∧ LctAt wr (w.heap.size + 1) w.heap.size (n + 1) (n + 1) (newT k) 0 ∧ Fr [] w wr) (fun x _ => n - (intOf x).toNat)
  case atStart => exact ⟨0, Nat.zero_le _, rfl, hL0, hF0⟩
  case round =>
    clear hL0 hF0
    obtain ⟨k, hk, rfl, hL, hF⟩ := hrel
    by_cases hlt : k < n
    · have hz : newT k (k + 1) = nd0 := by unfold newT; rw [if_neg (by omega)]
      have HQ := Lib.hid (show (newT k (k + 1)).k0 ≠ k + 1 ∧ (newT k (k + 1)).k1 ≠ k + 1 by rw [hz]; simp [nd0])
      clear hz
      go_wp2_with fail
      refine (refresh_v hL k hlt (newT_inR k (n + 1) (by omega)) HQ.out.1 HQ.out.2).mono ?_
      rintro _ w2 ⟨rfl, hL2, hF2⟩
      rw [newT_succ] at hL2
      go_wp2
      exact ⟨⟨k + 1, by omega, by go_num, hL2, hF.trans hF2 (fun b hb => .inr (by simp at hb; omega))⟩, by simp [intOf]; omega⟩
    · obtain rfl : k = n := by omega
      go_wp2
      go_ret2
      have hv : ∀ x, 0 < x → x < k + 1 → newT k x = { nd0 with size := 1, first := x, total := 1 } := fun x h1 h2 => by unfold newT; rw [if_pos (by omega)]
      have h00 : newT k 0 = nd0 := by unfold newT; rw [if_neg (by omega)]
      have hlf := LF.new k (newT k) (by rw [h00]; simp [nd0]) (fun x h1 h2 => by rw [hv x h1 h2]; simp [nd0])
      refine ⟨w.heap.size + 1, w.heap.size, rfl, ⟨k + 1, newT k, _, _, _, _, ?_, hlf, fun v u => ?_, fun v hv' => ?_⟩, hF, by omega, Nat.le_refl _⟩
      · rw [nc_none]; simpa using hL
      · simp [Adj]
      · rw [hv (v + 1) (by omega) (by omega)]; rfl

end Go.Proofs.Ytoppjjgecgbbkaa
