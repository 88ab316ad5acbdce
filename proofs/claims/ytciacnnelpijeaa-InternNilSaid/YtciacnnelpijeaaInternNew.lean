/- intern: New. -/
import Derived.Test.YtciacnnelpijeaaIntern
namespace Go.Proofs.Ytciacnnelpijeaa
open Go.RowKit
set_option maxRecDepth 4000
set_option maxHeartbeats 400000

theorem Try.info3 : (Try.prog.info? 3).map (fun i => (i.zero, i.size, i.bytes)) = some (some (.int .i64 0), 1, 8) := by kernel_rfl

def Tb.new (slots : Nat) : Tb := { A := Ar.new slots, ids := fun _ => 0 }

theorem table_new_no (slots : Int) (w : World) (h : slots < 0 ∨ 65536 < slots) :
    Calls Try.prog 14 #[.int .i64 slots] w fun e w' => e = .returned (.tuple #[.pointer none, .int .i64 2]) ∧ w = w' := by
  have H := Lib.hid h; clear h
  go_enter Try.func14, Try.ntmps14
  go_wp2_with (go_at_call 31; refine (arena_new_no slots _ H.out).mono ?_; rintro e w' ⟨rfl, rfl⟩)
  go_ret2
  exact ⟨rfl, rfl⟩

theorem made_ints (n : Nat) : madeCells (Value.int .i64 0).cells n = (fnRow n (cellF (fun _ => 0))).toArray := by
  apply Array.ext
  · simp [madeCells, fnRow]
  · intro i h1 h2
    simp [madeCells, fnRow, cellF, Value.cells, Nat.mod_one]

theorem run_make_ints (n : Nat) (w : World) (hn : n ≤ 1048576) : (Instr.makeSlice 38 (.int .i64 n) (.int .i64 n)).run Try.prog w = .ok (.slice (some ⟨w.heap.size, 0, none⟩) n n) (w.alloc (.cells (fnRow n (cellF (fun _ => 0))).toArray 3)) := by
  obtain ⟨i0, hi, hz0, hz1, hz2⟩ := info_parts Try.info3
  have h := run_make (P := Try.prog) w 38 3 i0 (.int .i64 0) Try.underlying38 hi hz0 .i64 .i64 n n (by omega) (by omega) (by rw [hz2]; omega) (by omega)
  rw [hz1] at h
  simp only [Int.toNat_natCast, Nat.mul_one] at h
  rw [made_ints] at h
  exact h

theorem pow_lt_17 {j : Nat} (h : 2 ^ j < 131072) : j < 17 := by
  apply Classical.byContradiction
  intro hn
  have : 2 ^ 17 ≤ 2 ^ j := Nat.pow_le_pow_right (by decide) (by omega)
  omega

theorem table_new (slots : Nat) (w : World) (h : slots ≤ 65536) :
    Calls Try.prog 14 #[.int .i64 slots] w fun e w' => ∃ pt, e = .returned (.tuple #[ptr pt, .int .i64 0]) ∧ ∃ l, TableAt w' pt (Tb.new slots) l ∧ Fr [] w w' ∧ ∀ b ∈ l, w.heap.size ≤ b := by
  go_enter Try.func14, Try.ntmps14
  go_wp2_with (go_at_call 31; refine (arena_new slots _ h).mono ?_; rintro e w1 ⟨rfl, hA, hFr⟩)
  go_loop [6] (fun a => ∃ j n : Nat, 1 ≤ j ∧ j ≤ 17 ∧ n ≤ 131072 ∧ Hid (n = 2 ^ j) ∧ a = .int .i64 n) (fun a => 200000 - (intOf a).toNat)
  case atStart => exact ⟨1, 2, by omega, by omega, by omega, Lib.hid rfl, rfl⟩
  case round =>
    obtain ⟨j, n, hj1, hj2, hn1, Hn, rfl⟩ := hrel
    by_cases hlt : n < 2 * slots
    · go_wp2
      go_round
      case rel =>
        have hj3 : j < 17 := pow_lt_17 (by rw [← Hn.out]; omega)
        have hp : 2 ^ (j + 1) ≤ 2 ^ 17 := Nat.pow_le_pow_right (by decide) (by omega)
        have hq : n * 2 = 2 ^ (j + 1) := by rw [Hn.out]; rfl
        refine ⟨j + 1, n * 2, by omega, by omega, by omega, Lib.hid hq, by go_num⟩
      case measure =>
        have hp : 1 ≤ n := by rw [Hn.out]; exact Nat.one_le_two_pow
        simp [intOf]; omega
    · have hmk := fun W => run_make_ints n W (by omega)
      go_wp2
      go_ret2
      have hw : w.heap.size < w1.heap.size := hA.lt _ (by simp)
      have b1 := Blk.new w1 (fnRow n (cellF fun _ => 0)) 3
      have b2 := Blk.new (w1.alloc (.cells (fnRow n (cellF fun _ => 0)).toArray 3)) [ptr (w1.heap.size + 1), ptr w.heap.size, .slice none 0 0, .slice (some ⟨w1.heap.size, 0, none⟩) n n] 63
      simp only [World.size_alloc] at b2
      refine ⟨w1.heap.size + 1, rfl, (w1.heap.size + 1) :: w1.heap.size :: ([] ++ [w.heap.size]), ⟨w.heap.size, w1.heap.size, n, .slice none 0 0, fun _ => 0, [w.heap.size], b2, ?_, World.ownsRow_nil _ _ _ _, b1.alloc _, rfl, ?_, ?_, ?_, ?_, ?_, ?_⟩, ?_, ?_⟩
      · exact hA.same (fun b hb => by
          simp only [List.mem_singleton] at hb; subst hb
          rw [Below.heap_alloc _ _ _ (by simp; omega), Below.heap_alloc _ _ _ hw])
      · simp; omega
      · rw [Hn.out]; exact Mask.mk' j hj1 hj2
      · show 2 * slots ≤ n; omega
      · exact ⟨fun c _ h0 => absurd rfl h0, fun c d _ _ h0 => absurd rfl h0, fun i hi => absurd hi.1 (Nat.not_lt_zero _)⟩
      · intro i j hi; exact absurd hi.1 (Nat.not_lt_zero _)
      · intro i hi; exact absurd hi (Nat.not_lt_zero _)
      · exact (hFr.alloc _).alloc _
      · intro b hb; simp at hb; omega

end Go.Proofs.Ytciacnnelpijeaa
