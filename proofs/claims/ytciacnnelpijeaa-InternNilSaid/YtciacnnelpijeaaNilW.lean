/- InternNil: the walk. -/
import Derived.Test.YtciacnnelpijeaaWorks
import Derived.Test.YtciacnnelpijeaaLawKit
namespace Go.Proofs.Ytciacnnelpijeaa
open Go.RowKit
set_option maxRecDepth 10000
set_option maxHeartbeats 400000

theorem bad_list (v : Value) (w : World) (h : BadTable w v) :
    Calls Try.prog 25 #[v] w fun e w' => e = .returned (.slice none 0 0) ∧ w = w' := by
  go_enter Try.func25, Try.ntmps25
  go_wp2_with (go_at_call 32; refine (table_invalid v _ h).mono ?_; rintro e w' ⟨rfl, rfl⟩)
  go_ret
  exact ⟨rfl, rfl⟩
theorem bad_copy (v : Value) (w : World) (h : BadTable w v) :
    Calls Try.prog 26 #[v] w fun e w' => e = .returned (.pointer none) ∧ w = w' := by
  go_enter Try.func26, Try.ntmps26
  go_wp2_with (go_at_call 32; refine (table_invalid v _ h).mono ?_; rintro e w' ⟨rfl, rfl⟩)
  go_ret
  exact ⟨rfl, rfl⟩

theorem walk_internNil (w : World) (a0 : Int) (_w0 : (Lit.int .u64 a0).wf = true) (a1 : Int) (_w1 : (Lit.int .i64 a1).wf = true) :
    Calls Try.prog 12 #[.int .u64 a0, .int .i64 a1] w fun e w' => e = .returned (.bool true) ∧ Below w.heap.size w w' := by
  clear _w0 _w1
  go_enter Try.func12, Try.ntmps12
  go_wp2
  have e1 := Blk.new w [.pointer none, .pointer none, .slice none 0 0, .slice none 0 0] 63
  have e2 := Blk.new (w.alloc (.cells #[.pointer none, .pointer none, .slice none 0 0, .slice none 0 0] 63)) [.pointer none, ptr w.heap.size] 25
  simp only [World.size_alloc] at e2
  have e1' := e1.alloc (.cells #[.pointer none, ptr w.heap.size] 25)
  have hB : Below w.heap.size w ((w.alloc (.cells #[.pointer none, .pointer none, .slice none 0 0, .slice none 0 0] 63)).alloc (.cells #[.pointer none, ptr w.heap.size] 25)) := ((Below.refl _ w).alloc (Nat.le_refl _) _).alloc (by simp) _
  generalize hW : ((w.alloc (.cells #[.pointer none, .pointer none, .slice none 0 0, .slice none 0 0] 63)).alloc (.cells #[.pointer none, ptr w.heap.size] 25)) = W at *
  clear hW e1
  have c0 := e2.cell 0
  have c1 := e2.cell 1
  have cz := e1'.cell 0
  simp only [List.getElem?_cons_zero, List.getElem?_cons_succ] at c0 c1 cz
  go_loop [8] (fun x => ∃ k : Nat, k ≤ 2 ∧ x = .int .i64 k) (fun x => 2 - (intOf x).toNat)
  case atStart => exact ⟨0, by omega, rfl⟩
  case round =>
    obtain ⟨k, hk, rfl⟩ := hrel
    by_cases hlt : k < 2
    · obtain ⟨v, hv, hbt⟩ : ∃ v, W.cell? ⟨w.heap.size + 1, k, none⟩ = some v ∧ BadTable W v := by
        rcases (show k = 0 ∨ k = 1 by omega) with rfl | rfl
        · exact ⟨_, c0, .inl rfl⟩
        · exact ⟨_, c1, .inr ⟨_, rfl, cz⟩⟩
      have hp : ∃ q, v = .pointer q := by
        rcases hbt with h | ⟨pt, h, _⟩
        · exact ⟨_, h⟩
        · exact ⟨_, h⟩
      obtain ⟨q, rfl⟩ := hp
      clear c0 c1 cz e1' e2
      go_wp2_with (first | (go_at_call 16; refine (bad_put _ _ _ hbt).mono ?_; rintro e w' ⟨rfl, rfl⟩) | (go_at_call 22; refine (bad_get _ _ _ hbt).mono ?_; rintro e w' ⟨rfl, rfl⟩) | (go_at_call 19; refine (bad_id _ _ _ hbt).mono ?_; rintro e w' ⟨rfl, rfl⟩) | (go_at_call 15; refine (bad_del _ _ _ hbt).mono ?_; rintro e w' ⟨rfl, rfl⟩) | (go_at_call 17; refine (bad_len _ _ hbt).mono ?_; rintro e w' ⟨rfl, rfl⟩) | (go_at_call 25; refine (bad_list _ _ hbt).mono ?_; rintro e w' ⟨rfl, rfl⟩) | (go_at_call 26; refine (bad_copy _ _ hbt).mono ?_; rintro e w' ⟨rfl, rfl⟩))
      go_round
      case rel => exact ⟨k + 1, by omega, by go_num⟩
      case measure => simp [intOf]; omega
    · go_wp2_with (go_at_call 13; refine (works_w _).mono ?_; rintro e w3 ⟨rfl, hB3⟩)
      go_ret
      exact ⟨rfl, hB.trans (hB3.mono hB.size)⟩

end Go.Proofs.Ytciacnnelpijeaa
