/- Walks over package arena: what each call does, said of cells. -/
import Derived.Test.YtciacnnelpijeaaBase
namespace Go.Proofs.Ytciacnnelpijeaa
open Go.RowKit

@[go_sem] theorem eq_arena (a : Addr) (w : World) : (binOp .eql 61 (.pointer (some a)) (.pointer (some a))).run Try.prog w = .ok (.bool true) w := by
  obtain ⟨j, hj⟩ := Option.isSome_iff_exists.1 (show (Try.prog.info? 86).isSome = true by kernel_rfl)
  exact run_eql_ptr_same w a Try.underlying61 hj

set_option maxRecDepth 4000
set_option maxHeartbeats 400000

theorem arena_valid (pa : Nat) (w : World) (hc : w.cell? ⟨pa, 0, none⟩ = some (.pointer (some ⟨pa, 0, none⟩))) :
    Calls Try.prog 51 #[.pointer (some ⟨pa, 0, none⟩)] w fun e w' => e = .returned (.bool true) ∧ w = w' := by
  go_enter Try.func51, Try.ntmps51
  go_wp2
  go_ret
  exact ⟨rfl, rfl⟩

theorem arena_valid_nil (w : World) :
    Calls Try.prog 51 #[.pointer none] w fun e w' => e = .returned (.bool false) ∧ w = w' := by
  go_enter Try.func51, Try.ntmps51
  go_wp2
  go_ret
  exact ⟨rfl, rfl⟩

theorem arena_at_w (pa g n cap b i : Nat) (w : World) (h1 : w.cell? ⟨pa, 1, none⟩ = some (.slice (some ⟨g, 0, none⟩) n cap)) (hn : i / 64 < n) (hi : i < 65536)
    (h2 : w.cell? ⟨g, i / 64, none⟩ = some (.pointer (some ⟨b, 0, none⟩))) :
    Calls Try.prog 53 #[.pointer (some ⟨pa, 0, none⟩), .int .i64 i] w fun e w' => e = .returned (.pointer (some ⟨b, i % 64 * 3, none⟩)) ∧ w = w' := by
  go_enter Try.func53, Try.ntmps53
  go_wp2
  go_ret
  exact ⟨rfl, rfl⟩

theorem arena_at_r (pa g n cap b i r : Nat) (w : World) (h1 : w.cell? ⟨pa, 1, none⟩ = some (.slice (some ⟨g, 0, none⟩) n cap)) (hn : i / 64 < n) (hi : i < 65536)
    (h2 : w.cell? ⟨g, i / 64, none⟩ = some (.pointer (some ⟨b, 0, none⟩))) (hr : i % 64 * 3 = r) :
    Calls Try.prog 53 #[.pointer (some ⟨pa, 0, none⟩), .int .i64 i] w fun e w' => e = .returned (.pointer (some ⟨b, r, none⟩)) ∧ w = w' := by
  subst hr; exact arena_at_w pa g n cap b i w h1 hn hi h2

theorem arena_state_w (pa g n cap b i begun : Nat) (st : Int) (w : World) (h1 : w.cell? ⟨pa, 1, none⟩ = some (.slice (some ⟨g, 0, none⟩) n cap)) (hn : i / 64 < n) (hi : i < 65536)
    (h3 : w.cell? ⟨pa, 3, none⟩ = some (.int .i64 begun)) (hb : i < begun)
    (h2 : w.cell? ⟨g, i / 64, none⟩ = some (.pointer (some ⟨b, 0, none⟩))) (hs : w.cell? ⟨b, i % 64 * 3, none⟩ = some (.int .i64 st)) :
    Calls Try.prog 52 #[.pointer (some ⟨pa, 0, none⟩), .int .i64 i] w fun e w' => e = .returned (.int .i64 st) ∧ w = w' := by
  go_enter Try.func52, Try.ntmps52
  go_wp2_with (go_at_call 53; refine (arena_at_w pa g n cap b i _ h1 hn hi h2).mono ?_; rintro e w' ⟨rfl, rfl⟩)
  go_ret
  exact ⟨rfl, rfl⟩

theorem arena_state_fresh (pa i begun : Nat) (w : World) (h3 : w.cell? ⟨pa, 3, none⟩ = some (.int .i64 begun)) (hb : begun ≤ i) :
    Calls Try.prog 52 #[.pointer (some ⟨pa, 0, none⟩), .int .i64 i] w fun e w' => e = .returned (.int .i64 0) ∧ w = w' := by
  go_enter Try.func52, Try.ntmps52
  go_wp2
  go_ret
  exact ⟨rfl, rfl⟩

theorem arena_next_last (pa k : Nat) (w : World) (h0 : w.cell? ⟨pa, 0, none⟩ = some (.pointer (some ⟨pa, 0, none⟩))) (h5 : w.cell? ⟨pa, 5, none⟩ = some (.int .i64 k)) :
    Calls Try.prog 55 #[.pointer (some ⟨pa, 0, none⟩)] w fun e w' => e = .returned (.tuple #[.int .i64 k, .bool true]) ∧ w = w' := by
  have hk : ((k : Int) != -1) = true := by rw [bne_iff_ne]; omega
  go_enter Try.func55, Try.ntmps55
  go_wp2_with (go_at_call 51; refine (arena_valid pa _ h0).mono ?_; rintro e w' ⟨rfl, rfl⟩)
  go_ret2
  exact ⟨rfl, rfl⟩

theorem arena_next_fresh (pa begun slots : Nat) (w : World) (h0 : w.cell? ⟨pa, 0, none⟩ = some (.pointer (some ⟨pa, 0, none⟩))) (h5 : w.cell? ⟨pa, 5, none⟩ = some (.int .i64 (-1)))
    (h3 : w.cell? ⟨pa, 3, none⟩ = some (.int .i64 begun)) (h2 : w.cell? ⟨pa, 2, none⟩ = some (.int .i64 slots)) (hlt : begun < slots) :
    Calls Try.prog 55 #[.pointer (some ⟨pa, 0, none⟩)] w fun e w' => e = .returned (.tuple #[.int .i64 begun, .bool true]) ∧ ∃ n, w' = w.drewN n := by
  go_enter Try.func55, Try.ntmps55
  go_wp2_with (go_at_call 51; refine (arena_valid pa _ h0).mono ?_; rintro e w' ⟨rfl, rfl⟩)
  go_quiet (fail)
  go_wp2
  go_ret2
  exact ⟨rfl, _, rfl⟩

theorem arena_next_none (pa begun slots : Nat) (w : World) (h0 : w.cell? ⟨pa, 0, none⟩ = some (.pointer (some ⟨pa, 0, none⟩))) (h5 : w.cell? ⟨pa, 5, none⟩ = some (.int .i64 (-1)))
    (h3 : w.cell? ⟨pa, 3, none⟩ = some (.int .i64 begun)) (h2 : w.cell? ⟨pa, 2, none⟩ = some (.int .i64 slots)) (hlt : slots ≤ begun) :
    Calls Try.prog 55 #[.pointer (some ⟨pa, 0, none⟩)] w fun e w' => e = .returned (.tuple #[.int .i64 0, .bool false]) ∧ ∃ n, w' = w.drewN n := by
  go_enter Try.func55, Try.ntmps55
  go_wp2_with (go_at_call 51; refine (arena_valid pa _ h0).mono ?_; rintro e w' ⟨rfl, rfl⟩)
  go_quiet (fail)
  go_wp2
  go_ret2
  exact ⟨rfl, _, rfl⟩

theorem arena_alloc_full (pa begun slots : Nat) (w : World) (h0 : w.cell? ⟨pa, 0, none⟩ = some (.pointer (some ⟨pa, 0, none⟩))) (h5 : w.cell? ⟨pa, 5, none⟩ = some (.int .i64 (-1)))
    (h3 : w.cell? ⟨pa, 3, none⟩ = some (.int .i64 begun)) (h2 : w.cell? ⟨pa, 2, none⟩ = some (.int .i64 slots)) (hlt : slots ≤ begun) :
    Calls Try.prog 36 #[.pointer (some ⟨pa, 0, none⟩)] w fun e w' => e = .returned (.tuple #[.int .i64 0, .int .i64 4]) ∧ ∃ n, w' = w.drewN n := by
  go_enter Try.func36, Try.ntmps36
  go_wp2_with (first | (go_at_call 51; refine (arena_valid pa _ h0).mono ?_; rintro e w' ⟨rfl, rfl⟩) | (go_at_call 55; refine (arena_next_none pa begun slots _ h0 h5 h3 h2 hlt).mono ?_; rintro e w' ⟨rfl, nq, rfl⟩))
  go_ret2
  exact ⟨rfl, _, rfl⟩

theorem arena_alloc_last (pa g n cap b k used : Nat) (aft tm st : Int) (w : World) (hne : b ≠ pa) (h0 : w.cell? ⟨pa, 0, none⟩ = some (.pointer (some ⟨pa, 0, none⟩))) (h5 : w.cell? ⟨pa, 5, none⟩ = some (.int .i64 k))
    (h1 : w.cell? ⟨pa, 1, none⟩ = some (.slice (some ⟨g, 0, none⟩) n cap)) (hn : k / 64 < n) (hi : k < 65536)
    (hga : g ≠ pa) (hgb : g ≠ b) (hf : ∀ j, w.frozen? ⟨pa, j, none⟩ = false) (hfb : ∀ j, w.frozen? ⟨b, j, none⟩ = false)
    (h2 : w.cell? ⟨g, k / 64, none⟩ = some (.pointer (some ⟨b, 0, none⟩))) (h4 : w.cell? ⟨pa, 4, none⟩ = some (.int .i64 used)) (hu : used < 65536)
    (hs0 : w.cell? ⟨b, k % 64 * 3, none⟩ = some (.int .i64 st)) (hs1 : w.cell? ⟨b, k % 64 * 3 + 1, none⟩ = some (.int .i64 aft)) (hs2 : w.cell? ⟨b, k % 64 * 3 + 2, none⟩ = some (.int .u64 tm)) :
    Calls Try.prog 36 #[.pointer (some ⟨pa, 0, none⟩)] w fun e w' => e = .returned (.tuple #[.int .i64 k, .int .i64 0]) ∧ ∃ tm', Eqv w' (((((w.setCell ⟨pa, 5, none⟩ (.int .i64 aft)).setCell ⟨b, k % 64 * 3, none⟩ (.int .i64 1)).setCell ⟨b, k % 64 * 3 + 1, none⟩ (.int .i64 (-1))).setCell ⟨b, k % 64 * 3 + 2, none⟩ (.int .u64 tm')).setCell ⟨pa, 4, none⟩ (.int .i64 (used + 1))) := by
  go_enter Try.func36, Try.ntmps36
  go_wp2_with (first | (go_at_call 51; refine (arena_valid pa _ h0).mono ?_; rintro e w' ⟨rfl, rfl⟩) | (go_at_call 55; refine (arena_next_last pa k _ h0 h5).mono ?_; rintro e w' ⟨rfl, rfl⟩) | (go_at_call 53; refine (arena_at_w pa g n cap b k _ ?_ hn hi ?_).mono ?_; go_simp; go_simp; rintro e w' ⟨rfl, rfl⟩))
  go_ret2
  exact ⟨rfl, _, rfl, rfl, rfl, rfl⟩

theorem arena_alloc_fresh (pa g n cap b k slots used : Nat) (aft tm st : Int) (w : World) (hne : b ≠ pa) (h0 : w.cell? ⟨pa, 0, none⟩ = some (.pointer (some ⟨pa, 0, none⟩))) (h5 : w.cell? ⟨pa, 5, none⟩ = some (.int .i64 (-1)))
    (h1 : w.cell? ⟨pa, 1, none⟩ = some (.slice (some ⟨g, 0, none⟩) n cap)) (hn : k / 64 < n) (hi : k < 65536) (hk : 0 < k % 64)
    (h3 : w.cell? ⟨pa, 3, none⟩ = some (.int .i64 k)) (h2s : w.cell? ⟨pa, 2, none⟩ = some (.int .i64 slots)) (hlt : k < slots)
    (hga : g ≠ pa) (hgb : g ≠ b) (hf : ∀ j, w.frozen? ⟨pa, j, none⟩ = false) (hfb : ∀ j, w.frozen? ⟨b, j, none⟩ = false)
    (h2 : w.cell? ⟨g, k / 64, none⟩ = some (.pointer (some ⟨b, 0, none⟩))) (h4 : w.cell? ⟨pa, 4, none⟩ = some (.int .i64 used)) (hu : used < 65536)
    (hs0 : w.cell? ⟨b, k % 64 * 3, none⟩ = some (.int .i64 st)) (hs1 : w.cell? ⟨b, k % 64 * 3 + 1, none⟩ = some (.int .i64 aft)) (hs2 : w.cell? ⟨b, k % 64 * 3 + 2, none⟩ = some (.int .u64 tm)) :
    Calls Try.prog 36 #[.pointer (some ⟨pa, 0, none⟩)] w fun e w' => e = .returned (.tuple #[.int .i64 k, .int .i64 0]) ∧ ∃ tm', Eqv w' (((((w.setCell ⟨pa, 3, none⟩ (.int .i64 (k + 1))).setCell ⟨b, k % 64 * 3, none⟩ (.int .i64 1)).setCell ⟨b, k % 64 * 3 + 1, none⟩ (.int .i64 (-1))).setCell ⟨b, k % 64 * 3 + 2, none⟩ (.int .u64 tm')).setCell ⟨pa, 4, none⟩ (.int .i64 (used + 1))) := by
  have hm : ((k : Int) == -1) = false := beq_eq_false_iff_ne.2 (by omega)
  have hm2 : ((k : Int) % 64 == 0) = false := beq_eq_false_iff_ne.2 (by omega)
  go_enter Try.func36, Try.ntmps36
  go_wp2_with (first | (go_at_call 51; refine (arena_valid pa _ h0).mono ?_; rintro e w' ⟨rfl, rfl⟩) | (go_at_call 55; refine (arena_next_fresh pa k slots _ h0 h5 h3 h2s hlt).mono ?_; rintro e w' ⟨rfl, nq, rfl⟩) | (go_at_call 53; refine (arena_at_w pa g n cap b k _ ?_ hn hi ?_).mono ?_; go_simp; go_simp; rintro e w' ⟨rfl, rfl⟩))
  go_ret2
  exact ⟨rfl, _, rfl, rfl, rfl, rfl⟩

theorem Try.info96 : (Try.prog.info? 96).map (fun i => (i.zero, i.size, i.bytes)) = some (some (.pointer none), 1, 8) := by kernel_rfl

theorem zero_slot : (Try.zeroCells98[0]? = some (.int .i64 0)) ∧ (Try.zeroCells98[1]? = some (.int .i64 0)) ∧ (Try.zeroCells98[2]? = some (.int .u64 0)) := ⟨by kernel_rfl, by kernel_rfl, by kernel_rfl⟩

theorem zero_block_len : Try.zeroCells98.toList.length = 192 := by kernel_rfl
theorem zero_block_all : (List.range 64).all (fun r => match Try.zeroCells98.toList[r * 3]?, Try.zeroCells98.toList[r * 3 + 1]?, Try.zeroCells98.toList[r * 3 + 2]? with
    | some (.int .i64 0), some (.int .i64 0), some (.int .u64 0) => true
    | _, _, _ => false) = true := by kernel_rfl
theorem zero_block (r : Nat) (hr : r < 64) : Try.zeroCells98.toList[r * 3]? = some (.int .i64 0) ∧ Try.zeroCells98.toList[r * 3 + 1]? = some (.int .i64 0) ∧ Try.zeroCells98.toList[r * 3 + 2]? = some (.int .u64 0) := by
  have h := List.all_eq_true.1 zero_block_all r (by simpa using hr)
  split at h
  · rename_i a b c; exact ⟨a, b, c⟩
  · cases h

/-- What the append of a new block leaves, of the cells that Alloc goes on with. -/
theorem grow_facts (pa bl : Nat) (v : Value) (xs : List Value) (w w0 w1 : World) (g' cap' : Nat) (he : Eqv w0 w) (hga : v.ownBlock ≠ some pa) (hpa : pa < w.heap.size) (hxs : xs.length = bl) (hf : ∀ j, w.frozen? ⟨pa, j, none⟩ = false) (hv : ∀ g, v.ownBlock = some g → g < w.heap.size)
    (hown1 : w1.ownsRow 0 96 1 (.slice (some ⟨g', 0, none⟩) (bl + 1) cap') (bl + 1) (xs ++ [.pointer (some ⟨w.heap.size, 0, none⟩)]))
    (hgrow1 : ((w0.alloc (.cells Try.zeroCells98 98)).alloc (.cells #[.pointer (some ⟨w.heap.size, 0, none⟩)] 96)).grownBy w1 v.ownBlock)
    (hg1 : v.ownBlock = some g' ∨ ((w0.alloc (.cells Try.zeroCells98 98)).alloc (.cells #[.pointer (some ⟨w.heap.size, 0, none⟩)] 96)).heap.size ≤ g') :
    (∀ j, w1.cell? ⟨pa, j, none⟩ = w.cell? ⟨pa, j, none⟩) ∧ (∀ j, w1.frozen? ⟨pa, j, none⟩ = false) ∧ Blk w1 w.heap.size 98 Try.zeroCells98.toList ∧ g' ≠ pa ∧ g' ≠ w.heap.size ∧
      w1.cell? ⟨g', bl, none⟩ = some (.pointer (some ⟨w.heap.size, 0, none⟩)) ∧ Fr v.ownBlock.toList w w1 ∧ (v.ownBlock = some g' ∨ w.heap.size < g') ∧ w.heap.size < w1.heap.size := by
  have hsz : w0.heap.size = w.heap.size := by rw [he.heap]
  have hb0 : ∀ k, k < w.heap.size → ((w0.alloc (.cells Try.zeroCells98 98)).alloc (.cells #[.pointer (some ⟨w.heap.size, 0, none⟩)] 96)).heap[k]? = w.heap[k]? := by
    intro k hk
    rw [Below.heap_alloc _ _ _ (by simp [hsz]; omega), Below.heap_alloc _ _ _ (by omega), he.heap]
  have hp : w1.heap[pa]? = w.heap[pa]? := by
    rw [hgrow1.block pa (by simp [hsz]; omega) (fun e => hga e.symm)]; exact hb0 pa hpa
  have hg2 : v.ownBlock = some g' ∨ w.heap.size + 1 < g' := by
    rcases hg1 with h | h
    · exact .inl h
    · refine .inr ?_; simp [hsz] at h; omega
  have hnew : w1.heap[w.heap.size]? = some (.cells Try.zeroCells98 98 (0, 0)) := by
    rw [hgrow1.block _ (by simp [hsz]; omega) (fun e => by have := hv _ e.symm; omega), Below.heap_alloc _ _ _ (by simp [hsz])]
    show (w0.heap.push _)[w.heap.size]? = _
    rw [← hsz]; simp
  refine ⟨fun j => World.cell?_of_block (w := w) hp, fun j => (World.frozen?_of_block (w := w) hp).trans (hf j), ?_, ?_, ?_, ?_, ?_, ?_, ?_⟩
  · unfold Blk; rw [hnew]
  · rcases hg2 with h | h
    · intro e; subst e; exact hga h
    · omega
  · rcases hg2 with h | h
    · have := hv _ h; omega
    · omega
  · obtain ⟨g, cap, e, _, _, hc, _⟩ := ownsRow_at hown1 (Nat.lt_succ_self bl)
    simp only [Value.slice.injEq, Option.some.injEq, Addr.mk.injEq, and_true, true_and] at e
    obtain ⟨rfl, _⟩ := e
    rw [hc]; simp [← hxs]
  · refine ⟨hgrow1.os.trans he.os, hgrow1.tape.trans he.tape, hgrow1.output.trans he.output, by have := hgrow1.size; simp [hsz] at this; omega, fun k hk hn => ?_⟩
    rw [hgrow1.block k (by simp [hsz]; omega) (fun e => hn (by simp [← e]))]; exact hb0 k hk
  · rcases hg2 with h | h
    · exact .inl h
    · exact .inr (by omega)
  · have := hgrow1.size; simp [hsz] at this; omega

theorem arena_alloc_grow (pa bl k slots used : Nat) (v : Value) (xs : List Value) (w : World) (h0 : w.cell? ⟨pa, 0, none⟩ = some (.pointer (some ⟨pa, 0, none⟩))) (h5 : w.cell? ⟨pa, 5, none⟩ = some (.int .i64 (-1)))
    (h1 : w.cell? ⟨pa, 1, none⟩ = some v) (hi : k < 65536) (hk : k % 64 = 0) (hbl : k / 64 = bl) (hown : w.ownsRow 0 96 1 v bl xs)
    (h3 : w.cell? ⟨pa, 3, none⟩ = some (.int .i64 k)) (h2s : w.cell? ⟨pa, 2, none⟩ = some (.int .i64 slots)) (hlt : k < slots)
    (hga : v.ownBlock ≠ some pa) (hpa : pa < w.heap.size) (hf : ∀ j, w.frozen? ⟨pa, j, none⟩ = false)
    (h4 : w.cell? ⟨pa, 4, none⟩ = some (.int .i64 used)) (hu : used < 65536) :
    Calls Try.prog 36 #[.pointer (some ⟨pa, 0, none⟩)] w fun e w' => e = .returned (.tuple #[.int .i64 k, .int .i64 0]) ∧
      ∃ g' cap' w1 tm, w1.ownsRow 0 96 1 (.slice (some ⟨g', 0, none⟩) (bl + 1) cap') (bl + 1) (xs ++ [.pointer (some ⟨w.heap.size, 0, none⟩)]) ∧ Fr v.ownBlock.toList w w1 ∧ Blk w1 w.heap.size 98 Try.zeroCells98.toList ∧ (v.ownBlock = some g' ∨ w.heap.size < g') ∧
        Eqv w' ((((((w1.setCell ⟨pa, 1, none⟩ (.slice (some ⟨g', 0, none⟩) (bl + 1) cap')).setCell ⟨pa, 3, none⟩ (.int .i64 (k + 1))).setCell ⟨w.heap.size, 0, none⟩ (.int .i64 1)).setCell ⟨w.heap.size, 1, none⟩ (.int .i64 (-1))).setCell ⟨w.heap.size, 2, none⟩ (.int .u64 tm)).setCell ⟨pa, 4, none⟩ (.int .i64 (used + 1))) := by
  have hm : ((k : Int) == -1) = false := beq_eq_false_iff_ne.2 (by omega)
  have hm2 : ((k : Int) % 64 == 0) = true := beq_iff_eq.2 (by omega)
  have H1 := Lib.hid hbl; clear hbl
  have H2 := Lib.hid hk; clear hk
  have Hg := Lib.hid hga; clear hga
  have Hx := Lib.hid (show xs.length = bl by have := hown.1; omega)
  have hv : ∀ g, v.ownBlock = some g → g < w.heap.size := fun g e => (hown.lt g e).2
  obtain ⟨z0, z1, z2⟩ := zero_slot
  simp only [← Array.getElem?_toList] at z0 z1 z2
  have hne1 : ¬ pa = w.heap.size := by omega
  have hne2 : ¬ w.heap.size = pa := by omega
  have hblm : bl ≤ 1024 := by have := H1.out; omega
  go_enter Try.func36, Try.ntmps36
  go_wp2_with (first | (go_at_call 51; refine (arena_valid pa _ h0).mono ?_; rintro e w' ⟨rfl, rfl⟩) | (go_at_call 55; refine (arena_next_fresh pa k slots _ h0 h5 h3 h2s hlt).mono ?_; rintro e w' ⟨rfl, nq, rfl⟩) | (at_builtin; (refine wpList_app1 rfl _ _ 84 rfl 96 (.pointer none) 8 Try.underlying84 Try.info96 rfl v bl xs rfl (((Eqv.drewN w nq).owns hown).alloc _ |>.alloc _) (w.heap.size + 1) (.pointer (some ⟨w.heap.size, 0, none⟩)) rfl (cell_new1 _ _ _ _ (by simp)) rfl (by omega) (by decide) ?_); intro g' cap' w1 hown1 hgrow1 hg1; (obtain ⟨f1, f2, f3, f4, f5, f6, f7, f8, f9⟩ := grow_facts pa bl v xs w _ w1 g' cap' (Eqv.drewN w nq) Hg.out hpa Hx.out hf hv hown1 hgrow1 hg1); clear hg1 hgrow1; have c0 := (f3.cell 0).trans z0; have c1 := (f3.cell 1).trans z1; have c2 := (f3.cell 2).trans z2; have c3 := f3.frozen; have F8 := Lib.hid f8; clear f8) | (go_at_call 53; refine (arena_at_r pa g' (bl + 1) cap' w.heap.size k 0 _ ?_ (by have := H1.out; omega) hi ?_ (by have := H2.out; omega)).mono ?_; go_simp; rw [H1.out]; go_simp; rintro e w' ⟨rfl, rfl⟩))
  go_ret2
  exact ⟨rfl, g', cap', w1, _, hown1, f7, f3, F8.out, Eqv.refl _⟩

theorem arena_free_w (pa g n cap b k used slots begun : Nat) (last aft tm : Int) (w : World) (hne : b ≠ pa) (h0 : w.cell? ⟨pa, 0, none⟩ = some (.pointer (some ⟨pa, 0, none⟩))) (h5 : w.cell? ⟨pa, 5, none⟩ = some (.int .i64 last))
    (h1 : w.cell? ⟨pa, 1, none⟩ = some (.slice (some ⟨g, 0, none⟩) n cap)) (hn : k / 64 < n) (hi : k < 65536) (h2s : w.cell? ⟨pa, 2, none⟩ = some (.int .i64 slots)) (hks : k < slots)
    (h3 : w.cell? ⟨pa, 3, none⟩ = some (.int .i64 begun)) (hkb : k < begun)
    (hga : g ≠ pa) (hgb : g ≠ b) (hf : ∀ j, w.frozen? ⟨pa, j, none⟩ = false) (hfb : ∀ j, w.frozen? ⟨b, j, none⟩ = false)
    (h2 : w.cell? ⟨g, k / 64, none⟩ = some (.pointer (some ⟨b, 0, none⟩))) (h4 : w.cell? ⟨pa, 4, none⟩ = some (.int .i64 used)) (hu : used < 65537) (hu0 : 0 < used)
    (hs0 : w.cell? ⟨b, k % 64 * 3, none⟩ = some (.int .i64 1)) (hs1 : w.cell? ⟨b, k % 64 * 3 + 1, none⟩ = some (.int .i64 aft)) (_hs2 : w.cell? ⟨b, k % 64 * 3 + 2, none⟩ = some (.int .u64 tm)) :
    Calls Try.prog 34 #[.pointer (some ⟨pa, 0, none⟩), .int .i64 k] w fun e w' => e = .returned (.int .i64 0) ∧ Eqv w' (((((w.setCell ⟨b, k % 64 * 3, none⟩ (.int .i64 2)).setCell ⟨b, k % 64 * 3 + 1, none⟩ (.int .i64 last)).setCell ⟨pa, 5, none⟩ (.int .i64 k))).setCell ⟨pa, 4, none⟩ (.int .i64 (used - 1))) := by
  go_enter Try.func34, Try.ntmps34
  go_wp2_with (first | (go_at_call 51; refine (arena_valid pa _ h0).mono ?_; rintro e w' ⟨rfl, rfl⟩) | (go_at_call 52; refine (arena_state_w pa g n cap b k begun 1 _ h1 hn hi h3 hkb h2 hs0).mono ?_; rintro e w' ⟨rfl, rfl⟩) | (go_at_call 53; refine (arena_at_w pa g n cap b k _ ?_ hn hi ?_).mono ?_; go_simp; go_simp; rintro e w' ⟨rfl, rfl⟩))
  go_ret
  exact ⟨rfl, rfl, rfl, rfl, rfl⟩

theorem arena_used_no (pa slots : Nat) (i : Int) (w : World) (h0 : w.cell? ⟨pa, 0, none⟩ = some (.pointer (some ⟨pa, 0, none⟩))) (h2 : w.cell? ⟨pa, 2, none⟩ = some (.int .i64 slots)) (hi : i < 0 ∨ (slots : Int) ≤ i) :
    Calls Try.prog 38 #[.pointer (some ⟨pa, 0, none⟩), .int .i64 i] w fun e w' => e = .returned (.bool false) ∧ w = w' := by
  rcases hi with hi | hi
  · have hd : decide (0 ≤ i) = false := decide_eq_false (by omega)
    go_enter Try.func38, Try.ntmps38
    go_wp2_with (go_at_call 51; refine (arena_valid pa _ h0).mono ?_; rintro e w' ⟨rfl, rfl⟩)
    go_ret
    exact ⟨rfl, rfl⟩
  · by_cases hp : 0 ≤ i
    · have hd : decide (0 ≤ i) = true := decide_eq_true (by omega)
      have hd2 : decide (i < (slots : Int)) = false := decide_eq_false (by omega)
      go_enter Try.func38, Try.ntmps38
      go_wp2_with (go_at_call 51; refine (arena_valid pa _ h0).mono ?_; rintro e w' ⟨rfl, rfl⟩)
      go_ret
      exact ⟨rfl, rfl⟩
    · have hi : i < 0 := by omega
      have hd : decide (0 ≤ i) = false := decide_eq_false (by omega)
      go_enter Try.func38, Try.ntmps38
      go_wp2_with (go_at_call 51; refine (arena_valid pa _ h0).mono ?_; rintro e w' ⟨rfl, rfl⟩)
      go_ret
      exact ⟨rfl, rfl⟩

theorem arena_used_st (pa slots i : Nat) (st : Int) (w : World) (h0 : w.cell? ⟨pa, 0, none⟩ = some (.pointer (some ⟨pa, 0, none⟩))) (h2 : w.cell? ⟨pa, 2, none⟩ = some (.int .i64 slots)) (hi : i < slots)
    (hst : Calls Try.prog 52 #[.pointer (some ⟨pa, 0, none⟩), .int .i64 i] w fun e w' => e = .returned (.int .i64 st) ∧ w = w') :
    Calls Try.prog 38 #[.pointer (some ⟨pa, 0, none⟩), .int .i64 i] w fun e w' => e = .returned (.bool (st == 1)) ∧ w = w' := by
  have H := Lib.hid hst; clear hst
  have hd : decide (0 ≤ (i : Int)) = true := decide_eq_true (by omega)
  have hd2 : decide ((i : Int) < (slots : Int)) = true := decide_eq_true (by omega)
  go_enter Try.func38, Try.ntmps38
  go_wp2_with (first | (go_at_call 51; refine (arena_valid pa _ h0).mono ?_; rintro e w' ⟨rfl, rfl⟩) | (go_at_call 52; refine H.out.mono ?_; rintro e w' ⟨rfl, rfl⟩))
  go_ret
  exact ⟨rfl, rfl⟩

theorem arena_len_w (pa : Nat) (used : Int) (w : World) (h0 : w.cell? ⟨pa, 0, none⟩ = some (.pointer (some ⟨pa, 0, none⟩))) (h4 : w.cell? ⟨pa, 4, none⟩ = some (.int .i64 used)) :
    Calls Try.prog 37 #[.pointer (some ⟨pa, 0, none⟩)] w fun e w' => e = .returned (.int .i64 used) ∧ w = w' := by
  go_enter Try.func37, Try.ntmps37
  go_wp2_with (go_at_call 51; refine (arena_valid pa _ h0).mono ?_; rintro e w' ⟨rfl, rfl⟩)
  go_ret
  exact ⟨rfl, rfl⟩

theorem arena_new_no (slots : Int) (w : World) (h : slots < 0 ∨ 65536 < slots) :
    Calls Try.prog 31 #[.int .i64 slots] w fun e w' => e = .returned (.tuple #[.pointer none, .int .i64 2]) ∧ w = w' := by
  rcases h with h | h
  · have hd : decide (slots < 0) = true := decide_eq_true (by omega)
    go_enter Try.func31, Try.ntmps31
    go_wp2
    go_ret2
    exact ⟨rfl, rfl⟩
  · have hd : decide (slots < 0) = false := decide_eq_false (by omega)
    have hd2 : decide (65536 < slots) = true := decide_eq_true (by omega)
    go_enter Try.func31, Try.ntmps31
    go_wp2
    go_ret2
    exact ⟨rfl, rfl⟩

theorem arena_new_w (slots : Nat) (w : World) (h : slots ≤ 65536) :
    Calls Try.prog 31 #[.int .i64 slots] w fun e w' => e = .returned (.tuple #[.pointer (some ⟨w.heap.size, 0, none⟩), .int .i64 0]) ∧
      Eqv w' (w.alloc (.cells #[.pointer (some ⟨w.heap.size, 0, none⟩), .slice none 0 0, .int .i64 slots, .int .i64 0, .int .i64 0, .int .i64 (-1)] 86)) := by
  have hd : decide ((slots : Int) < 0) = false := decide_eq_false (by omega)
  have hd2 : decide (65536 < (slots : Int)) = false := decide_eq_false (by omega)
  go_enter Try.func31, Try.ntmps31
  go_wp2
  go_ret2
  exact ⟨rfl, rfl, rfl, rfl, rfl⟩

end Go.Proofs.Ytciacnnelpijeaa
