/- A region that draws its order, whose operations give the same values in every world of a class and keep the class: one walk in the order of the text serves every order. -/
import Derived.Test.YtoppjjgecgbbkaaLctNewsZ1
import Derived.Test.YtoppjjgecgbbkaaLctNewsZ9
import Derived.Test.YtoppjjgecgbbkaaLctNewsZ10
import Derived.Deep.LoopGhost
import Derived.Deep.RegionHeld3
import Derived.Shelf.SlGeneric
import Derived.Ground.SlgnProg
import Derived.Shelf.SlicesE.Clone
/- The document's forest in memory; New, valid, has, Key. -/
namespace Go.Proofs.Ytoppjjgecgbbkaa
open Go.RowKit Classical
set_option maxRecDepth 10000
set_option maxHeartbeats 400000

def keyCells (n : Nat) (key : Nat → Int) : List Value := (List.range n).map fun x => .int .i64 (key x)
theorem keyCells_at {n : Nat} {key : Nat → Int} {i : Nat} (hi : i < n) : (keyCells n key)[i]? = some (.int .i64 (key i)) := by simp [keyCells, hi]
theorem keyCells_set {n : Nat} {key : Nat → Int} {i : Nat} (k : Int) : (keyCells n key).set i (.int .i64 k) = keyCells n (updI key i k) := by
  apply List.ext_getElem?
  intro j
  rw [List.getElem?_set]
  by_cases hj : j < n
  · rw [keyCells_at hj, keyCells_at hj]
    by_cases e : i = j
    · subst e; simp [keyCells, hj, updI]
    · rw [if_neg e]; simp [updI, Ne.symm e]
  · have h1 : (keyCells n key)[j]? = none := by simp [keyCells]; omega
    have h2 : (keyCells n (updI key i k))[j]? = none := by simp [keyCells]; omega
    rw [h1, h2]
    by_cases e : i = j
    · subst e; simp [keyCells]; omega
    · rw [if_neg e]

/-- The edges of a list: a forest on the vertices below n. -/
structure EL (n : Nat) (L : List (Nat × Nat)) : Prop where
  le : n ≤ 65536
  frs : Frs (EK L)
  once : Once L
  lt : ∀ p ∈ L, p.1 < n ∧ p.2 < n ∧ p.1 ≠ p.2
  trees : nc n (EK L) + L.length = n

structure RefAt (w : World) (pr : Nat) (vK vL : Value) (n : Nat) (key : Nat → Int) (L : List (Nat × Nat)) : Prop where
  hd : Blk w pr 76 [.bool true, vK, vL]
  keys : w.ownsRow 0 2 1 vK n (keyCells n key)
  edges : w.ownsRow 0 30 2 vL L.length (pairCells L)
  apK : vK.ownBlock ≠ some pr
  apL : vL.ownBlock ≠ some pr
  apKL : ∀ q, vK.ownBlock = some q → vL.ownBlock ≠ some q

/-- The blocks of the forest. -/
def rB (pr : Nat) (vK vL : Value) : List Nat := pr :: (vK.ownBlock.toList ++ vL.ownBlock.toList)

section
variable {w w' : World} {pr : Nat} {vK vL : Value} {n : Nat} {key : Nat → Int} {L : List (Nat × Nat)}
theorem RefAt.fr {S : List Nat} (h : RefAt w pr vK vL n key L) (hf : Fr S w w') (hs : ∀ q ∈ rB pr vK vL, q ∉ S) : RefAt w' pr vK vL n key L :=
  ⟨hf.blk h.hd (hs pr (by simp [rB])), ownsRow_same h.keys (fun q hq => hf.keep q (h.keys.lt q hq).2 (hs q (by simp [rB, hq]))), ownsRow_same h.edges (fun q hq => hf.keep q (h.edges.lt q hq).2 (hs q (by simp [rB, hq]))), h.apK, h.apL, h.apKL⟩
theorem RefAt.fr0 (h : RefAt w pr vK vL n key L) (hf : Fr [] w w') : RefAt w' pr vK vL n key L := h.fr hf (by simp)
theorem RefAt.drewN (h : RefAt w pr vK vL n key L) (k : Nat) : RefAt (w.drewN k) pr vK vL n key L := h.fr0 ((Fr.refl [] w).drewN k)
theorem RefAt.lt (h : RefAt w pr vK vL n key L) : ∀ q ∈ rB pr vK vL, q < w.heap.size := by
  intro q hq
  simp only [rB, List.mem_cons, List.mem_append, Option.mem_toList] at hq
  rcases hq with rfl | hq | hq
  · exact h.hd.lt
  · exact (h.keys.lt q hq).2
  · exact (h.edges.lt q hq).2
theorem RefAt.slK (h : RefAt w pr vK vL n key L) : ∃ a cap, vK = .slice a n cap := ownsRow_slice h.keys
theorem RefAt.slL (h : RefAt w pr vK vL n key L) : ∃ a cap, vL = .slice a L.length cap := ownsRow_slice h.edges
theorem RefAt.keyAt (h : RefAt w pr vK vL n key L) {i : Nat} (hi : i < n) : ∃ b cap, vK = .slice (some ⟨b, 0, none⟩) n cap ∧ w.cell? ⟨b, i, none⟩ = some (.int .i64 (key i)) ∧ w.frozen? ⟨b, i, none⟩ = false := by
  obtain ⟨b, cap, e, _, _, h1, h2⟩ := ownsRow_at h.keys hi
  exact ⟨b, cap, e, by rw [h1, keyCells_at hi], h2 i⟩
end

theorem pairCells_at (K : List (Nat × Nat)) : ∀ (i : Nat) (hi : i < K.length), (pairCells K)[i * 2]? = some (.int .i64 (K[i].1 : Int)) ∧ (pairCells K)[i * 2 + 1]? = some (.int .i64 (K[i].2 : Int)) := by
  induction K with
  | nil => intro i hi; simp at hi
  | cons p K ih =>
    intro i hi
    cases i with
    | zero => simp [pairCells]
    | succ i =>
      have := ih i (by simpa using hi)
      simp only [pairCells, List.flatMap_cons] at this ⊢
      rw [show (i + 1) * 2 = i * 2 + 2 by omega, show i * 2 + 2 + 1 = (i * 2 + 1) + 2 by omega]
      simpa using this
theorem pair_at {w : World} {v : Value} {K : List (Nat × Nat)} (h : w.ownsRow 0 30 2 v K.length (pairCells K)) {i : Nat} (hi : i < K.length) : ∃ b cap, v = .slice (some ⟨b, 0, none⟩) K.length cap ∧ b < w.heap.size ∧
    w.cell? ⟨b, i * 2, none⟩ = some (.int .i64 (K[i].1 : Int)) ∧ w.cell? ⟨b, i * 2 + 1, none⟩ = some (.int .i64 (K[i].2 : Int)) := by
  obtain ⟨h1, h2⟩ := h
  rcases h2 with ⟨rfl, h0⟩ | ⟨g, cap, cur, rfl, _, hh, hn, hm, hsz, hxs⟩
  · omega
  · refine ⟨g, cap, rfl, (Array.getElem?_eq_some_iff.1 hh).1, ?_, ?_⟩
    all_goals
      have key : ∀ j, j < 2 → cur[i * 2 + j]? = (pairCells K)[i * 2 + j]? := by
        intro j hj
        rw [← hxs, List.getElem?_take, if_pos (by omega)]
        simp
      simp only [World.cell?, hh]
      simp
    · have := key 0 (by omega); simp at this; rw [this]; exact (pairCells_at K i hi).1
    · rw [key 1 (by omega)]; exact (pairCells_at K i hi).2

theorem valid_r {w : World} {pr : Nat} {vK vL : Value} {n : Nat} {key : Nat → Int} {L : List (Nat × Nat)} (h : RefAt w pr vK vL n key L) :
    Calls Try.prog 60 #[.pointer (some ⟨pr, 0, none⟩)] w fun e w' => e = .returned (.bool true) ∧ w' = w := by
  have c0 := h.hd.cell 0
  simp only [List.getElem?_cons_zero] at c0
  go_enter Try.func60, Try.ntmps60
  go_wp2
  go_ret
  exact ⟨rfl, rfl⟩

theorem has_r {w : World} {pr : Nat} {vK vL : Value} {n : Nat} {key : Nat → Int} {L : List (Nat × Nat)} (h : RefAt w pr vK vL n key L) (v : Int) :
    Calls Try.prog 58 #[.pointer (some ⟨pr, 0, none⟩), .int .i64 v] w fun e w' => e = .returned (.bool (inV n v)) ∧ w' = w := by
  obtain ⟨a1, c1, rfl⟩ := h.slK
  have hV := Lib.hid (valid_r h)
  have c1 := h.hd.cell 1
  simp only [List.getElem?_cons_zero, List.getElem?_cons_succ] at c1
  by_cases h1 : 0 ≤ v
  · by_cases h2 : v < n
    · have e : inV n v = true := by simp [inV, h1, h2]
      rw [e]; clear e
      go_enter Try.func58, Try.ntmps58
      go_wp2_with (go_at_call 60; refine hV.out.mono ?_; rintro e w' ⟨rfl, rfl⟩)
      go_ret
      exact ⟨rfl, rfl⟩
    · have e : inV n v = false := by simp [inV, h2]
      rw [e]; clear e
      have d2 : decide (v < (n : Int)) = false := decide_eq_false h2
      go_enter Try.func58, Try.ntmps58
      go_wp2_with (go_at_call 60; refine hV.out.mono ?_; rintro e w' ⟨rfl, rfl⟩)
      go_ret
      exact ⟨rfl, rfl⟩
  · have e : inV n v = false := by simp [inV, h1]
    rw [e]; clear e
    go_enter Try.func58, Try.ntmps58
    go_wp2_with (go_at_call 60; refine hV.out.mono ?_; rintro e w' ⟨rfl, rfl⟩)
    go_ret
    exact ⟨rfl, rfl⟩

theorem key_r {w : World} {pr : Nat} {vK vL : Value} {n : Nat} {key : Nat → Int} {L : List (Nat × Nat)} (h : RefAt w pr vK vL n key L) (v : Int) :
    Calls Try.prog 48 #[.pointer (some ⟨pr, 0, none⟩), .int .i64 v] w fun e w' => e = .returned (.int .i64 (keyI n key v)) ∧ w' = w := by
  have hH := Lib.hid (has_r h v)
  cases hv : inV n v with
  | false =>
    rw [hv] at hH
    have e : keyI n key v = 0 := by simp [keyI, hv]
    rw [e]; clear e
    go_enter Try.func48, Try.ntmps48
    go_wp2_with (go_at_call 58; refine hH.out.mono ?_; rintro e w' ⟨rfl, rfl⟩)
    go_ret
    exact ⟨rfl, rfl⟩
  | true =>
    rw [hv] at hH
    obtain ⟨i, rfl, hi⟩ := inV_nat hv
    rw [keyI_nat hi]
    obtain ⟨b, cap, rfl, hc, _⟩ := h.keyAt hi
    have c1 := h.hd.cell 1
    simp only [List.getElem?_cons_zero, List.getElem?_cons_succ] at c1
    have hi2 : (i : Int) < n := by omega
    go_enter Try.func48, Try.ntmps48
    go_wp2_with (go_at_call 58; refine hH.out.mono ?_; rintro e w' ⟨rfl, rfl⟩)
    go_ret
    exact ⟨rfl, rfl⟩

def zero64 (m : Nat) : Array Value := madeCells (Value.int .i64 0).cells m
theorem run_make64 (n : Nat) (w : World) (hn : n ≤ 1048576) : (Instr.makeSlice 50 (.int .i64 n) (.int .i64 n)).run Try.prog w = .ok (.slice (some ⟨w.heap.size, 0, none⟩) n n) (w.alloc (.cells (zero64 n) 2)) := by
  obtain ⟨i0, hi, hz0, hz1, hz2⟩ := info_parts (show (Try.prog.info? 2).map (fun i => (i.zero, i.size, i.bytes)) = some (some (.int .i64 0), 1, 8) by kernel_rfl)
  have h := run_make (P := Try.prog) w 50 2 i0 (.int .i64 0) Try.underlying50 hi hz0 .i64 .i64 n n (by omega) (by omega) (by rw [hz2]; omega) (by omega)
  rw [hz1] at h
  simp only [Int.toNat_natCast, Nat.mul_one] at h
  exact h
theorem zero64_list (n : Nat) : (zero64 n).toList = keyCells n (fun _ => 0) := by
  have h : zero64 n = madeCells #[.int .i64 0] n := rfl
  rw [h, toList_madeCells_one]
  apply List.ext_getElem?
  intro j
  by_cases hj : j < n
  · rw [keyCells_at hj]; simp [hj]
  · have h1 : (keyCells n (fun _ => 0))[j]? = none := by simp [keyCells]; omega
    rw [h1]; simp; omega
theorem new_r (w : World) (n : Nat) (hn : n ≤ 65536) :
    Calls Try.prog 24 #[.int .i64 n] w fun e w' => ∃ pr vK, e = .returned (.tuple #[.pointer (some ⟨pr, 0, none⟩), .int .i64 0]) ∧ RefAt w' pr vK (.slice none 0 0) n (fun _ => 0) [] ∧ Fr [] w w' ∧ ∀ q ∈ rB pr vK (.slice none 0 0), w.heap.size ≤ q := by
  have hmk := run_make64 n w (by omega)
  have hd0 : decide ((n : Int) < 0) = false := decide_eq_false (by omega)
  have hd1 : decide ((n : Int) > 65536) = false := decide_eq_false (by omega)
  go_enter Try.func24, Try.ntmps24
  go_wp2
  go_ret2
  have hb := Blk.new (w.alloc (.cells (zero64 n) 2)) [.bool true, .slice (some ⟨w.heap.size, 0, none⟩) n n, .slice none 0 0] 76
  rw [World.size_alloc] at hb
  refine ⟨w.heap.size + 1, .slice (some ⟨w.heap.size, 0, none⟩) n n, rfl, ⟨hb, ?_, ?_, ?_, ?_, ?_⟩, ((Fr.refl _ _).alloc _).alloc _, ?_⟩
  · refine ⟨by simp [keyCells], .inr ⟨w.heap.size, n, zero64 n, rfl, Nat.zero_le _, ?_, Nat.le_refl _, by unfold maxLen; omega, by simp [zero64, size_madeCells], ?_⟩⟩
    · exact (Below.heap_alloc _ _ _ (by simp)).trans (World.alloc_heap_new w _)
    · rw [zero64_list]; exact List.take_of_length_le (by simp [keyCells])
  · exact World.ownsRow_nil _ _ _ _
  · simp [Value.ownBlock]
  · simp [Value.ownBlock]
  · simp [Value.ownBlock]
  · simp [rB, Value.ownBlock]
theorem new_bad (w : World) (n : Int) (hn : n < 0 ∨ 65536 < n) :
    Calls Try.prog 24 #[.int .i64 n] w fun e w' => e = .returned (.tuple #[.pointer none, .int .i64 2]) ∧ w' = w := by
  by_cases h : n < 0
  · have hd0 : decide (n < 0) = true := decide_eq_true h
    go_enter Try.func24, Try.ntmps24
    go_wp2
    go_ret2
    exact ⟨rfl, rfl⟩
  · have hd0 : decide (n < 0) = false := decide_eq_false h
    have hd1 : decide (n > 65536) = true := decide_eq_true (by omega)
    go_enter Try.func24, Try.ntmps24
    go_wp2
    go_ret2
    exact ⟨rfl, rfl⟩
end Go.Proofs.Ytoppjjgecgbbkaa

/- The document's forest: Towards. -/
namespace Go.Proofs.Ytoppjjgecgbbkaa
open Go.RowKit Classical
set_option maxRecDepth 10000
set_option maxHeartbeats 800000

theorem run_makeI (n : Nat) (w : World) (hn : n ≤ 1048576) : (Instr.makeSlice 41 (.int .i64 n) (.int .i64 n)).run Try.prog w = .ok (.slice (some ⟨w.heap.size, 0, none⟩) n n) (w.alloc (.cells (zero64 n) 3)) := by
  obtain ⟨i0, hi, hz0, hz1, hz2⟩ := info_parts Try.info3
  have h := run_make (P := Try.prog) w 41 3 i0 (.int .i64 0) Try.underlying41 hi hz0 .i64 .i64 n n (by omega) (by omega) (by rw [hz2]; omega) (by omega)
  rw [hz1] at h
  simp only [Int.toNat_natCast, Nat.mul_one] at h
  exact h

/-- The row of the next vertices. -/
structure Tr (w wr : World) (pr : Nat) (vK vL : Value) (n : Nat) (key : Nat → Int) (L : List (Nat × Nat)) (nb : Nat) (nx : Nat → Int) : Prop where
  ref : RefAt wr pr vK vL n key L
  row : wr.ownsRow 0 3 1 (.slice (some ⟨nb, 0, none⟩) n n) n (keyCells n nx)
  fr : Fr [] w wr
  new : w.heap.size ≤ nb
  old : ∀ q ∈ rB pr vK vL, q < w.heap.size
structure Tq (w wr : World) (nb : Nat) (v : Value) (todo : List Nat) : Prop where
  que : Que wr 3 v (encR todo)
  new : ∀ b, v.ownBlock = some b → w.heap.size ≤ b ∧ b ≠ nb

section
variable {w wr w' : World} {pr : Nat} {vK vL : Value} {n : Nat} {key : Nat → Int} {L : List (Nat × Nat)} {nb : Nat} {nx : Nat → Int} {v : Value} {todo : List Nat}
theorem Tr.step (h : Tr w wr pr vK vL n key L nb nx) {S : List Nat} (hf : Fr S wr w') (hn : nb ∉ S) (hs : ∀ q ∈ S, w.heap.size ≤ q) : Tr w w' pr vK vL n key L nb nx :=
  ⟨h.ref.fr hf (fun q hq hm => by have := h.old q hq; have := hs q hm; omega), ownsRow_same h.row (fun q hq => hf.keep q (h.row.lt q hq).2 (by simp [Value.ownBlock] at hq; subst hq; exact hn)), h.fr.trans hf (fun q hq => .inr (hs q hq)), h.new, h.old⟩
theorem Tr.set (h : Tr w wr pr vK vL n key L nb nx) {o : Nat} (ho : o < n) (k : Int) : Tr w (wr.setCell ⟨nb, o, none⟩ (.int .i64 k)) pr vK vL n key L nb (updI nx o k) := by
  have hf : Fr [nb] wr (wr.setCell ⟨nb, o, none⟩ (.int .i64 k)) := (Fr.refl _ _).setCell _ _ (.inl (by simp))
  have hn := h.new
  refine ⟨h.ref.fr hf (fun q hq hm => by have := h.old q hq; simp at hm; omega), ?_, h.fr.trans hf (fun q hq => .inr (by simp at hq; omega)), h.new, h.old⟩
  have := ownsRow_set h.row ho (.int .i64 k)
  rw [keyCells_set] at this; exact this
theorem Tr.at (h : Tr w wr pr vK vL n key L nb nx) {o : Nat} (ho : o < n) : wr.cell? ⟨nb, o, none⟩ = some (.int .i64 (nx o)) ∧ wr.frozen? ⟨nb, o, none⟩ = false := by
  obtain ⟨b, cap, e, _, _, h1, h2⟩ := ownsRow_at h.row ho
  simp only [Value.slice.injEq, Option.some.injEq, Addr.mk.injEq, and_true, true_and] at e
  obtain ⟨rfl, rfl⟩ := e
  exact ⟨by rw [h1, keyCells_at ho], h2 o⟩
theorem Tq.step (h : Tq w wr nb v todo) {S : List Nat} (hf : Fr S wr w') (hn : ∀ b, v.ownBlock = some b → b ∉ S) : Tq w w' nb v todo := by
  refine ⟨h.que.same (fun k hk => hf.keep k ?_ (hn k hk)), h.new⟩
  obtain ⟨b, h1, h2⟩ := h.que.lt
  rw [hk] at h1; simp at h1; omega
theorem Tr.congr (h : Tr w wr pr vK vL n key L nb nx) {nx' : Nat → Int} (e : ∀ x, x < n → nx x = nx' x) : Tr w wr pr vK vL n key L nb nx' := by
  have : keyCells n nx = keyCells n nx' := List.map_congr_left (fun x hx => by rw [e x (List.mem_range.1 hx)])
  exact ⟨h.ref, by rw [← this]; exact h.row, h.fr, h.new, h.old⟩
end

theorem Tq.app {w wr w' w0 : World} {nb : Nat} {v v' : Value} {todo : List Nat} {o : Nat} (h : Tq w wr nb v todo) (hq : Que w' 3 v' (encR todo ++ [encI o])) (hf : Fr [] wr w0) (hr : w.heap.size ≤ wr.heap.size) (hnb : nb < wr.heap.size)
    (hv : v'.ownBlock = v.ownBlock ∨ ∀ q, v'.ownBlock = some q → w0.heap.size ≤ q) : Tq w w' nb v' (todo ++ [o]) := by
  refine ⟨by simpa [encR] using hq, fun b hb => ?_⟩
  rcases hv with e | e
  · exact h.new b (e ▸ hb)
  · have := e b hb; have := hf.size; omega

theorem towards_r {w : World} {pr : Nat} {vK vL : Value} {n : Nat} {key : Nat → Int} {L : List (Nat × Nat)} (h : RefAt w pr vK vL n key L) (hE : EL n L) (to : Nat) (hto : to < n) :
    Calls Try.prog 59 #[.pointer (some ⟨pr, 0, none⟩), .int .i64 to] w fun e w' => ∃ nb nx, e = .returned (.slice (some ⟨nb, 0, none⟩) n n) ∧ Tr w w' pr vK vL n key L nb nx ∧ Bfs n (EK L) to nx [] (fun _ => True) := by
  have hle := hE.le
  have hLl : L.length ≤ 65536 := by have := hE.trees; omega
  have hmk := fun W => run_makeI n W (by omega)
  have HE := Lib.hid hE; clear hE
  obtain ⟨aK, cK, rfl⟩ := h.slK
  obtain ⟨aL, cL, rfl⟩ := h.slL
  have d1 := h.hd.cell 1
  simp only [List.getElem?_cons_zero, List.getElem?_cons_succ] at d1
  have hT0 : Tr w (w.alloc (.cells (zero64 n) 3)) pr (.slice aK n cK) (.slice aL L.length cL) n key L w.heap.size (fun _ => 0) := by
    refine ⟨h.fr0 ((Fr.refl [] w).alloc _), ?_, (Fr.refl _ _).alloc _, Nat.le_refl _, h.lt⟩
    refine ⟨by simp [keyCells], .inr ⟨w.heap.size, n, zero64 n, rfl, Nat.zero_le _, World.alloc_heap_new w _, Nat.le_refl _, by unfold maxLen; omega, by simp [zero64, size_madeCells], ?_⟩⟩
    rw [zero64_list]; exact List.take_of_length_le (by simp [keyCells])
  go_enter Try.func59, Try.ntmps59
  go_wp2
  generalize w.heap.size = nb at *
  go_loopw [6] (fun x wr => ∃ k : Nat, k ≤ n ∧ x = .int .i64 k ∧ Hid (Tr w wr pr (.slice aK n cK) (.slice aL L.length cL) n key L nb (fun y => if y < k then -1 else 0))) (fun x _ => n - (intOf x).toNat)
  case atStart => exact ⟨0, Nat.zero_le _, rfl, Lib.hid (hT0.congr (fun x _ => by simp))⟩
  case round =>
    clear hT0 hmk
    obtain ⟨k, hk, rfl, HT⟩ := hrel
    by_cases hlt : k < n
    · obtain ⟨e1, e2⟩ := HT.out.at hlt
      have hki : (k : Int) < n := by omega
      go_wp2
      go_roundw
      case rel =>
        refine ⟨k + 1, by omega, by go_num, Lib.hid ((HT.out.set hlt (-1)).congr (fun x hx => ?_))⟩
        unfold updI
        by_cases e : x = k
        · rw [if_pos e, if_pos (by omega)]
        · rw [if_neg e]
          by_cases e2 : x < k
          · simp only [if_pos e2]; rw [if_pos (by omega)]
          · simp only [if_neg e2]; rw [if_neg (by omega)]
      case measure => simp [intOf]; omega
    · obtain rfl : k = n := by omega
      obtain ⟨e1, e2⟩ := HT.out.at hto
      have hki : ¬ ((k : Int) < k) := by omega
      have hti : (to : Int) < k := by omega
      have hT1 : Tr w ((wr.setCell ⟨nb, to, none⟩ (.int .i64 to)).alloc (.cells #[.int .i64 to] 3)) pr (.slice aK k cK) (.slice aL L.length cL) k key L nb (updI (fun _ => -1) to to) := by
        refine ((HT.out.set hto (to : Int)).congr (fun x hx => ?_)).step (S := []) ((Fr.refl _ _).alloc _) (by simp) (by simp)
        unfold updI
        by_cases e : x = to
        · rw [if_pos e, if_pos e]
        · rw [if_neg e, if_neg e]; simp only [if_pos hx]
      have hq1 : Tq w ((wr.setCell ⟨nb, to, none⟩ (.int .i64 to)).alloc (.cells #[.int .i64 to] 3)) nb (.slice (some ⟨wr.heap.size, 0, none⟩) 1 1) [to] := by
        have hs := HT.out.fr.size
        have hnb := (HT.out.row.lt nb rfl).2
        refine ⟨⟨wr.heap.size, 0, 1, #[.int .i64 to], rfl, ?_, by simp [encR], by unfold maxLen; omega, by simp, fun j u hj => ?_⟩, fun b hb => ?_⟩
        · have := World.alloc_heap_new (wr.setCell ⟨nb, to, none⟩ (.int .i64 to)) (.cells #[.int .i64 to] 3)
          have e : (wr.setCell ⟨nb, to, none⟩ (.int .i64 to)).heap.size = wr.heap.size := by simp [World.setCell]
          rw [e] at this; exact this
        · simpa [encR, encI] using hj
        · simp [Value.ownBlock] at hb; omega
      have hb1 : Bfs k (EK L) to (updI (fun _ => -1) to to) [to] (fun _ => True) := Bfs.start hto
      have HT1 := Lib.hid hT1; clear hT1
      have HQ1 := Lib.hid hq1; clear hq1
      have HB1 := Lib.hid hb1; clear hb1
      go_wp2
      clear e1 e2 HT d1 hlt
      generalize (wr.setCell ⟨nb, to, none⟩ (.int .i64 to)).alloc (.cells #[.int .i64 to] 3) = W1 at *
      go_loopg [7] (2 * k + 2) (fun m q wr => ∃ (nx : Nat → Int) (todo : List Nat), Hid (Tr w wr pr (.slice aK k cK) (.slice aL L.length cL) k key L nb nx) ∧ Hid (Tq w wr nb q todo) ∧ Hid (Bfs k (EK L) to nx todo (fun _ => True)) ∧ Hid (2 * unv k nx + todo.length < m ∧ m ≤ 2 * k + 2))
      case atStart => exact ⟨_, _, HT1, HQ1, HB1, Lib.hid ⟨by have := unv_le k (updI (fun _ => -1) to to); simp; omega, Nat.le_refl _⟩⟩
      case round =>
        clear HT1 HQ1 HB1
        obtain ⟨nx, todo, HT, HQ, HB, HM⟩ := hrel
        cases todo with
        | nil =>
          obtain ⟨b, off, cap, cur, hq, _⟩ := HQ.out.que
          subst hq
          simp only [encR, List.map_nil, List.length_nil]
          go_wp2
          go_ret
          exact ⟨nb, nx, rfl, HT.out, HB.out⟩
        | cons v todo =>
          obtain ⟨b, off, cap, hq, hcap, hc, hq2⟩ := Que.head (show Que _ _ _ (encI v :: encR todo) from HQ.out.que)
          subst hq
          have hl : (encR todo).length = todo.length := by simp [encR]
          simp only [hl] at hcap hq2 HQ ⊢
          clear hl
          have HM2 := Lib.hid (show 2 * unv k nx + todo.length + 1 < gk by have := HM.out.1; simp only [List.length_cons] at this; omega)
          have Hgk := Lib.hid HM.out.2
          have hqn := fun (q2 : Value) (e : q2.ownBlock = some b) (b' : Nat) (hb : q2.ownBlock = some b') => HQ.out.new b' (by rw [e] at hb; exact hb)
          have Hqn := Lib.hid hqn; clear hqn
          have HMid := Lib.hid (Mid.start HB.out)
          have Hlt := Lib.hid (show v < k from (HB.out.path v (HB.out.queue v (by simp))).1)
          have HTq : Hid (∃ q2, (cap = 1 → q2 = .slice (some ⟨b, off, none⟩) todo.length 0) ∧ (cap ≠ 1 → q2 = .slice (some ⟨b, off + 1, none⟩) todo.length (cap - 1)) ∧ Tq w wr nb q2 todo) := Lib.hid (by
            refine ⟨_, fun e => ?_, fun e => ?_, hq2, Hqn.out _ (by split <;> rfl)⟩
            · rw [if_pos e, e]
            · rw [if_neg e])
          clear hq2 HQ HB Hqn HM
          simp only [encI] at hc
          obtain ⟨q2, hz1, hz2, htq⟩ := HTq.out
          have HTq2 := Lib.hid htq; clear htq HTq
          by_cases hc1 : cap = 1
          case' pos => (subst hc1; obtain rfl := hz1 rfl; obtain rfl : todo = [] := List.eq_nil_of_length_eq_zero (by omega))
          case' neg => (obtain rfl := hz2 hc1)
          all_goals clear hz1 hz2
          all_goals
            go_wp2
            clear hc hcap
            go_loopg [7, 9] (L.length) (fun m q y wr => ∃ (i : Nat) (s : (Nat → Int) × List Nat), i ≤ L.length ∧ y = .int .i64 i ∧ m = L.length - i ∧ Hid (Tr w wr pr (.slice aK k cK) (.slice aL L.length cL) k key L nb s.1) ∧ Hid (Tq w wr nb q s.2) ∧ Hid (Mid k L to v i s) ∧ Hid (2 * unv k s.1 + s.2.length + 1 < gk))
            case atStart => exact ⟨0, (nx, _), Nat.zero_le _, rfl, by omega, HT, HTq2, HMid, HM2⟩
            case round =>
              clear HT HTq2 HMid HM2
              obtain ⟨i, ⟨nx, todo⟩, hi, rfl, hgm, HT, HQ, HMid, HM⟩ := hrel
              have d2 := HT.out.ref.hd.cell 2
              simp only [List.getElem?_cons_zero, List.getElem?_cons_succ] at d2
              by_cases hlt : i < L.length
              · have hmem := List.getElem_mem hlt
                have hnext := HMid.out.next (fun p hp => ⟨(HE.out.lt p hp).1, (HE.out.lt p hp).2.1⟩) hlt
                have hmeas := bfs_meas (n := k) (v := v) (s := (nx, todo)) (e := L[i]) ⟨(HE.out.lt _ hmem).1, (HE.out.lt _ hmem).2.1⟩
                obtain ⟨hx, hy, hxy⟩ := HE.out.lt _ hmem
                obtain ⟨bL, capL, eL, _, c0, c1⟩ := pair_at HT.out.ref.edges hlt
                simp only [Value.slice.injEq, true_and] at eL
                obtain ⟨rfl, rfl⟩ := eL
                generalize L[i] = ed at *
                obtain ⟨x, y⟩ := ed
                dsimp only at hx hy hxy c0 c1
                have hi1 : (i : Int) < L.length := by omega
                have HN := Lib.hid (And.intro hnext hmeas); clear hnext hmeas HMid hmem
                have HM' := Lib.hid (show 2 * unv k (bfsE v (nx, todo) (x, y)).1 + (bfsE v (nx, todo) (x, y)).2.length + 1 < _ by have h1 := HN.out.2; have h2 := HM.out; dsimp only at h1 h2; exact Nat.lt_of_le_of_lt (Nat.add_le_add_right h1 1) h2)
                clear HM
                by_cases hyv : y = v
                · subst hyv
                  have t1 : ((x : Int) == (y : Int)) = false := beq_eq_false_iff_ne.2 (by omega)
                  have hot : other y (x, y) = x := by simp [other]
                  obtain ⟨e1, e2⟩ := HT.out.at hx
                  have hok : (x : Int) < k := by omega
                  have ho0 : (0 : Int) ≤ x := by omega
                  have hge : decide ((x : Int) ≥ 0) = true := decide_eq_true (by omega)
                  by_cases hn : nx x < 0
                  · have hb : bfsE y (nx, todo) (x, y) = (updI nx x y, todo ++ [x]) := by unfold bfsE; rw [hot, if_pos ⟨by omega, by simpa using hn⟩]; simp
                    rw [hb] at HN HM'
                    have hdn : decide (nx x < 0) = true := decide_eq_true hn
                    clear hb hot
                    have hT1 := HT.out.set hx (y : Int)
                    have hQ1 := HQ.out.step (w' := wr.setCell ⟨nb, x, none⟩ (.int .i64 (y : Int))) (S := [nb]) ((Fr.refl _ _).setCell _ _ (.inl (by simp))) (fun b hb => by have := (HQ.out.new b hb).2; simpa using this)
                    have hlen : todo.length + 1 ≤ 4294967296 := by have h1 := HM'.out; have h2 := Hgk.out; simp only [List.length_append, List.length_singleton] at h1; omega
                    obtain ⟨W1, hW1⟩ : ∃ W1, wr.setCell ⟨nb, x, none⟩ (.int .i64 (y : Int)) = W1 := ⟨_, rfl⟩
                    rw [hW1] at hT1 hQ1
                    have HT1 := Lib.hid hT1; have HQ1 := Lib.hid hQ1; clear hT1 hQ1
                    go_wp2_with (at_builtin; refine wpList_que rfl _ _ 41 rfl 3 (.int .i64 0) 8 Try.underlying41 Try.info3 rfl u7 (encR todo) rfl (HQ1.out.que.same (fun q hq => Below.heap_alloc _ _ _ (by obtain ⟨b', hb1, hb2⟩ := HQ1.out.que.lt; rw [hq] at hb1; simp at hb1; omega))) W1.heap.size (.int .i64 x) rfl (cell_new1 _ _ _ _ rfl) rfl (by simp only [encR, List.length_map]; exact hlen) (by decide) ?_; intro v' w3 hq3 hg3 hv3; have hF3 : Fr u7.ownBlock.toList W1 w3 := ((Fr.refl _ _).alloc _).grown hg3 (fun q e => .inl (by simp [e])); have HT3 := Lib.hid (HT1.out.step hF3 (fun hm => by have := (HQ1.out.new nb (by simpa using hm)).2; exact this rfl) (fun q hq => (HQ1.out.new q (by simpa using hq)).1)); have HQ3 := Lib.hid (HQ1.out.app hq3 ((Fr.refl [] W1).alloc _) HT1.out.fr.size (HT1.out.row.lt nb rfl).2 hv3); clear hq3 hg3 hv3 hF3)
                    go_roundg (L.length - (i + 1))
                    case measure => omega
                    case rel => exact ⟨i + 1, (updI nx x y, todo ++ [x]), by omega, by go_num, rfl, HT3, HQ3, Lib.hid HN.out.1, HM'⟩
                  · have hb : bfsE y (nx, todo) (x, y) = (nx, todo) := by unfold bfsE; rw [hot, if_neg (fun h => hn (by simpa using h.2))]
                    rw [hb] at HN HM'
                    have hdn : decide (nx x < 0) = false := decide_eq_false hn
                    clear hb hot
                    go_wp2
                    go_roundg (L.length - (i + 1))
                    case measure => omega
                    case rel => exact ⟨i + 1, (nx, todo), by omega, by go_num, rfl, HT, HQ, Lib.hid HN.out.1, HM'⟩
                · by_cases hxv : x = v
                  · subst hxv
                    have t1 : ((y : Int) == (x : Int)) = false := beq_eq_false_iff_ne.2 (by omega)
                    have hot : other x (x, y) = y := by simp [other, hyv]
                    obtain ⟨e1, e2⟩ := HT.out.at hy
                    have hok : (y : Int) < k := by omega
                    have ho0 : (0 : Int) ≤ y := by omega
                    have hge : decide ((y : Int) ≥ 0) = true := decide_eq_true (by omega)
                    by_cases hn : nx y < 0
                    · have hb : bfsE x (nx, todo) (x, y) = (updI nx y x, todo ++ [y]) := by unfold bfsE; rw [hot, if_pos ⟨by omega, by simpa using hn⟩]; simp
                      rw [hb] at HN HM'
                      have hdn : decide (nx y < 0) = true := decide_eq_true hn
                      clear hb hot
                      have hT1 := HT.out.set hy (x : Int)
                      have hQ1 := HQ.out.step (w' := wr.setCell ⟨nb, y, none⟩ (.int .i64 (x : Int))) (S := [nb]) ((Fr.refl _ _).setCell _ _ (.inl (by simp))) (fun b hb => by have := (HQ.out.new b hb).2; simpa using this)
                      have hlen : todo.length + 1 ≤ 4294967296 := by have h1 := HM'.out; have h2 := Hgk.out; simp only [List.length_append, List.length_singleton] at h1; omega
                      obtain ⟨W1, hW1⟩ : ∃ W1, wr.setCell ⟨nb, y, none⟩ (.int .i64 (x : Int)) = W1 := ⟨_, rfl⟩
                      rw [hW1] at hT1 hQ1
                      have HT1 := Lib.hid hT1; have HQ1 := Lib.hid hQ1; clear hT1 hQ1
                      go_wp2_with (at_builtin; refine wpList_que rfl _ _ 41 rfl 3 (.int .i64 0) 8 Try.underlying41 Try.info3 rfl u7 (encR todo) rfl (HQ1.out.que.same (fun q hq => Below.heap_alloc _ _ _ (by obtain ⟨b', hb1, hb2⟩ := HQ1.out.que.lt; rw [hq] at hb1; simp at hb1; omega))) W1.heap.size (.int .i64 y) rfl (cell_new1 _ _ _ _ rfl) rfl (by simp only [encR, List.length_map]; exact hlen) (by decide) ?_; intro v' w3 hq3 hg3 hv3; have hF3 : Fr u7.ownBlock.toList W1 w3 := ((Fr.refl _ _).alloc _).grown hg3 (fun q e => .inl (by simp [e])); have HT3 := Lib.hid (HT1.out.step hF3 (fun hm => by have := (HQ1.out.new nb (by simpa using hm)).2; exact this rfl) (fun q hq => (HQ1.out.new q (by simpa using hq)).1)); have HQ3 := Lib.hid (HQ1.out.app hq3 ((Fr.refl [] W1).alloc _) HT1.out.fr.size (HT1.out.row.lt nb rfl).2 hv3); clear hq3 hg3 hv3 hF3)
                      go_roundg (L.length - (i + 1))
                      case measure => omega
                      case rel => exact ⟨i + 1, (updI nx y x, todo ++ [y]), by omega, by go_num, rfl, HT3, HQ3, Lib.hid HN.out.1, HM'⟩
                    · have hb : bfsE x (nx, todo) (x, y) = (nx, todo) := by unfold bfsE; rw [hot, if_neg (fun h => hn (by simpa using h.2))]
                      rw [hb] at HN HM'
                      have hdn : decide (nx y < 0) = false := decide_eq_false hn
                      clear hb hot
                      go_wp2
                      go_roundg (L.length - (i + 1))
                      case measure => omega
                      case rel => exact ⟨i + 1, (nx, todo), by omega, by go_num, rfl, HT, HQ, Lib.hid HN.out.1, HM'⟩
                  · have t1 : ((x : Int) == (v : Int)) = false := beq_eq_false_iff_ne.2 (by omega)
                    have t2 : ((y : Int) == (v : Int)) = false := beq_eq_false_iff_ne.2 (by omega)
                    have hb : bfsE v (nx, todo) (x, y) = (nx, todo) := by unfold bfsE; rw [if_neg]; simp [other, hxv, hyv]
                    rw [hb] at HN HM'
                    clear hb
                    go_wp2
                    go_roundg (L.length - (i + 1))
                    case measure => omega
                    case rel => exact ⟨i + 1, (nx, todo), by omega, by go_num, rfl, HT, HQ, Lib.hid HN.out.1, HM'⟩
              · obtain rfl : i = L.length := by omega
                have hi1 : ¬ ((L.length : Int) < L.length) := by omega
                go_wp2
                go_roundg (2 * unv k nx + todo.length + 1)
                case measure => exact HM.out
                case rel => exact ⟨nx, todo, HT, HQ, Lib.hid HMid.out.stop, Lib.hid ⟨by omega, Nat.le_trans (Nat.le_of_lt (show 2 * unv k nx + todo.length + 1 < _ from HM.out)) Hgk.out⟩⟩
end Go.Proofs.Ytoppjjgecgbbkaa

/- lct: Cut. -/
namespace Go.Proofs.Ytoppjjgecgbbkaa
open Go.RowKit Classical
set_option maxRecDepth 10000
set_option maxHeartbeats 800000

noncomputable def cutCode (n : Nat) (E : Nat → Nat → Prop) (a b : Int) : Int :=
  if inV n a = true ∧ inV n b = true then (if E a.toNat b.toNat then 0 else 5) else 3
noncomputable def cutE (n : Nat) (E : Nat → Nat → Prop) (a b : Int) : Nat → Nat → Prop := if cutCode n E a b = 0 then delE E a.toNat b.toNat else E

theorem dist_one {n : Nat} {E : Nat → Nat → Prop} (h : Frs E) {v u : Nat} (hv : v < n) (hu : u < n) : distI n E v u = 1 ↔ E v u := by
  constructor
  · intro e
    by_cases hc : ConnI n E v u
    · obtain ⟨_, _, p, hp⟩ := hc
      simp only [Int.toNat_natCast] at hp
      rw [dist_nat h hv hu hp] at e
      obtain ⟨l, rfl, hw, _, hl⟩ := hp
      have hlen : l.length = 1 := by simp at e; omega
      match l, hlen with
      | [x], _ =>
        simp at hl; subst hl
        exact hw.1
    · unfold distI at e; rw [if_neg hc] at e; cases e
  · intro e
    rw [dist_nat h hv hu (h.edge e)]; rfl

theorem cut_w {w : World} {pf g n : Nat} {E : Nat → Nat → Prop} {key : Nat → Int} (h : LM w pf g n E key) (a b : Int) :
    Calls Try.prog 30 #[.pointer (some ⟨pf, 0, none⟩), .int .i64 a, .int .i64 b] w fun e w' => e = .returned (.int .i64 (cutCode n E a b)) ∧ LM w' pf g n (cutE n E a b) key ∧ Fr [pf, g] w w' := by
  have H := Lib.hid h
  have hfrs := Lib.hid (LG.frs h)
  obtain ⟨hp1, hg1, hn1⟩ := LG.lts h
  obtain ⟨cap, σ, F, par, d, rt, hL, hF, hE, hk⟩ := h
  clear hF hE hk
  have hLa : LctAt (w.alloc (.cells #[.int .i64 a, .int .i64 b] 3)) pf g (n + 1) cap σ ((n : Int) - nc n E) := hL.below ((Below.refl _ w).alloc (Nat.le_refl _) _) hp1 hg1
  have hblk := Blk.new w [.int .i64 a, .int .i64 b] 3
  have hFa : Fr [] w (w.alloc (.cells #[.int .i64 a, .int .i64 b] 3)) := (Fr.refl _ _).alloc _
  have HMa := Lib.hid (LG.fr H.out hFa (by simp) (by simp))
  have hCk := check_w hLa w.heap.size 2 (fun k => if k = 0 then a else b) (by decide) (fun k hk => by
    rw [hblk.cell]
    rcases (show k = 0 ∨ k = 1 by omega) with rfl | rfl <;> rfl)
  have HCk := Lib.hid hCk; clear hCk hblk
  clear hLa hL
  go_enter Try.func30, Try.ntmps30
  go_wp2_with fail
  refine HCk.out.mono ?_
  rintro _ w1 ⟨hcode, rfl⟩
  clear HCk
  generalize w.alloc (.cells #[.int .i64 a, .int .i64 b] 3) = w1 at *
  rcases hcode with ⟨rfl, hall⟩ | ⟨rfl, k, hk, hbad⟩
  · have va : inV n a = true := hall 0 (by decide)
    have vb : inV n b = true := hall 1 (by decide)
    clear hall
    obtain ⟨v, rfl, hv⟩ := inV_nat va
    obtain ⟨u, rfl, hu⟩ := inV_nat vb
    have hd1 := dist_one (n := n) hfrs.out hv hu
    go_wp2_with fail
    refine (dist_d HMa.out (v : Int) (u : Int)).mono ?_
    rintro _ w2 ⟨rfl, hM2, hF2⟩
    by_cases he : E v u
    · have hlc : cutCode n E v u = 0 := by unfold cutCode; rw [if_pos ⟨va, vb⟩, Int.toNat_natCast, Int.toNat_natCast, if_pos he]
      have hle : cutE n E v u = delE E v u := by unfold cutE; rw [hlc, if_pos rfl, Int.toNat_natCast, Int.toNat_natCast]
      have Hlc := Lib.hid (And.intro hlc hle); clear hlc hle
      have Hd := Lib.hid (hd1.2 he)
      rw [Hd.out]
      have He := Lib.hid he
      clear va vb hd1
      obtain ⟨cap2, σ2, F2, par2, d2, rt2, hL2, hLF2, hE2, hk2⟩ := hM2
      have hrt : rt2 (v + 1) = rt2 (u + 1) := (conn_rt hLF2.rtd hE2).1 (conn_of_edge hfrs.out he)
      have HF2 := Lib.hid hLF2; clear hLF2
      have HE2 := Lib.hid hE2; clear hE2
      have HK2 := Lib.hid hk2; clear hk2
      clear he
      have hN := hL2.le
      go_wp2_with fail
      refine (path_v hL2 HF2.out v u hv hu).mono ?_
      rintro _ w3 ⟨rfl, τ, l, R, par', d', rt', hL3, hP, hF3⟩
      obtain ⟨p, hp1', hp2', _⟩ := hP.at HE2.out hrt
      have hpe : p = [v, u] := hfrs.out.unique hp1' (hfrs.out.edge He.out)
      have hls : l.seq = [v + 1] := by
        rw [hpe] at hp2'
        simp only [List.map_cons, List.map_nil] at hp2'
        have e : [v + 1] ++ [u + 1] = l.seq ++ [u + 1] := hp2'
        exact (List.append_cancel_right e).symm
      have HCt := Lib.hid (hP.lf.cut hls)
      have HPk := Lib.hid (And.intro hP.key hP.adj)
      clear hP hp1' hp2' hpe hls hrt
      have d3 := hL3.hd.cell 1
      simp only [List.getElem?_cons_zero, List.getElem?_cons_succ] at d3
      have hfz3 := hL3.nodes.frozen
      have a2 := hL3.nodes.c2 (v + 1) (by omega)
      obtain ⟨hL4, hF4⟩ : LctAt (w3.setCell ⟨g, (v + 1) * 9 + 2, none⟩ (.int .i64 0)) pf g (n + 1) cap2 (τ.upd (v + 1) { τ (v + 1) with up := 0 }) ((n : Int) - nc n E) ∧ Fr [g] w3 (w3.setCell ⟨g, (v + 1) * 9 + 2, none⟩ (.int .i64 0)) := hL3.st2 (Fr.refl [g] w3) (i := v + 1) (by omega) 0
      have hv2 : ((v + 1 : Nat) : Int) < ((n + 1 : Nat) : Int) := by omega
      have hu2 : ((u + 1 : Nat) : Int) < ((n + 1 : Nat) : Int) := by omega
      have d4 := hL4.hd.cell 1
      simp only [List.getElem?_cons_zero, List.getElem?_cons_succ] at d4
      have hfz4 := hL4.nodes.frozen
      have b0 := hL4.nodes.c0 (u + 1) (by omega)
      obtain ⟨hL5, hF5⟩ := hL4.st0 hF4 (i := u + 1) (by omega) 0
      have HL5 : Hid (LctAt ((w3.setCell ⟨g, (v + 1) * 9 + 2, none⟩ (.int .i64 0)).setCell ⟨g, (u + 1) * 9, none⟩ (.int .i64 0)) pf g (n + 1) cap2 (cut2 τ (v + 1) (u + 1)) ((n : Int) - nc n E) ∧ Fr [g] w3 ((w3.setCell ⟨g, (v + 1) * 9 + 2, none⟩ (.int .i64 0)).setCell ⟨g, (u + 1) * 9, none⟩ (.int .i64 0))) := Lib.hid (And.intro hL5 hF5)
      clear hL5 hF5 hL4 hF4
      go_wp2_with fail
      refine (refresh_v HL5.out.1 u hu HCt.out.2.2.2.2 HCt.out.2.2.1 HCt.out.2.2.2.1).mono ?_
      rintro _ w6 ⟨rfl, hL6, hF6⟩
      have hF36 : Fr [g] w3 w6 := HL5.out.2.then hF6
      clear HL5 d3 hfz3 a2 d4 hfz4 b0
      have c6 := hL6.hd.cell 2
      simp only [List.getElem?_cons_zero, List.getElem?_cons_succ] at c6
      have hfz6 := hL6.hd.frozen 2
      obtain ⟨par3, d3', rt3, F3, q1, q2⟩ := HCt.out.1
      have hDE : ∀ x y, delE E v u x y ↔ Adj par3 (x + 1) (y + 1) := by
        intro x y
        rw [q2, HPk.out.2]
        unfold delE
        rw [HE2.out x y]
        simp only [Nat.add_right_cancel_iff]
      have hcnt := nc_del (n := n) hfrs.out ⟨par3, d3', rt3, q1.rtd, hDE⟩ He.out hv hu
      have hnc1 := nc_le n (delE E v u)
      obtain ⟨hL8, hF8⟩ := hL6.edges (hF2.then (hF3.then hF36)) ((n : Int) - nc n (delE E v u))
      have Hfin := Lib.hid (show LM _ pf g n (delE E v u) key from ⟨cap2, _, F3, par3, d3', rt3, hL8, q1, hDE, fun x hx => by rw [HCt.out.2.1, HPk.out.1]; exact HK2.out x hx⟩)
      have he2 : (n : Int) - nc n E - 1 = (n : Int) - nc n (delE E v u) := by omega
      have He2 := Lib.hid he2
      clear hL8 q1 q2 hDE hcnt he2 HCt
      have hncE := nc_le n E
      generalize nc n E = z1 at *
      generalize nc n (delE E v u) = z2 at *
      go_wp2
      go_ret
      rw [Hlc.out.1, Hlc.out.2, He2.out]
      exact ⟨rfl, Hfin.out, (hFa.mono (S' := [pf, g]) (by simp)).trans hF8 (fun q hq => .inl hq)⟩
    · have hlc : cutCode n E v u = 5 := by unfold cutCode; rw [if_pos ⟨va, vb⟩, Int.toNat_natCast, Int.toNat_natCast, if_neg he]
      have hle : cutE n E v u = E := by unfold cutE; rw [hlc]; simp
      have Hlc := Lib.hid (And.intro hlc hle); clear hlc hle
      have hne : (distI n E v u != 1) = true := bne_iff_ne.2 (fun e => he (hd1.1 e))
      have HM2 := Lib.hid hM2
      clear va vb hd1 he hM2
      go_wp2
      go_ret
      rw [Hlc.out.1, Hlc.out.2]
      exact ⟨rfl, HM2.out, (hFa.mono (S' := [pf, g]) (by simp)).trans hF2 (fun q hq => .inl (by simp at hq; simp [hq]))⟩
  · have hlc : cutCode n E a b = 3 := by
      unfold cutCode; rw [if_neg]
      rintro ⟨h1, h2⟩
      rcases (show k = 0 ∨ k = 1 by omega) with rfl | rfl
      · have hbad : inV n a = false := hbad; rw [h1] at hbad; cases hbad
      · have hbad : inV n b = false := hbad; rw [h2] at hbad; cases hbad
    have hle : cutE n E a b = E := by unfold cutE; rw [hlc]; simp
    have Hlc := Lib.hid (And.intro hlc hle); clear hlc hle hbad
    go_wp2
    go_ret
    rw [Hlc.out.1, Hlc.out.2]
    exact ⟨rfl, HMa.out, hFa.mono (by simp)⟩

end Go.Proofs.Ytoppjjgecgbbkaa

/- lct: Copy. -/
namespace Go.Proofs.Ytoppjjgecgbbkaa
open Go.RowKit Classical
set_option maxRecDepth 10000
set_option maxHeartbeats 800000

def Try.laysClone_ren : Go.Shelf.Ren := ⟨fun | 41 => 49 | n => n, fun | 22 => 63 | 23 => 71 | 4 => 4 | n => n, fun | n => n⟩
theorem Try.laysClone : Go.Proofs.SlLaysE0.n41 Try.prog Try.laysClone_ren := {
  mixed := by kernel_rfl
  f41 := ⟨Try.f49.name, by decide, Try.func49.trans (congrArg some (by kernel_rfl))⟩
  t4 := Try.underlying4
  a4 := Try.isAgg4
  z4 := Try.sizeOf4
  v4 := Try.zeroValue4
  t22 := Try.underlying63
  a22 := Try.isAgg63
  z22 := Try.sizeOf63
  v22 := Try.zeroValue63 }

theorem fv_one (n : Nd) (f : Nat) : (fv n f).oneCell' = true := by
  match f with
  | 0 | 1 | 2 | 3 | 4 | 5 | 6 | 7 => rfl
  | _ + 8 => rfl

theorem clone_w {w : World} {g N cap : Nat} {σ : Tbl} (h : NodesAt w g N σ) (hN : N ≤ 65537) (h0 : 0 < N) :
    Calls Try.prog 49 #[.slice (some ⟨g, 0, none⟩) N cap] w fun e w' => ∃ g' cap', e = .returned (.slice (some ⟨g', 0, none⟩) N cap') ∧ N ≤ cap' ∧ NodesAt w' g' N σ ∧ w.heap.size ≤ g' ∧ Fr [] w w' := by
  obtain ⟨i0, hi, hz0, hz1, hz2⟩ := info_parts Try.info71
  obtain ⟨arr, ha, hs, hc⟩ := h
  have hl : (arr.toList.take (N * 9)).length = N * 9 := by simp; omega
  have hat : ∀ j u, (arr.toList.take (N * 9))[j]? = some u → j < N * 9 ∧ arr[j]? = some u := by
    intro j u hj
    rw [List.getElem?_take] at hj
    split at hj
    · exact ⟨by assumption, by simpa using hj⟩
    · cases hj
  refine (AnyE.slices_Clone Try.laysClone i0 ndv 9 72 hi hz0 hz1 hz2 (by rw [ndv_cells]; rfl) (by decide) Try.sizeOf71 g 0 N cap (arr.toList.take (N * 9)) w hl (by unfold maxLen; omega) (by omega) (fun j u hj => by
      have := (hat j u hj).2
      simp [World.cell?, ha, this]) (fun u hu => by
      obtain ⟨j, hj⟩ := List.mem_iff_getElem?.1 hu
      obtain ⟨h1, h2⟩ := hat j u hj
      have := hc (j / 9) (by omega) (j % 9) (Nat.mod_lt _ (by decide))
      rw [show j / 9 * 9 + j % 9 = j by omega, h2] at this
      cases this; exact fv_one _ _)).mono ?_
  rintro _ w' ⟨v, rfl, ⟨_, hv⟩, hn, hB⟩
  rcases hv with ⟨rfl, _⟩ | ⟨g', cap', cur, rfl, hg, hcur, hcap, _, hsz, htk⟩
  · exact absurd rfl hn
  · refine ⟨g', cap', rfl, hcap, ⟨cur, hcur, by omega, fun i hi f hf => ?_⟩, hg, Fr.of_below hB⟩
    rw [← hc i hi f hf]
    have h1 : (cur.toList.take (N * 9))[i * 9 + f]? = cur[i * 9 + f]? := by rw [List.getElem?_take, if_pos (by omega)]; simp
    have h2 : (arr.toList.take (N * 9))[i * 9 + f]? = arr[i * 9 + f]? := by rw [List.getElem?_take, if_pos (by omega)]; simp
    rw [← h1, ← h2, htk]

theorem copy_w {w : World} {pf g n : Nat} {E : Nat → Nat → Prop} {key : Nat → Int} (h : LM w pf g n E key) :
    Calls Try.prog 29 #[.pointer (some ⟨pf, 0, none⟩)] w fun e w' => ∃ pf' g', e = .returned (.pointer (some ⟨pf', 0, none⟩)) ∧ LM w' pf' g' n E key ∧ Fr [] w w' ∧ w.heap.size ≤ pf' ∧ w.heap.size ≤ g' := by
  have H := Lib.hid h
  obtain ⟨cap, σ, F, par, d, rt, hL, hF, hE, hk⟩ := h
  have hN := hL.le
  have HR := Lib.hid (And.intro hF (And.intro hE hk)); clear hF hE hk
  have c1 := hL.hd.cell 1
  have c2 := hL.hd.cell 2
  simp only [List.getElem?_cons_zero, List.getElem?_cons_succ] at c1 c2
  have hpf := hL.hd.lt
  have HL := Lib.hid hL
  go_enter Try.func29, Try.ntmps29
  go_wp2_with fail
  refine (valid_w (hL.hd.cell 0)).mono ?_
  rintro _ w1 ⟨rfl, rfl⟩
  have HC := Lib.hid (clone_w (cap := cap) (hL.nodes.eqv (Eqv.drew w1)) hN (by omega))
  generalize hed : (n : Int) - nc n E = ed at *
  go_wp2
  go_region_held3 (fun w' => w'.cell? ⟨pf, 1, none⟩ = some (.slice (some ⟨g, 0, none⟩) (n + 1) cap) ∧ w'.cell? ⟨pf, 2, none⟩ = some (.int .i64 ed))
    (first
      | go_keep
      | (exact ⟨hF3.cell (by assumption) (by simp), hF3.cell (by assumption) (by simp)⟩))
    (first
      | (go_at_call 49; refine HC.out.mono ?_; rintro e w3 ⟨g', cap', rfl, hcap', hNd', hg', hF3⟩))
  go_wp2
  go_ret
  have hlt := hNd'.lt
  have hsz := hF3.size
  have hsz2 : w1.drew.heap.size = w1.heap.size := rfl
  refine ⟨w3.heap.size, g', rfl, ?_, ((Fr.refl [] w1).drew.trans' hF3).alloc _, by omega, by omega⟩
  show LG _ _ _ _ _ _ ((n : Int) - nc n E)
  rw [hed]
  exact ⟨cap', σ, F, par, d, rt, ⟨Blk.new w3 [_, _, _] 65, hNd'.same (by rw [heap_alloc_old w3 _ hlt]), by omega, hN, hcap'⟩, HR.out.1, HR.out.2.1, HR.out.2.2⟩

end Go.Proofs.Ytoppjjgecgbbkaa

namespace Go.Proofs.Ytoppjjgecgbbkaa
open Go.RowKit

section
variable {P : Program} {ops : Array Oper} {C : World → Prop}
theorem region_class {id : Nat} {Q : Exit → Act → World → Prop} {a : Act} {w : World} {l : List Oper} (C : World → Prop) (hm : P.follows .mixedOrders = true) (hB : Region.lexB .any l.toArray = true) (hC : C w.drew)
    (h : wpQuiet P l.toArray C (fun a' => ∀ w', C w' → Q .normal a' w') l a) : (Code.region id l.toArray true).wp P Q a w :=
  wp_region_quiet hm hB hC (by simpa using h)
theorem cWalk_pure {Q : Act → Prop} {o : Oper} {rest : List Oper} {a : Act}
    (h : ∀ K : Act → Prop, (∀ a, wpQuiet P ops C Q rest a → K a) → if Region.wanted o (yielded ops a.tmps) then Oper.pure_ P o a K else K (a.put o.dst undef)) : wpQuiet P ops C Q (o :: rest) a := by
  have h := h _ (fun _ h => h)
  unfold wpQuiet
  by_cases hw : Region.wanted o (yielded ops a.tmps) = true
  · rw [if_pos hw] at *
    obtain ⟨v, h1, h2⟩ := h
    refine ⟨v, fun w _ => ?_, h2⟩
    have := h1 w
    unfold Oper.quietAt
    revert this
    generalize (execOp a.eval o).run P w = r
    intro this
    cases r with
    | halt x w' => exact this.elim
    | ok x w' =>
      cases x with
      | value u => exact ⟨this.1, this.2⟩
      | skip => exact ⟨this.1, this.2⟩
      | _ => exact this.elim
  · rw [if_neg hw] at *; exact h
theorem cWalk_val {Q : Act → Prop} {o : Oper} {rest : List Oper} {a : Act} (hg : o.guard = none) (v : Value)
    (h0 : ∀ w, C w → Oper.quietUpon P C w v ((execOp a.eval o).run P w)) (h : wpQuiet P ops C Q rest (a.put o.dst v)) : wpQuiet P ops C Q (o :: rest) a := by
  unfold wpQuiet
  rw [if_pos (by simp [Region.wanted, hg])]
  exact ⟨v, h0, h⟩
theorem cWalk_nil {Q : Act → Prop} {a : Act} (h : Q a) : wpQuiet P ops C Q [] a := h
end
end Go.Proofs.Ytoppjjgecgbbkaa
