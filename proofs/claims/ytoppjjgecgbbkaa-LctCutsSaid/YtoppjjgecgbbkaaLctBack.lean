/- lct: slices.Backward over a row of places. -/
import Derived.RangeFuncNested
import Derived.RangeFuncBound
import Derived.RangeFuncCalls
import Derived.RangeFuncLeaves
import Derived.Shelf.Abstract
import Derived.Shelf.RegionOpen
import Derived.OwnWalkIn
import Derived.TacticsInMore
import Derived.LoopNIn
import Derived.LoopIn
import Derived.Test.YtoppjjgecgbbkaaLctSpin
import Derived.Test.YtoppjjgecgbbkaaRound
namespace Go.Proofs.Ytoppjjgecgbbkaa
open Go.RowKit Go.Shelf
set_option maxRecDepth 4000
set_option maxHeartbeats 400000
attribute [local go_sem] Oper.semAt_some

/-- Of the blocks below n₀ only g may have changed. -/
structure Bx (n₀ g : Nat) (w w' : World) : Prop where
  os : w'.os = w.os
  tape : w'.tape = w.tape
  output : w'.output = w.output
  size : w.heap.size ≤ w'.heap.size
  keep : ∀ k, k < n₀ → k ≠ g → w'.heap[k]? = w.heap[k]?

section
variable {n₀ g : Nat} {w w' w'' : World}
theorem Bx.refl (n₀ g : Nat) (w : World) : Bx n₀ g w w := ⟨rfl, rfl, rfl, Nat.le_refl _, fun _ _ _ => rfl⟩
theorem Bx.trans (h : Bx n₀ g w w') (k : Bx n₀ g w' w'') : Bx n₀ g w w'' :=
  ⟨k.os.trans h.os, k.tape.trans h.tape, k.output.trans h.output, Nat.le_trans h.size k.size, fun i hi hn => (k.keep i hi hn).trans (h.keep i hi hn)⟩
theorem Bx.of_fr (h : Fr [g] w w') (hn : n₀ ≤ w.heap.size) : Bx n₀ g w w' := ⟨h.os, h.tape, h.output, h.size, fun k hk hne => h.keep k (by omega) (by simpa using hne)⟩
theorem Bx.of_below (h : Below n₀ w w') : Bx n₀ g w w' := ⟨h.os, h.tape, h.output, h.size, fun k hk _ => h.block k hk⟩
theorem Bx.fr (h : Bx w.heap.size g w w') : Fr [g] w w' := ⟨h.os, h.tape, h.output, h.size, fun k hk hn => h.keep k hk (by simpa using hn)⟩
theorem Bx.mono {n : Nat} (h : Bx n₀ g w w') (hn : n ≤ n₀) : Bx n g w w' := ⟨h.os, h.tape, h.output, h.size, fun k hk => h.keep k (by omega)⟩
theorem Bx.cell {p : Addr} (h : Bx n₀ g w w') (hp : p.block < n₀) (hg : p.block ≠ g) : w'.cell? p = w.cell? p := World.cell?_of_block (h.keep _ hp hg)
theorem Bx.grown {row : Option Nat} (h : Bx n₀ g w w') (hg : w'.grownBy w'' row) (hn : n₀ ≤ w'.heap.size) (hr : ∀ k, row = some k → n₀ ≤ k) : Bx n₀ g w w'' :=
  h.trans ⟨hg.os, hg.tape, hg.output, hg.size, fun k hk _ => hg.block k (by omega) (fun e => by have := hr k e.symm; omega)⟩
theorem Bx.alloc (h : Bx n₀ g w w') (hn : n₀ ≤ w'.heap.size) (o : Obj) : Bx n₀ g w (w'.alloc o) := h.grown (World.grownBy_alloc _ _ none) hn (fun _ e => by cases e)
end
theorem bxK_b {n₀ g : Nat} {w : World} (hn : n₀ ≤ w.heap.size) (W : World) (l : Nat) (o o' : Obj) (hl : w.heap.size ≤ l) (h : W.heap[l]? = some o) (_ : o.isCells = false) (_ : o.isWalk = false) : Bx n₀ g W (W.putObj l o') :=
  (Bx.refl n₀ g W).grown (grownBy_putObj' W l o') (by have := (Array.getElem?_eq_some_iff.1 h).1; omega) (fun k e => by cases e; omega)
theorem ownFrom_bx {β : Type} {n₀ g B : Nat} {w₀ : World} (hn : n₀ ≤ w₀.heap.size) (hB : n₀ ≤ B) : OwnFrom B (fun (_ : β) W => Bx n₀ g w₀ W) :=
  fun _ _ _ _ hs hg hr => hs.grown hg (Nat.le_trans hn hs.size) (fun k e => Nat.le_trans hB (hr k e).1)
theorem keepsOthers_fr {g : Nat} {w w' : World} {arr : Array Value} {t : TypeId} {z : Nat × Nat} (h : Fr [g] w w') (hg : w.heap[g]? = some (.cells arr t z)) : KeepsOthers w w' :=
  ⟨h.size, fun k o hk ho => by
    have hkg : k ≠ g := by
      rintro rfl; rw [hg] at hk; cases hk; cases ho
    exact (h.keep k (Array.getElem?_eq_some_iff.1 hk).1 (by simpa using hkg)).trans hk⟩

/-- An index with its place, as the range-function yields them. -/
abbrev Pl (N : Nat) := { x : Nat × Nat // x.2 < N }
def bk (N m : Nat) (P : Nat → Nat) (hP : ∀ i, P i < N) (k : Nat) : Pl N := ⟨(m - 1 - k, P (m - 1 - k)), hP _⟩
def bks (N m : Nat) (P : Nat → Nat) (hP : ∀ i, P i < N) (k : Nat) : List (Pl N) := (List.range k).map (bk N m P hP)
theorem bks_succ (N m : Nat) (P : Nat → Nat) (hP : ∀ i, P i < N) (k : Nat) : bks N m P hP (k + 1) = bks N m P hP k ++ [bk N m P hP k] := by simp [bks, List.range_succ]

theorem back_in (v : Value) (hv : v.oneCell' = true) (w : World) :
    CallsIn Fence.wide 9 Try.prog 63 #[v] w fun e w' => e = .returned (.func (.func 65) #[] #[.pointer (some ⟨w.heap.size, 0, none⟩)]) ∧ w' = w.alloc (.cells #[v] 41) := by
  refine callsIn_of_wp Try.func63 rfl trivial ?_ rfl
  simp only [Try.ntmps63, List.size_toArray, List.length_cons, List.length_nil, Nat.reduceAdd, Nat.reduceSub, Array.replicate_succ, Array.replicate_zero, List.push_toArray, List.append_toArray, List.nil_append, List.cons_append]
  gi_wp2
  go_ret
  exact ⟨rfl, rfl⟩

theorem back1_in (nf l Bb gp m cap N g B : Nat) (P : Nat → Nat) (hP : ∀ i, P i < N) (_hN : N ≤ 65537) (hm : m ≤ 65537) (hnf : 2 ≤ nf) (hBb : Bb < B) (hgp : gp < B) (hbg : Bb ≠ g) (hpg : gp ≠ g)
    (J Jx : List (Pl N) → World → Prop)
    (hY : ∀ pre x W, J pre W → pre.length < m → YieldAt Fence.wide (nf - 1) Try.prog l #[.int .i64 x.1.1, .int .i64 x.1.2] W fun e W' =>
      (e = .returned (.bool true) ∧ J (pre ++ [x]) W' ∧ Bx B g W W') ∨ (e = .returned (.bool false) ∧ Jx (pre ++ [x]) W'))
    (W : World) (hc : W.cell? ⟨Bb, 0, none⟩ = some (.slice (some ⟨gp, 0, none⟩) m cap)) (_hmc : m ≤ cap) (hp : ∀ i, i < m → W.cell? ⟨gp, i, none⟩ = some (.int .i64 (P i))) (h0 : J [] W) :
    CallsIn Fence.wide nf Try.prog 65 #[.func (.yield l) #[] #[], .pointer (some ⟨Bb, 0, none⟩)] W fun e W' => (∃ v, e = .returned v) ∧
      ((∃ ys, ys = bks N m P hP m ∧ J ys W') ∨ (∃ pre, True ∧ Jx pre W')) := by
  have HP := Lib.hid hp; clear hp
  refine callsIn_of_wp Try.func65 rfl trivial ?_ rfl
  simp only [Try.ntmps65, List.size_toArray, List.length_cons, List.length_nil, Nat.reduceAdd, Nat.reduceSub, Array.replicate_succ, Array.replicate_zero, List.push_toArray, List.append_toArray, List.nil_append, List.cons_append]
  gi_wp2
  gi_loopw [3] (fun x wr => ∃ i : Nat, i ≤ m ∧ x = .int .i64 ((i : Int) - 1) ∧ Bx B g W wr ∧ J (bks N m P hP (m - i)) wr) (fun x _ => (intOf x + 1).toNat)
  case atStart => exact ⟨m, Nat.le_refl _, by go_num, Bx.refl _ _ _, by rw [Nat.sub_self]; exact h0⟩
  case round =>
    obtain ⟨i, hi, rfl, hB, hJ⟩ := hrel
    cases i with
    | zero =>
      rw [show ((0 : Nat) : Int) - 1 = -1 by rfl]
      gi_wp2
      go_end0
      exact ⟨⟨_, rfl⟩, .inl ⟨_, rfl, hJ⟩⟩
    | succ j =>
      rw [show ((j + 1 : Nat) : Int) - 1 = (j : Int) by omega]
      have rc := (hB.cell (p := ⟨Bb, 0, none⟩) hBb hbg).trans hc
      have rp := (hB.cell (p := ⟨gp, j, none⟩) hgp hpg).trans (HP.out j (by omega))
      obtain ⟨fn, tmps, assign, body, hy, hRd⟩ := hY (bks N m P hP (m - (j + 1))) (bk N m P hP (m - (j + 1))) wr hJ (by simp [bks]; omega)
      have e0 : (bk N m P hP (m - (j + 1))).1.1 = j := by simp only [bk]; omega
      have e1 : (bk N m P hP (m - (j + 1))).1.2 = P j := by simp only [bk]; rw [show m - 1 - (m - (j + 1)) = j by omega]
      rw [e0, e1] at hy
      clear e0 e1
      have hjm : (j : Int) < m := by omega
      gi_wp2
      refine ⟨fun _ => by omega, ?_⟩
      refine hRd.mono ?_
      rintro e W3 (⟨rfl, hJ3, hk3⟩ | ⟨rfl, hJx3⟩)
      · clear rc rp
        gi_wp2
        go_roundw
        case rel => exact ⟨j, by omega, by go_num, hB.trans hk3, by rw [show m - j = (m - (j + 1)) + 1 by omega, bks_succ]; exact hJ3⟩
        case measure => simp [intOf]
      · gi_wp2
        refine bodyPost_ret (results_none rfl _ _ _) rfl ?_
        exact ⟨⟨_, rfl⟩, .inr ⟨_, trivial, hJx3⟩⟩

end Go.Proofs.Ytoppjjgecgbbkaa
