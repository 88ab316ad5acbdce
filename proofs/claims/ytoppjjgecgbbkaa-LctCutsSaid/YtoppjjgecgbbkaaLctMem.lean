/- The nodes of a link-cut forest in memory. -/
import Derived.Test.YtoppjjgecgbbkaaManyWrites
import Derived.Deep.QuietTactic
import Derived.BigQuiet
namespace Go.Proofs.Ytoppjjgecgbbkaa
open Go.RowKit

structure Nd where
  k0 : Nat
  k1 : Nat
  up : Nat
  flip : Bool
  key : Int
  size : Int
  first : Nat
  light : Int
  total : Int

def fv (n : Nd) : Nat → Value
  | 0 => .int .i64 n.k0
  | 1 => .int .i64 n.k1
  | 2 => .int .i64 n.up
  | 3 => .bool n.flip
  | 4 => .int .i64 n.key
  | 5 => .int .i64 n.size
  | 6 => .int .i64 n.first
  | 7 => .int .i64 n.light
  | _ => .int .i64 n.total

abbrev Tbl := Nat → Nd
def Tbl.upd (σ : Tbl) (i : Nat) (n : Nd) : Tbl := fun j => if j = i then n else σ j

def NodesAt (w : World) (g N : Nat) (σ : Tbl) : Prop :=
  ∃ arr : Array Value, w.heap[g]? = some (.cells arr 71 (0, 0)) ∧ N * 9 ≤ arr.size ∧ ∀ i, i < N → ∀ f, f < 9 → arr[i * 9 + f]? = some (fv (σ i) f)

theorem NodesAt.cell {w : World} {g N : Nat} {σ : Tbl} (h : NodesAt w g N σ) {i f : Nat} (hi : i < N) (hf : f < 9) : w.cell? ⟨g, i * 9 + f, none⟩ = some (fv (σ i) f) := by
  obtain ⟨arr, h1, _, h2⟩ := h
  simp [World.cell?, h1]; exact h2 i hi f hf
theorem NodesAt.frozen {w : World} {g N : Nat} {σ : Tbl} (h : NodesAt w g N σ) (c : Nat) : w.frozen? ⟨g, c, none⟩ = false := by
  obtain ⟨arr, h1, _⟩ := h
  simp [World.frozen?, h1]
theorem NodesAt.lt {w : World} {g N : Nat} {σ : Tbl} (h : NodesAt w g N σ) : g < w.heap.size := by
  obtain ⟨arr, h1, _⟩ := h; exact (Array.getElem?_eq_some_iff.1 h1).1
theorem NodesAt.same {w w' : World} {g N : Nat} {σ : Tbl} (h : NodesAt w g N σ) (e : w'.heap[g]? = w.heap[g]?) : NodesAt w' g N σ := by
  obtain ⟨arr, h1, r⟩ := h; exact ⟨arr, e.trans h1, r⟩
theorem NodesAt.eqv {w w' : World} {g N : Nat} {σ : Tbl} (h : NodesAt w g N σ) (e : Eqv w' w) : NodesAt w' g N σ := h.same (by rw [e.heap])
theorem NodesAt.congr {w : World} {g N : Nat} {σ τ : Tbl} (h : NodesAt w g N σ) (e : ∀ i, i < N → σ i = τ i) : NodesAt w g N τ := by
  obtain ⟨arr, h1, h2, h3⟩ := h
  exact ⟨arr, h1, h2, fun i hi f hf => by rw [← e i hi]; exact h3 i hi f hf⟩
theorem NodesAt.store {w : World} {g N : Nat} {σ : Tbl} (h : NodesAt w g N σ) {i f : Nat} (hi : i < N) (hf : f < 9) (n : Nd) (v : Value) (hv : fv n f = v) (ho : ∀ f', f' < 9 → f' ≠ f → fv n f' = fv (σ i) f') :
    NodesAt (w.setCell ⟨g, i * 9 + f, none⟩ v) g N (σ.upd i n) := by
  obtain ⟨arr, h1, h2, h3⟩ := h
  refine ⟨arr.setIfInBounds (i * 9 + f) v, ?_, by simpa using h2, fun j hj f' hf' => ?_⟩
  · simp only [World.setCell, Array.getElem?_modify]
    simp [h1]
  · rw [Array.getElem?_setIfInBounds]
    by_cases e : i * 9 + f = j * 9 + f'
    · have e1 : i = j := by omega
      have e2 : f = f' := by omega
      subst e1; subst e2
      rw [if_pos rfl, if_pos (by omega)]
      simp [Tbl.upd, hv]
    · rw [if_neg e, h3 j hj f' hf']
      simp only [Tbl.upd]
      by_cases ej : j = i
      · subst ej; rw [if_pos rfl, ho f' hf' (fun e' => e (by omega))]
      · rw [if_neg ej]

section
variable {w : World} {g N : Nat} {σ : Tbl} (h : NodesAt w g N σ)
include h
theorem NodesAt.c0 : ∀ i, i < N → w.cell? ⟨g, i * 9, none⟩ = some (.int .i64 (σ i).k0) := fun i hi => h.cell (f := 0) hi (by decide)
theorem NodesAt.c1 : ∀ i, i < N → w.cell? ⟨g, i * 9 + 1, none⟩ = some (.int .i64 (σ i).k1) := fun i hi => h.cell (f := 1) hi (by decide)
theorem NodesAt.c2 : ∀ i, i < N → w.cell? ⟨g, i * 9 + 2, none⟩ = some (.int .i64 (σ i).up) := fun i hi => h.cell (f := 2) hi (by decide)
theorem NodesAt.c3 : ∀ i, i < N → w.cell? ⟨g, i * 9 + 3, none⟩ = some (.bool (σ i).flip) := fun i hi => h.cell (f := 3) hi (by decide)
theorem NodesAt.c4 : ∀ i, i < N → w.cell? ⟨g, i * 9 + 4, none⟩ = some (.int .i64 (σ i).key) := fun i hi => h.cell (f := 4) hi (by decide)
theorem NodesAt.c5 : ∀ i, i < N → w.cell? ⟨g, i * 9 + 5, none⟩ = some (.int .i64 (σ i).size) := fun i hi => h.cell (f := 5) hi (by decide)
theorem NodesAt.c6 : ∀ i, i < N → w.cell? ⟨g, i * 9 + 6, none⟩ = some (.int .i64 (σ i).first) := fun i hi => h.cell (f := 6) hi (by decide)
theorem NodesAt.c7 : ∀ i, i < N → w.cell? ⟨g, i * 9 + 7, none⟩ = some (.int .i64 (σ i).light) := fun i hi => h.cell (f := 7) hi (by decide)
theorem NodesAt.c8 : ∀ i, i < N → w.cell? ⟨g, i * 9 + 8, none⟩ = some (.int .i64 (σ i).total) := fun i hi => h.cell (f := 8) hi (by decide)
end

/-- The forest's header and its nodes. -/
structure LctAt (w : World) (pf g N : Nat) (cap : Nat) (σ : Tbl) (edges : Int) : Prop where
  hd : Blk w pf 65 [.pointer (some ⟨pf, 0, none⟩), .slice (some ⟨g, 0, none⟩) N cap, .int .i64 edges]
  nodes : NodesAt w g N σ
  ne : pf ≠ g
  le : N ≤ 65537
  cap : N ≤ cap

def beforeB (σ : Tbl) (i j : Nat) : Bool := decide ((σ i).key < (σ j).key) || (decide ((σ i).key = (σ j).key) && decide (i < j))

set_option maxRecDepth 10000
set_option maxHeartbeats 400000

theorem before_w {w : World} {pf g N cap : Nat} {σ : Tbl} {ed : Int} (h : LctAt w pf g N cap σ ed) (i j : Nat) (hi : i < N) (hj : j < N) :
    Calls Try.prog 54 #[.pointer (some ⟨pf, 0, none⟩), .int .i64 i, .int .i64 j] w fun e w' => e = .returned (.bool (beforeB σ i j)) ∧ ∃ n, w' = w.drewN n := by
  have c1 := h.hd.cell 1
  simp only [List.getElem?_cons_zero, List.getElem?_cons_succ] at c1
  have ci := h.nodes.c4 i hi
  have cj := h.nodes.c4 j hj
  have hN := h.le
  have hi2 : (i : Int) < N := by omega
  have hj2 : (j : Int) < N := by omega
  by_cases h1 : (σ i).key < (σ j).key
  · have d1 : decide ((σ i).key < (σ j).key) = true := decide_eq_true h1
    have hr : beforeB σ i j = true := by simp [beforeB, h1]
    rw [hr]; clear hr
    go_enter Try.func54, Try.ntmps54
    go_wp2
    go_quiet (fail)
    go_wp2
    go_ret
    exact ⟨rfl, _, rfl⟩
  · have d1 : decide ((σ i).key < (σ j).key) = false := decide_eq_false h1
    by_cases h2 : (σ i).key = (σ j).key
    · have d2 : ((σ i).key == (σ j).key) = true := beq_iff_eq.2 h2
      have hr : beforeB σ i j = decide (i < j) := by simp [beforeB, h2]
      rw [hr]; clear hr
      have H2 := Lib.hid h2; clear h2
      by_cases h3 : i < j
      · have d3 : decide ((i : Int) < (j : Int)) = true := decide_eq_true (by omega)
        have d4 : decide (i < j) = true := decide_eq_true h3
        rw [d4]; clear d4
        go_enter Try.func54, Try.ntmps54
        go_wp2
        go_quiet (fail)
        go_wp2
        go_ret
        exact ⟨rfl, _, rfl⟩
      · have d3 : decide ((i : Int) < (j : Int)) = false := decide_eq_false (by omega)
        have d4 : decide (i < j) = false := decide_eq_false h3
        rw [d4]; clear d4
        go_enter Try.func54, Try.ntmps54
        go_wp2
        go_quiet (fail)
        go_wp2
        go_ret
        exact ⟨rfl, _, rfl⟩
    · have d2 : ((σ i).key == (σ j).key) = false := beq_eq_false_iff_ne.2 h2
      have hr : beforeB σ i j = false := by simp [beforeB, h1, h2]
      rw [hr]; clear hr
      have H2 := Lib.hid h2; clear h2
      go_enter Try.func54, Try.ntmps54
      go_wp2
      go_quiet (fail)
      go_wp2
      go_ret
      exact ⟨rfl, _, rfl⟩

end Go.Proofs.Ytoppjjgecgbbkaa
