/- lct: rotation of a tree in its frames. -/
import Derived.Test.YtgmnemndjjmgkaaGreatB5
import Derived.Deep.QuietTactic
import Derived.BigQuiet
set_option linter.unusedSimpArgs false
set_option linter.unusedVariables false
/- The nodes of a link-cut forest in memory. -/
namespace Go.Proofs.YtgmnemndjjmgkaaGreat
open Go.RowKit
structure Nd where
  k0 : Nat
  k1 : Nat
  up : Nat
  flip : Bool
  key : Int
  size : Int
  first : Nat
  light : Int
  total : Int
def fv (n : Nd) : Nat → Value
  | 0 => .int .i64 n.k0
  | 1 => .int .i64 n.k1
  | 2 => .int .i64 n.up
  | 3 => .bool n.flip
  | 4 => .int .i64 n.key
  | 5 => .int .i64 n.size
  | 6 => .int .i64 n.first
  | 7 => .int .i64 n.light
  | _ => .int .i64 n.total
abbrev Tbl := Nat → Nd
def Tbl.upd (σ : Tbl) (i : Nat) (n : Nd) : Tbl := fun j => if j = i then n else σ j
def NodesAt (w : World) (g N : Nat) (σ : Tbl) : Prop :=
  ∃ arr : Array Value, w.heap[g]? = some (.cells arr 191 (0, 0)) ∧ N * 9 ≤ arr.size ∧ ∀ i, i < N → ∀ f, f < 9 → arr[i * 9 + f]? = some (fv (σ i) f)
theorem NodesAt.cell {w : World} {g N : Nat} {σ : Tbl} (h : NodesAt w g N σ) {i f : Nat} (hi : i < N) (hf : f < 9) : w.cell? ⟨g, i * 9 + f, none⟩ = some (fv (σ i) f) := by
 obtain ⟨arr, h1, _, h2⟩ := h
 simp [World.cell?, h1]; exact h2 i hi f hf
theorem NodesAt.frozen {w : World} {g N : Nat} {σ : Tbl} (h : NodesAt w g N σ) (c : Nat) : w.frozen? ⟨g, c, none⟩ = false := by
 obtain ⟨arr, h1, _⟩ := h
 simp [World.frozen?, h1]
theorem NodesAt.lt {w : World} {g N : Nat} {σ : Tbl} (h : NodesAt w g N σ) : g < w.heap.size := by
 obtain ⟨arr, h1, _⟩ := h; exact (Array.getElem?_eq_some_iff.1 h1).1
theorem NodesAt.same {w w' : World} {g N : Nat} {σ : Tbl} (h : NodesAt w g N σ) (e : w'.heap[g]? = w.heap[g]?) : NodesAt w' g N σ := by
 obtain ⟨arr, h1, r⟩ := h; exact ⟨arr, e.trans h1, r⟩
theorem NodesAt.eqv {w w' : World} {g N : Nat} {σ : Tbl} (h : NodesAt w g N σ) (e : Eqv w' w) : NodesAt w' g N σ := h.same (by rw [e.heap])
theorem NodesAt.congr {w : World} {g N : Nat} {σ τ : Tbl} (h : NodesAt w g N σ) (e : ∀ i, i < N → σ i = τ i) : NodesAt w g N τ := by
 obtain ⟨arr, h1, h2, h3⟩ := h
 exact ⟨arr, h1, h2, fun i hi f hf => by rw [← e i hi]; exact h3 i hi f hf⟩
theorem NodesAt.store {w : World} {g N : Nat} {σ : Tbl} (h : NodesAt w g N σ) {i f : Nat} (hi : i < N) (hf : f < 9) (n : Nd) (v : Value) (hv : fv n f = v) (ho : ∀ f', f' < 9 → f' ≠ f → fv n f' = fv (σ i) f') :
    NodesAt (w.setCell ⟨g, i * 9 + f, none⟩ v) g N (σ.upd i n) := by
 obtain ⟨arr, h1, h2, h3⟩ := h
 refine ⟨arr.setIfInBounds (i * 9 + f) v, ?_, by simpa using h2, fun j hj f' hf' => ?_⟩
 {
 simp only [World.setCell, Array.getElem?_modify]
 simp [h1]
 }
 {
 rw [Array.getElem?_setIfInBounds]
 by_cases e : i * 9 + f = j * 9 + f'
 {
 have e1 : i = j := by omega
 have e2 : f = f' := by omega
 subst e1; subst e2
 rw [if_pos rfl, if_pos (by omega)]
 simp [Tbl.upd, hv]
 }
 {
 rw [if_neg e, h3 j hj f' hf']
 simp only [Tbl.upd]
 by_cases ej : j = i
 · subst ej; rw [if_pos rfl, ho f' hf' (fun e' => e (by omega))]
 · rw [if_neg ej]
 }
 }
section
variable {w : World} {g N : Nat} {σ : Tbl} (h : NodesAt w g N σ)
include h
theorem NodesAt.c0 : ∀ i, i < N → w.cell? ⟨g, i * 9, none⟩ = some (.int .i64 (σ i).k0) := fun i hi => h.cell (f := 0) hi (by decide)
theorem NodesAt.c1 : ∀ i, i < N → w.cell? ⟨g, i * 9 + 1, none⟩ = some (.int .i64 (σ i).k1) := fun i hi => h.cell (f := 1) hi (by decide)
theorem NodesAt.c2 : ∀ i, i < N → w.cell? ⟨g, i * 9 + 2, none⟩ = some (.int .i64 (σ i).up) := fun i hi => h.cell (f := 2) hi (by decide)
theorem NodesAt.c3 : ∀ i, i < N → w.cell? ⟨g, i * 9 + 3, none⟩ = some (.bool (σ i).flip) := fun i hi => h.cell (f := 3) hi (by decide)
theorem NodesAt.c4 : ∀ i, i < N → w.cell? ⟨g, i * 9 + 4, none⟩ = some (.int .i64 (σ i).key) := fun i hi => h.cell (f := 4) hi (by decide)
theorem NodesAt.c5 : ∀ i, i < N → w.cell? ⟨g, i * 9 + 5, none⟩ = some (.int .i64 (σ i).size) := fun i hi => h.cell (f := 5) hi (by decide)
theorem NodesAt.c6 : ∀ i, i < N → w.cell? ⟨g, i * 9 + 6, none⟩ = some (.int .i64 (σ i).first) := fun i hi => h.cell (f := 6) hi (by decide)
theorem NodesAt.c7 : ∀ i, i < N → w.cell? ⟨g, i * 9 + 7, none⟩ = some (.int .i64 (σ i).light) := fun i hi => h.cell (f := 7) hi (by decide)
theorem NodesAt.c8 : ∀ i, i < N → w.cell? ⟨g, i * 9 + 8, none⟩ = some (.int .i64 (σ i).total) := fun i hi => h.cell (f := 8) hi (by decide)
end
structure LctAt (w : World) (pf g N : Nat) (cap : Nat) (σ : Tbl) (edges : Int) : Prop where
  hd : Blk w pf 194 [.pointer (some ⟨pf, 0, none⟩), .slice (some ⟨g, 0, none⟩) N cap, .int .i64 edges]
  nodes : NodesAt w g N σ
  ne : pf ≠ g
  le : N ≤ 65537
  cap : N ≤ cap
def beforeB (σ : Tbl) (i j : Nat) : Bool := decide ((σ i).key < (σ j).key) || (decide ((σ i).key = (σ j).key) && decide (i < j))
set_option maxRecDepth 10000
set_option maxHeartbeats 400000
theorem before_w {w : World} {pf g N cap : Nat} {σ : Tbl} {ed : Int} (h : LctAt w pf g N cap σ ed) (i j : Nat) (hi : i < N) (hj : j < N) :
    Calls Tryz.prog 203 #[.pointer (some ⟨pf, 0, none⟩), .int .i64 i, .int .i64 j] w fun e w' => e = .returned (.bool (beforeB σ i j)) ∧ ∃ n, w' = w.drewN n := by
 have c1 := h.hd.cell 1
 simp only [List.getElem?_cons_zero, List.getElem?_cons_succ] at c1
 have ci := h.nodes.c4 i hi
 have cj := h.nodes.c4 j hj
 have hN := h.le
 have hi2 : (i : Int) < N := by omega
 have hj2 : (j : Int) < N := by omega
 by_cases h1 : (σ i).key < (σ j).key
 {
 have d1 : decide ((σ i).key < (σ j).key) = true := decide_eq_true h1
 have hr : beforeB σ i j = true := by simp [beforeB, h1]
 rw [hr]; clear hr
 go_enter Tryz.func203, Tryz.ntmps203
 go_wp2
 go_quiet (fail)
 go_wp2
 go_ret
 exact ⟨rfl, _, rfl⟩
 }
 {
 have d1 : decide ((σ i).key < (σ j).key) = false := decide_eq_false h1
 by_cases h2 : (σ i).key = (σ j).key
 {
 have d2 : ((σ i).key == (σ j).key) = true := beq_iff_eq.2 h2
 have hr : beforeB σ i j = decide (i < j) := by simp [beforeB, h2]
 rw [hr]; clear hr
 have H2 := Lib.hid h2; clear h2
 by_cases h3 : i < j
 {
 have d3 : decide ((i : Int) < (j : Int)) = true := decide_eq_true (by omega)
 have d4 : decide (i < j) = true := decide_eq_true h3
 rw [d4]; clear d4
 go_enter Tryz.func203, Tryz.ntmps203
 go_wp2
 go_quiet (fail)
 go_wp2
 go_ret
 exact ⟨rfl, _, rfl⟩
 }
 {
 have d3 : decide ((i : Int) < (j : Int)) = false := decide_eq_false (by omega)
 have d4 : decide (i < j) = false := decide_eq_false h3
 rw [d4]; clear d4
 go_enter Tryz.func203, Tryz.ntmps203
 go_wp2
 go_quiet (fail)
 go_wp2
 go_ret
 exact ⟨rfl, _, rfl⟩
 }
 }
 {
 have d2 : ((σ i).key == (σ j).key) = false := beq_eq_false_iff_ne.2 h2
 have hr : beforeB σ i j = false := by simp [beforeB, h1, h2]
 rw [hr]; clear hr
 have H2 := Lib.hid h2; clear h2
 go_enter Tryz.func203, Tryz.ntmps203
 go_wp2
 go_quiet (fail)
 go_wp2
 go_ret
 exact ⟨rfl, _, rfl⟩
 }
 }
end Go.Proofs.YtgmnemndjjmgkaaGreat
namespace Go.Proofs.YtgmnemndjjmgkaaGreat
open Go.RowKit
def refKid (σ : Tbl) (i k : Nat) : Tbl :=
  if k = 0 then σ else
    let σ1 := σ.upd i { σ i with size := wrap64 ((σ i).size + (σ k).size) }
    let σ2 := σ1.upd i { σ1 i with total := wrap64 ((σ1 i).total + (σ1 k).total) }
    if beforeB σ2 (σ2 k).first (σ2 i).first then σ2.upd i { σ2 i with first := (σ2 k).first } else σ2
def ref0 (σ : Tbl) (i : Nat) : Tbl := σ.upd i { σ i with size := 1, first := i, total := wrap64 (1 + (σ i).light) }
def refT (σ : Tbl) (i : Nat) : Nat → Tbl
  | 0 => ref0 σ i
  | 1 => refKid (ref0 σ i) i (σ i).k0
  | _ => refKid (refKid (ref0 σ i) i (σ i).k0) i (σ i).k1
def refresh (σ : Tbl) (i : Nat) : Tbl := refT σ i 2
theorem upd_same (σ : Tbl) (i : Nat) (n : Nd) : σ.upd i n i = n := by simp [Tbl.upd]
theorem upd_other {σ : Tbl} {i j : Nat} {n : Nd} (h : j ≠ i) : σ.upd i n j = σ j := by simp [Tbl.upd, h]
def InR (N : Nat) (σ : Tbl) : Prop := ∀ i, i < N → (σ i).k0 < N ∧ (σ i).k1 < N ∧ (σ i).up < N ∧ (σ i).first < N
theorem refKid_other {σ : Tbl} {i k j : Nat} (h : j ≠ i) : refKid σ i k j = σ j := by
 unfold refKid
 by_cases hk : k = 0
 · rw [if_pos hk]
 · rw [if_neg hk]; dsimp only; split <;> simp [upd_other h]
theorem refKid_links {σ : Tbl} {i k j : Nat} : (refKid σ i k j).k0 = (σ j).k0 ∧ (refKid σ i k j).k1 = (σ j).k1 ∧ (refKid σ i k j).up = (σ j).up ∧ (refKid σ i k j).flip = (σ j).flip ∧ (refKid σ i k j).key = (σ j).key ∧ (refKid σ i k j).light = (σ j).light := by
 by_cases h : j = i
 {
 subst h
 unfold refKid
 by_cases hk : k = 0
 · rw [if_pos hk]; simp
 · rw [if_neg hk]; dsimp only; split <;> simp [upd_same]
 }
 · rw [refKid_other h]; simp
theorem refKid_inR {N : Nat} {σ : Tbl} {i k : Nat} (h : InR N σ) (hi : i < N) (hk : k < N) (hki : k ≠ i) : InR N (refKid σ i k) := by
 intro j hj
 obtain ⟨a, b, c, _⟩ := @refKid_links σ i k j
 rw [a, b, c]
 refine ⟨(h j hj).1, (h j hj).2.1, (h j hj).2.2.1, ?_⟩
 by_cases e : j = i
 {
 subst e
 unfold refKid
 by_cases hk0 : k = 0
 · rw [if_pos hk0]; exact (h j hj).2.2.2
 {
 rw [if_neg hk0]; dsimp only; split
 · simp [upd_same, upd_other hki]; exact (h k hk).2.2.2
 · simp [upd_same]; exact (h j hj).2.2.2
 }
 }
 · rw [refKid_other e]; exact (h j hj).2.2.2
theorem ref0_inR {N : Nat} {σ : Tbl} {i : Nat} (h : InR N σ) (hi : i < N) : InR N (ref0 σ i) := by
 intro j hj
 by_cases e : j = i
 · subst e; simp only [ref0, upd_same]; exact ⟨(h j hj).1, (h j hj).2.1, (h j hj).2.2.1, hi⟩
 · simp only [ref0, upd_other e]; exact h j hj
theorem refT_inR {N : Nat} {σ : Tbl} {i : Nat} (h : InR N σ) (hi : i < N) (h0 : (σ i).k0 ≠ i) (h1 : (σ i).k1 ≠ i) (t : Nat) : InR N (refT σ i t) := by
 match t with
 | 0 => exact ref0_inR h hi
 | 1 => exact refKid_inR (ref0_inR h hi) hi (h i hi).1 h0
 | t + 2 => exact refKid_inR (refKid_inR (ref0_inR h hi) hi (h i hi).1 h0) hi (h i hi).2.1 h1
theorem LctAt.store {w w0 : World} {pf g N cap : Nat} {σ : Tbl} {ed : Int} (h : LctAt w pf g N cap σ ed) (hF : Fr [g] w0 w) {i f : Nat} (hi : i < N) (hf : f < 9) (n : Nd) (v : Value) (hv : fv n f = v) (ho : ∀ f', f' < 9 → f' ≠ f → fv n f' = fv (σ i) f') :
    LctAt (w.setCell ⟨g, i * 9 + f, none⟩ v) pf g N cap (σ.upd i n) ed ∧ Fr [g] w0 (w.setCell ⟨g, i * 9 + f, none⟩ v) :=
  ⟨⟨h.hd.other _ _ h.ne, h.nodes.store hi hf n v hv ho, h.ne, h.le, h.cap⟩, hF.setCell _ _ (.inl (by simp))⟩
theorem LctAt.eqv {w w' : World} {pf g N cap : Nat} {σ : Tbl} {ed : Int} (h : LctAt w pf g N cap σ ed) (e : Eqv w' w) : LctAt w' pf g N cap σ ed :=
  ⟨e.blk h.hd, h.nodes.eqv e, h.ne, h.le, h.cap⟩
section
variable {w w0 : World} {pf g N cap : Nat} {σ : Tbl} {ed : Int} (h : LctAt w pf g N cap σ ed) (hF : Fr [g] w0 w) {i : Nat} (hi : i < N)
include h hF hi
theorem LctAt.st0 (x : Nat) : LctAt (w.setCell ⟨g, i * 9, none⟩ (.int .i64 x)) pf g N cap (σ.upd i { σ i with k0 := x }) ed ∧ Fr [g] w0 (w.setCell ⟨g, i * 9, none⟩ (.int .i64 x)) :=
  h.store hF hi (f := 0) (by decide) _ _ rfl (by intro f' h1 h2; match f', h1, h2 with | 1, _, _ => rfl | 2, _, _ => rfl | 3, _, _ => rfl | 4, _, _ => rfl | 5, _, _ => rfl | 6, _, _ => rfl | 7, _, _ => rfl | _ + 8, _, _ => rfl)
theorem LctAt.st1 (x : Nat) : LctAt (w.setCell ⟨g, i * 9 + 1, none⟩ (.int .i64 x)) pf g N cap (σ.upd i { σ i with k1 := x }) ed ∧ Fr [g] w0 (w.setCell ⟨g, i * 9 + 1, none⟩ (.int .i64 x)) :=
  h.store hF hi (f := 1) (by decide) _ _ rfl (by intro f' h1 h2; match f', h1, h2 with | 0, _, _ => rfl | 2, _, _ => rfl | 3, _, _ => rfl | 4, _, _ => rfl | 5, _, _ => rfl | 6, _, _ => rfl | 7, _, _ => rfl | _ + 8, _, _ => rfl)
theorem LctAt.st2 (x : Nat) : LctAt (w.setCell ⟨g, i * 9 + 2, none⟩ (.int .i64 x)) pf g N cap (σ.upd i { σ i with up := x }) ed ∧ Fr [g] w0 (w.setCell ⟨g, i * 9 + 2, none⟩ (.int .i64 x)) :=
  h.store hF hi (f := 2) (by decide) _ _ rfl (by intro f' h1 h2; match f', h1, h2 with | 0, _, _ => rfl | 1, _, _ => rfl | 3, _, _ => rfl | 4, _, _ => rfl | 5, _, _ => rfl | 6, _, _ => rfl | 7, _, _ => rfl | _ + 8, _, _ => rfl)
theorem LctAt.st3 (x : Bool) : LctAt (w.setCell ⟨g, i * 9 + 3, none⟩ (.bool x)) pf g N cap (σ.upd i { σ i with flip := x }) ed ∧ Fr [g] w0 (w.setCell ⟨g, i * 9 + 3, none⟩ (.bool x)) :=
  h.store hF hi (f := 3) (by decide) _ _ rfl (by intro f' h1 h2; match f', h1, h2 with | 0, _, _ => rfl | 1, _, _ => rfl | 2, _, _ => rfl | 4, _, _ => rfl | 5, _, _ => rfl | 6, _, _ => rfl | 7, _, _ => rfl | _ + 8, _, _ => rfl)
theorem LctAt.st4 (x : Int) : LctAt (w.setCell ⟨g, i * 9 + 4, none⟩ (.int .i64 x)) pf g N cap (σ.upd i { σ i with key := x }) ed ∧ Fr [g] w0 (w.setCell ⟨g, i * 9 + 4, none⟩ (.int .i64 x)) :=
  h.store hF hi (f := 4) (by decide) _ _ rfl (by intro f' h1 h2; match f', h1, h2 with | 0, _, _ => rfl | 1, _, _ => rfl | 2, _, _ => rfl | 3, _, _ => rfl | 5, _, _ => rfl | 6, _, _ => rfl | 7, _, _ => rfl | _ + 8, _, _ => rfl)
theorem LctAt.st5 (x : Int) : LctAt (w.setCell ⟨g, i * 9 + 5, none⟩ (.int .i64 x)) pf g N cap (σ.upd i { σ i with size := x }) ed ∧ Fr [g] w0 (w.setCell ⟨g, i * 9 + 5, none⟩ (.int .i64 x)) :=
  h.store hF hi (f := 5) (by decide) _ _ rfl (by intro f' h1 h2; match f', h1, h2 with | 0, _, _ => rfl | 1, _, _ => rfl | 2, _, _ => rfl | 3, _, _ => rfl | 4, _, _ => rfl | 6, _, _ => rfl | 7, _, _ => rfl | _ + 8, _, _ => rfl)
theorem LctAt.st6 (x : Nat) : LctAt (w.setCell ⟨g, i * 9 + 6, none⟩ (.int .i64 x)) pf g N cap (σ.upd i { σ i with first := x }) ed ∧ Fr [g] w0 (w.setCell ⟨g, i * 9 + 6, none⟩ (.int .i64 x)) :=
  h.store hF hi (f := 6) (by decide) _ _ rfl (by intro f' h1 h2; match f', h1, h2 with | 0, _, _ => rfl | 1, _, _ => rfl | 2, _, _ => rfl | 3, _, _ => rfl | 4, _, _ => rfl | 5, _, _ => rfl | 7, _, _ => rfl | _ + 8, _, _ => rfl)
theorem LctAt.st7 (x : Int) : LctAt (w.setCell ⟨g, i * 9 + 7, none⟩ (.int .i64 x)) pf g N cap (σ.upd i { σ i with light := x }) ed ∧ Fr [g] w0 (w.setCell ⟨g, i * 9 + 7, none⟩ (.int .i64 x)) :=
  h.store hF hi (f := 7) (by decide) _ _ rfl (by intro f' h1 h2; match f', h1, h2 with | 0, _, _ => rfl | 1, _, _ => rfl | 2, _, _ => rfl | 3, _, _ => rfl | 4, _, _ => rfl | 5, _, _ => rfl | 6, _, _ => rfl | _ + 8, _, _ => rfl)
theorem LctAt.st8 (x : Int) : LctAt (w.setCell ⟨g, i * 9 + 8, none⟩ (.int .i64 x)) pf g N cap (σ.upd i { σ i with total := x }) ed ∧ Fr [g] w0 (w.setCell ⟨g, i * 9 + 8, none⟩ (.int .i64 x)) :=
  h.store hF hi (f := 8) (by decide) _ _ rfl (by intro f' h1 h2; match f', h1, h2 with | 0, _, _ => rfl | 1, _, _ => rfl | 2, _, _ => rfl | 3, _, _ => rfl | 4, _, _ => rfl | 5, _, _ => rfl | 6, _, _ => rfl | 7, _, _ => rfl | m + 8, h1, h2 => exact absurd (show m + 8 = 8 by omega) h2)
end
set_option maxRecDepth 10000
set_option maxHeartbeats 400000
theorem idx_kids0 (x y : Value) (w : World) : (Instr.index 189 (.agg #[x, y]) (.int .i64 0)).run Tryz.prog w = .ok x w := by kernel_rfl
theorem idx_kids1 (x y : Value) (w : World) : (Instr.index 189 (.agg #[x, y]) (.int .i64 1)).run Tryz.prog w = .ok y w := by kernel_rfl
theorem ref0_mem {w : World} {pf g N cap : Nat} {σ : Tbl} {ed : Int} (h : LctAt w pf g N cap σ ed) {i : Nat} (hi : i < N) :
    LctAt (((w.setCell ⟨g, i * 9 + 5, none⟩ (.int .i64 1)).setCell ⟨g, i * 9 + 6, none⟩ (.int .i64 i)).setCell ⟨g, i * 9 + 8, none⟩ (.int .i64 (wrap64 (1 + (σ i).light)))) pf g N cap (ref0 σ i) ed ∧
      Fr [g] w (((w.setCell ⟨g, i * 9 + 5, none⟩ (.int .i64 1)).setCell ⟨g, i * 9 + 6, none⟩ (.int .i64 i)).setCell ⟨g, i * 9 + 8, none⟩ (.int .i64 (wrap64 (1 + (σ i).light)))) := by
 obtain ⟨h1, f1⟩ := h.st5 (Fr.refl _ _) hi 1
 obtain ⟨h2, f2⟩ := h1.st6 f1 hi i
 obtain ⟨h3, f3⟩ := h2.st8 f2 hi (wrap64 (1 + (σ i).light))
 refine ⟨⟨h3.hd, h3.nodes.congr ?_, h3.ne, h3.le, h3.cap⟩, f3⟩
 intro j _
 by_cases e : j = i
 · subst e; simp [ref0, upd_same]
 · simp [ref0, upd_other e]
theorem iw64 (n : Int) : IntKind.i64.wrap n = wrap64 n := by rw [IntKind.wrap_i64]; unfold wrap64; omega
theorem refresh_w {w : World} {pf g N cap : Nat} {σ : Tbl} {ed : Int} (h : LctAt w pf g N cap σ ed) (i : Nat) (hi : i < N) (hR : InR N σ) (h0 : (σ i).k0 ≠ i) (h1 : (σ i).k1 ≠ i) :
    Calls Tryz.prog 174 #[.pointer (some ⟨pf, 0, none⟩), .int .i64 i] w fun e w' => e = .returned (.tuple #[]) ∧ LctAt w' pf g N cap (refresh σ i) ed ∧ Fr [g] w w' := by
 have c1 := h.hd.cell 1
 simp only [List.getElem?_cons_zero, List.getElem?_cons_succ] at c1
 have hN := h.le
 have a0 := h.nodes.c0 i hi
 have a1 := h.nodes.c1 i hi
 have a5 := h.nodes.c5 i hi
 have a6 := h.nodes.c6 i hi
 have a7 := h.nodes.c7 i hi
 have a8 := h.nodes.c8 i hi
 have hfz := h.nodes.frozen
 have hi2 : (i : Int) < N := by omega
 obtain ⟨hm0, hf0⟩ := ref0_mem h hi
 have HR := Lib.hid hR; clear hR
 have H0 := Lib.hid h0; clear h0
 have H1 := Lib.hid h1; clear h1
 go_enter Tryz.func174, Tryz.ntmps174
 go_wp2
 generalize hW : (((w.setCell ⟨g, i * 9 + 5, none⟩ (.int .i64 1)).setCell ⟨g, i * 9 + 6, none⟩ (.int .i64 i)).setCell ⟨g, i * 9 + 8, none⟩ (.int .i64 (wrap64 (1 + (σ i).light)))) = W0 at *
 clear hW a0 a1 a5 a6 a7 a8 hfz c1
 go_loopw [33] (fun x wr => ∃ t : Nat, t ≤ 2 ∧ x = .int .i64 t ∧ LctAt wr pf g N cap (refT σ i t) ed ∧ Fr [g] w wr) (fun x _ => 2 - (intOf x).toNat)
 case atStart => exact ⟨0, by omega, rfl, hm0, hf0⟩
 case round =>
  clear hm0 hf0
  obtain ⟨t, ht, rfl, hL, hF⟩ := hrel
  by_cases hlt : t < 2
  {
  have hInR := refT_inR HR.out hi H0.out H1.out t
  obtain ⟨k, hix, hkN, hki, hnx⟩ : ∃ k : Nat, (∀ W : World, (Instr.index 189 (.agg #[.int .i64 (σ i).k0, .int .i64 (σ i).k1]) (.int .i64 t)).run Tryz.prog W = .ok (.int .i64 k) W) ∧ k < N ∧ k ≠ i ∧ refT σ i (t + 1) = refKid (refT σ i t) i k := by {
  rcases (show t = 0 ∨ t = 1 by omega) with rfl | rfl
  · exact ⟨(σ i).k0, fun W => idx_kids0 _ _ W, (HR.out i hi).1, H0.out, rfl⟩
  · exact ⟨(σ i).k1, fun W => idx_kids1 _ _ W, (HR.out i hi).2.1, H1.out, rfl⟩
  }
  have Hnx := Lib.hid hnx; clear hnx
  have HIn := Lib.hid hInR; clear hInR
  generalize refT σ i t = τ at *
  by_cases hk0 : k = 0
  {
  subst hk0
  go_wp2
  go_roundw
  case rel => exact ⟨t + 1, by omega, by go_num, by rw [Hnx.out]; exact hL, hF⟩
  case measure => simp [intOf]; omega
  }
  {
  have hb0 : ((k : Int) == 0) = false := beq_eq_false_iff_ne.2 (by omega)
  have hk2 : (k : Int) < N := by omega
  have c1 := hL.hd.cell 1
  simp only [List.getElem?_cons_zero, List.getElem?_cons_succ] at c1
  have a5 := hL.nodes.c5 i hi
  have b5 := hL.nodes.c5 k hkN
  have hfz := hL.nodes.frozen
  go_wp2
  refine region_one 11 (fun w' => LctAt w' pf g N cap (τ.upd i { τ i with size := wrap64 ((τ i).size + (τ k).size) }) ed ∧ Fr [g] w w') (by kernel_rfl) (by kernel_rfl) (by kernel_rfl) ?_
  iterate 11 (refine gWalk_pre (by decide) (fun K hK => ?_); go_simp; refine hK _ ?_; clear hK K)
  refine gWalk_write rfl undef (fun w' hw' => ?_) ?_
  {
  obtain ⟨nq, rfl⟩ := hw'
  go_simp
  rw [iw64]
  exact (hL.eqv (Eqv.drewN wr nq)).st5 (hF.drewN nq) hi _
  }
  refine gWalk_nil ?_
  rintro w2 ⟨hL2, hF2⟩
  have hk1 : τ.upd i { τ i with size := wrap64 ((τ i).size + (τ k).size) } k = τ k := upd_other hki
  have c1' := hL2.hd.cell 1
  simp only [List.getElem?_cons_zero, List.getElem?_cons_succ] at c1'
  have a8 := hL2.nodes.c8 i hi
  have b8 := hL2.nodes.c8 k hkN
  rw [hk1] at b8
  rw [upd_same] at a8
  have hfz2 := hL2.nodes.frozen
  clear a5 b5 hfz c1 hk1
  go_wp2
  refine region_one 11 (fun w' => LctAt w' pf g N cap ((τ.upd i { τ i with size := wrap64 ((τ i).size + (τ k).size) }).upd i { τ i with size := wrap64 ((τ i).size + (τ k).size), total := wrap64 ((τ i).total + (τ k).total) }) ed ∧ Fr [g] w w') (by kernel_rfl) (by kernel_rfl) (by kernel_rfl) ?_
  iterate 11 (refine gWalk_pre (by decide) (fun K hK => ?_); go_simp; refine hK _ ?_; clear hK K)
  refine gWalk_write rfl undef (fun w' hw' => ?_) ?_
  {
  obtain ⟨nq, rfl⟩ := hw'
  go_simp
  have := (hL2.eqv (Eqv.drewN w2 nq)).st8 (hF2.drewN nq) hi (wrap64 ((τ i).total + (τ k).total))
  rw [upd_same] at this
  rw [iw64]
  exact this
  }
  refine gWalk_nil ?_
  rintro w3 ⟨hL3, hF3⟩
  clear a8 b8 hfz2 c1' hL hL2 hF hF2
  have hns : refKid τ i k = if beforeB ((τ.upd i { τ i with size := wrap64 ((τ i).size + (τ k).size) }).upd i { τ i with size := wrap64 ((τ i).size + (τ k).size), total := wrap64 ((τ i).total + (τ k).total) }) (τ k).first (τ i).first then ((τ.upd i { τ i with size := wrap64 ((τ i).size + (τ k).size) }).upd i { τ i with size := wrap64 ((τ i).size + (τ k).size), total := wrap64 ((τ i).total + (τ k).total) }).upd i { τ i with size := wrap64 ((τ i).size + (τ k).size), total := wrap64 ((τ i).total + (τ k).total), first := (τ k).first } else ((τ.upd i { τ i with size := wrap64 ((τ i).size + (τ k).size) }).upd i { τ i with size := wrap64 ((τ i).size + (τ k).size), total := wrap64 ((τ i).total + (τ k).total) }) := by {
  unfold refKid
  rw [if_neg hk0]
  simp only [upd_same, upd_other hki]
  }
  have Hns := Lib.hid hns; clear hns
  have c6 := hL3.nodes.c6 i hi
  have d6 := hL3.nodes.c6 k hkN
  have hk1 : ((τ.upd i { τ i with size := wrap64 ((τ i).size + (τ k).size) }).upd i { τ i with size := wrap64 ((τ i).size + (τ k).size), total := wrap64 ((τ i).total + (τ k).total) }) k = τ k := by rw [upd_other hki, upd_other hki]
  have hi1 : ((τ.upd i { τ i with size := wrap64 ((τ i).size + (τ k).size) }).upd i { τ i with size := wrap64 ((τ i).size + (τ k).size), total := wrap64 ((τ i).total + (τ k).total) }) i = { τ i with size := wrap64 ((τ i).size + (τ k).size), total := wrap64 ((τ i).total + (τ k).total) } := upd_same _ _ _
  rw [hi1] at c6
  rw [hk1] at d6
  have hst := fun nq : Nat => (hL3.eqv (Eqv.drewN w3 nq)).st6 (hF3.drewN nq) hi (τ k).first
  rw [hi1] at hst
  generalize ((τ.upd i { τ i with size := wrap64 ((τ i).size + (τ k).size) }).upd i { τ i with size := wrap64 ((τ i).size + (τ k).size), total := wrap64 ((τ i).total + (τ k).total) }) = τ2 at *
  have hbf := fun W (hW : LctAt W pf g N cap τ2 ed) => before_w hW (τ k).first (τ i).first (HIn.out k hkN).2.2.2 (HIn.out i hi).2.2.2
  have Hbf := Lib.hid hbf; clear hbf hk1 hi1
  have hfz3 := hL3.nodes.frozen
  have Hst := Lib.hid hst; clear hst
  dsimp only at c6
  cases hB : beforeB τ2 (τ k).first (τ i).first with
  | true => {
  rw [hB] at Hbf Hns
  clear hB
  go_wp2
  go_quiet ((go_at_call 203; exact Calls.quiet_of (Hbf.out _ (hL3.eqv (Eqv.drewN _ _)))))
  go_wp2
  exact ⟨⟨t + 1, by omega, by go_num, by rw [Hnx.out, Hns.out, if_pos trivial]; exact (Hst.out nq).1, (Hst.out nq).2⟩, by simp [intOf]; omega⟩
  }
  | false => {
  rw [hB] at Hbf Hns
  clear hB
  go_wp2
  go_quiet ((go_at_call 203; exact Calls.quiet_of (Hbf.out _ (hL3.eqv (Eqv.drewN _ _)))))
  go_wp2
  exact ⟨⟨t + 1, by omega, by go_num, by rw [Hnx.out, Hns.out, if_neg (by decide)]; exact hL3.eqv (Eqv.drewN w3 nq), hF3.drewN nq⟩, by simp [intOf]; omega⟩
  }
  }
  }
  {
  obtain rfl : t = 2 := by omega
  go_wp2
  go_end0
  exact ⟨rfl, hL, hF⟩
  }
end Go.Proofs.YtgmnemndjjmgkaaGreat
namespace Go.Proofs.YtgmnemndjjmgkaaGreat
open Go.RowKit
def pushK (σ : Tbl) (k : Nat) : Tbl := if k = 0 then σ else σ.upd k { σ k with flip := !(σ k).flip }
def push0 (σ : Tbl) (i : Nat) : Tbl := σ.upd i { σ i with flip := false, k0 := (σ i).k1, k1 := (σ i).k0 }
def pushT (σ : Tbl) (i : Nat) : Nat → Tbl
  | 0 => push0 σ i
  | 1 => pushK (push0 σ i) (σ i).k1
  | _ => pushK (pushK (push0 σ i) (σ i).k1) (σ i).k0
def push (σ : Tbl) (i : Nat) : Tbl := if (σ i).flip then pushT σ i 2 else σ
set_option maxRecDepth 10000
set_option maxHeartbeats 400000
theorem LctAt.congr {w : World} {pf g N cap : Nat} {σ τ : Tbl} {ed : Int} (h : LctAt w pf g N cap σ ed) (e : ∀ i, σ i = τ i) : LctAt w pf g N cap τ ed := by
 have : σ = τ := funext e
 rw [← this]; exact h
theorem push_w {w : World} {pf g N cap : Nat} {σ : Tbl} {ed : Int} (h : LctAt w pf g N cap σ ed) (i : Nat) (hi : i < N) (hR : InR N σ) :
    Calls Tryz.prog 201 #[.pointer (some ⟨pf, 0, none⟩), .int .i64 i] w fun e w' => e = .returned (.tuple #[]) ∧ LctAt w' pf g N cap (push σ i) ed ∧ Fr [g] w w' := by
 have c1 := h.hd.cell 1
 simp only [List.getElem?_cons_zero, List.getElem?_cons_succ] at c1
 have hN := h.le
 have a3 := h.nodes.c3 i hi
 have hfz := h.nodes.frozen
 have hi2 : (i : Int) < N := by omega
 have HR := Lib.hid hR; clear hR
 by_cases hfl : (σ i).flip = true
 {
 have hp : push σ i = pushT σ i 2 := by unfold push; rw [if_pos hfl]
 have Hp := Lib.hid hp; clear hp
 rw [hfl] at a3
 have Hfl := Lib.hid hfl; clear hfl
 obtain ⟨h1, f1⟩ := h.st3 (Fr.refl _ _) hi false
 go_enter Tryz.func201, Tryz.ntmps201
 go_wp2
 generalize hW : w.setCell ⟨g, i * 9 + 3, none⟩ (.bool false) = W0 at *
 clear hW a3 c1 hfz
 have a0 := h1.nodes.c0 i hi
 have a1 := h1.nodes.c1 i hi
 rw [upd_same] at a0 a1
 dsimp only at a0 a1
 have hfz := h1.nodes.frozen
 have c1 := h1.hd.cell 1
 simp only [List.getElem?_cons_zero, List.getElem?_cons_succ] at c1
 refine region_many [15, 19] [1] (fun q w' => match q with
   | 0 => ∃ n, w' = W0.drewN n
   | 1 => LctAt w' pf g N cap ((σ.upd i { σ i with flip := false }).upd i { σ i with flip := false, k0 := (σ i).k1 }) ed ∧ Fr [g] w w'
   | _ => LctAt w' pf g N cap (push0 σ i) ed ∧ Fr [g] w w') (fun w' => Iff.rfl) (by kernel_rfl) (by kernel_rfl) (by kernel_rfl) ?_
 refine mWalk_pre (by decide) (fun K hK => ?_); go_simp; refine hK _ ?_; clear hK K
 refine mWalk_post (by decide) (fun K hK => ?_); go_simp; refine hK _ ?_; clear hK K
 iterate 13 (refine mWalk_pre (by decide) (fun K hK => ?_); go_simp; refine hK _ ?_; clear hK K)
 refine mWalk_write (q := 0) (by decide) rfl undef (fun w' hw' => ?_) ?_
 {
 obtain ⟨nq, rfl⟩ := hw'
 go_simp
 have := (h1.eqv (Eqv.drewN W0 nq)).st0 (f1.drewN nq) hi (σ i).k1
 rw [upd_same] at this
 exact this
 }
 iterate 3 (refine mWalk_post (by decide) (fun K hK => ?_); go_simp; refine hK _ ?_; clear hK K)
 refine mWalk_write (q := 1) (by decide) rfl undef (fun w' hw' => ?_) ?_
 {
 obtain ⟨hA, hB⟩ := hw'
 have hfz' := hA.nodes.frozen
 have b1 := hA.nodes.c1 i hi
 go_simp
 have := hA.st1 hB hi (σ i).k0
 rw [upd_same] at this
 refine ⟨this.1.congr ?_, this.2⟩
 intro j
 by_cases e : j = i
 · subst e; simp [push0, upd_same]
 · simp [push0, upd_other e]
 }
 refine mWalk_nil ?_
 rintro w2 ⟨h2, f2⟩
 clear a0 a1 hfz c1 h1 f1
 have a0 := h2.nodes.c0 i hi
 have a1 := h2.nodes.c1 i hi
 simp only [push0, upd_same] at a0 a1
 go_wp2
 clear a0 a1
 go_loopw [43] (fun x wr => ∃ t : Nat, t ≤ 2 ∧ x = .int .i64 t ∧ LctAt wr pf g N cap (pushT σ i t) ed ∧ Fr [g] w wr) (fun x _ => 2 - (intOf x).toNat)
 case atStart => exact ⟨0, by omega, rfl, h2, f2⟩
 case round =>
  clear h2 f2
  obtain ⟨t, ht, rfl, hL, hF⟩ := hrel
  by_cases hlt : t < 2
  {
  obtain ⟨k, hix, hkN, hnx⟩ : ∃ k : Nat, (∀ W : World, (Instr.index 189 (.agg #[.int .i64 (σ i).k1, .int .i64 (σ i).k0]) (.int .i64 t)).run Tryz.prog W = .ok (.int .i64 k) W) ∧ k < N ∧ pushT σ i (t + 1) = pushK (pushT σ i t) k := by {
  rcases (show t = 0 ∨ t = 1 by omega) with rfl | rfl
  · exact ⟨(σ i).k1, fun W => idx_kids0 _ _ W, (HR.out i hi).2.1, rfl⟩
  · exact ⟨(σ i).k0, fun W => idx_kids1 _ _ W, (HR.out i hi).1, rfl⟩
  }
  have Hnx := Lib.hid hnx; clear hnx
  generalize pushT σ i t = τ at *
  by_cases hk0 : k = 0
  {
  subst hk0
  go_wp2
  exact ⟨⟨t + 1, by omega, by go_num, by rw [Hnx.out]; exact hL, hF⟩, by simp [intOf]; omega⟩
  }
  {
  have hb0 : ((k : Int) == 0) = false := beq_eq_false_iff_ne.2 (by omega)
  have hk2 : (k : Int) < N := by omega
  have c1 := hL.hd.cell 1
  simp only [List.getElem?_cons_zero, List.getElem?_cons_succ] at c1
  have a3 := hL.nodes.c3 k hkN
  have hfz := hL.nodes.frozen
  go_wp2
  refine region_one 16 (fun w' => LctAt w' pf g N cap (τ.upd k { τ k with flip := !(τ k).flip }) ed ∧ Fr [g] w w') (by kernel_rfl) (by kernel_rfl) (by kernel_rfl) ?_
  iterate 16 (refine gWalk_pre (by decide) (fun K hK => ?_); go_simp; refine hK _ ?_; clear hK K)
  refine gWalk_write rfl undef (fun w' hw' => ?_) ?_
  {
  obtain ⟨nq, rfl⟩ := hw'
  go_simp
  exact (hL.eqv (Eqv.drewN wr nq)).st3 (hF.drewN nq) hkN _
  }
  refine gWalk_nil ?_
  rintro w3 ⟨h3, f3⟩
  go_wp2
  exact ⟨⟨t + 1, by omega, by go_num, by rw [Hnx.out]; unfold pushK; rw [if_neg hk0]; exact h3, f3⟩, by simp [intOf]; omega⟩
  }
  }
  {
  obtain rfl : t = 2 := by omega
  go_wp2
  go_end0
  exact ⟨rfl, by rw [Hp.out]; exact hL, hF⟩
  }
 }
 {
 have hfl : (σ i).flip = false := by simpa using hfl
 have hp : push σ i = σ := by unfold push; rw [if_neg (by simp [hfl])]
 rw [hp]; clear hp
 rw [hfl] at a3
 go_enter Tryz.func201, Tryz.ntmps201
 go_wp2
 refine bodyPost_ret (results_none rfl _ _ _) rfl ?_
 exact ⟨rfl, h, Fr.refl _ _⟩
 }
end Go.Proofs.YtgmnemndjjmgkaaGreat
namespace Go.Proofs.YtgmnemndjjmgkaaGreat
open Go.RowKit
def sideOf (σ : Tbl) (i : Nat) : Nat × Bool :=
  if (σ i).up = 0 then (0, false) else if (σ (σ i).up).k0 = i then (0, true) else if (σ (σ i).up).k1 = i then (1, true) else (0, false)
def setKid (n : Nd) (s k : Nat) : Nd := if s = 0 then { n with k0 := k } else { n with k1 := k }
def kid (n : Nd) (s : Nat) : Nat := if s = 0 then n.k0 else n.k1
def hang (σ : Tbl) (i s k : Nat) : Tbl :=
  let σ1 := σ.upd i (setKid (σ i) s k)
  if k = 0 then σ1 else σ1.upd k { σ1 k with up := i }
set_option maxRecDepth 10000
set_option maxHeartbeats 400000
theorem side_w {w : World} {pf g N cap : Nat} {σ : Tbl} {ed : Int} (h : LctAt w pf g N cap σ ed) (i : Nat) (hi : i < N) (hR : InR N σ) :
    Calls Tryz.prog 199 #[.pointer (some ⟨pf, 0, none⟩), .int .i64 i] w fun e w' => e = .returned (.tuple #[.int .i64 (sideOf σ i).1, .bool (sideOf σ i).2]) ∧ w' = w := by
 have c1 := h.hd.cell 1
 simp only [List.getElem?_cons_zero, List.getElem?_cons_succ] at c1
 have hN := h.le
 have a2 := h.nodes.c2 i hi
 have hp := (hR i hi).2.2.1
 have hi2 : (i : Int) < N := by omega
 have HR := Lib.hid hR; clear hR
 have hs : sideOf σ i = if (σ i).up = 0 then (0, false) else if (σ (σ i).up).k0 = i then (0, true) else if (σ (σ i).up).k1 = i then (1, true) else (0, false) := rfl
 generalize hpp : (σ i).up = p at *
 have Hs := Lib.hid hs; clear hs
 by_cases hp0 : p = 0
 {
 subst hp0
 rw [Hs.out, if_pos rfl]
 clear Hs
 go_enter Tryz.func199, Tryz.ntmps199
 go_wp2
 go_ret2
 exact ⟨rfl, rfl⟩
 }
 {
 have hp2 : (p : Int) < N := by omega
 have hb0 : ((p : Int) == 0) = false := beq_eq_false_iff_ne.2 (by omega)
 have b0 := h.nodes.c0 p hp
 have b1 := h.nodes.c1 p hp
 have Hp0 := Lib.hid hp0; clear hp0
 go_enter Tryz.func199, Tryz.ntmps199
 go_wp2
 clear a2 b0 b1 c1
 go_loopw [27] (fun x wr => ∃ t : Nat, t ≤ 2 ∧ x = .int .i64 t ∧ wr = w ∧ (0 < t → (σ p).k0 ≠ i) ∧ (1 < t → (σ p).k1 ≠ i)) (fun x _ => 2 - (intOf x).toNat)
 case atStart => exact ⟨0, by omega, rfl, rfl, by omega, by omega⟩
 case round =>
  obtain ⟨t, ht, rfl, rfl, he0, he1⟩ := hrel
  by_cases hlt : t < 2
  {
  obtain ⟨k, hix, hkN, hy, hn0, hn1⟩ : ∃ k : Nat, (∀ W : World, (Instr.index 189 (.agg #[.int .i64 (σ p).k0, .int .i64 (σ p).k1]) (.int .i64 t)).run Tryz.prog W = .ok (.int .i64 k) W) ∧ k < N ∧ (k = i → sideOf σ i = (t, true)) ∧ (k ≠ i → 0 < t + 1 → (σ p).k0 ≠ i) ∧ (k ≠ i → 1 < t + 1 → (σ p).k1 ≠ i) := by {
  rcases (show t = 0 ∨ t = 1 by omega) with rfl | rfl
  · exact ⟨(σ p).k0, fun W => idx_kids0 _ _ W, (HR.out p hp).1, fun e => by rw [Hs.out, if_neg Hp0.out, if_pos e], fun e _ => e, fun _ e => by omega⟩
  · exact ⟨(σ p).k1, fun W => idx_kids1 _ _ W, (HR.out p hp).2.1, fun e => by rw [Hs.out, if_neg Hp0.out, if_neg (he0 (by decide)), if_pos e], fun _ _ => he0 (by decide), fun e _ => e⟩
  }
  have Hy := Lib.hid hy; clear hy
  have Hn0 := Lib.hid hn0; clear hn0
  have Hn1 := Lib.hid hn1; clear hn1
  clear he0 he1
  by_cases hki : k = i
  {
  have hb : ((k : Int) == (i : Int)) = true := beq_iff_eq.2 (by omega)
  go_wp2
  go_ret2
  rw [Hy.out hki]
  exact ⟨rfl, rfl⟩
  }
  {
  have hb : ((k : Int) == (i : Int)) = false := beq_eq_false_iff_ne.2 (by omega)
  go_wp2
  exact ⟨⟨t + 1, by omega, by go_num, trivial, Hn0.out hki, Hn1.out hki⟩, by simp [intOf]; omega⟩
  }
  }
  {
  obtain rfl : t = 2 := by omega
  have hs : sideOf σ i = (0, false) := by rw [Hs.out, if_neg Hp0.out, if_neg (he0 (by decide)), if_neg (he1 (by decide))]
  have Hs' := Lib.hid hs; clear hs
  clear Hs he0 he1
  go_wp2
  go_ret2
  rw [Hs'.out]
  exact ⟨rfl, rfl⟩
  }
 }
theorem hang_w {w : World} {pf g N cap : Nat} {σ : Tbl} {ed : Int} (h : LctAt w pf g N cap σ ed) (i s k : Nat) (hi : i < N) (hs : s < 2) (hk : k < N) :
    Calls Tryz.prog 223 #[.pointer (some ⟨pf, 0, none⟩), .int .i64 i, .int .i64 s, .int .i64 k] w fun e w' => e = .returned (.tuple #[]) ∧ LctAt w' pf g N cap (hang σ i s k) ed ∧ Fr [g] w w' := by
 have c1 := h.hd.cell 1
 simp only [List.getElem?_cons_zero, List.getElem?_cons_succ] at c1
 have hN := h.le
 have hfz := h.nodes.frozen
 have hi2 : (i : Int) < N := by omega
 have hk2 : (k : Int) < N := by omega
 have key : ∀ W1 : World, LctAt W1 pf g N cap (σ.upd i (setKid (σ i) s k)) ed ∧ Fr [g] w W1 → (k = 0 → LctAt W1 pf g N cap (hang σ i s k) ed ∧ Fr [g] w W1) ∧ (k ≠ 0 → LctAt (W1.setCell ⟨g, k * 9 + 2, none⟩ (.int .i64 i)) pf g N cap (hang σ i s k) ed ∧ Fr [g] w (W1.setCell ⟨g, k * 9 + 2, none⟩ (.int .i64 i))) := by {
 intro W1 ⟨h1, f1⟩
 constructor
 · intro e; unfold hang; rw [if_pos e]; exact ⟨h1, f1⟩
 · intro e; unfold hang; rw [if_neg e]; exact h1.st2 f1 hk i
 }
 have Key := Lib.hid key; clear key
 rcases (show s = 0 ∨ s = 1 by omega) with rfl | rfl
 {
 obtain ⟨h1, f1⟩ := h.st0 (Fr.refl _ _) hi k
 have a0 := h.nodes.c0 i hi
 have K := Lib.hid (Key.out _ ⟨h1, f1⟩)
 clear Key f1
 by_cases hk0 : k = 0
 {
 have r := K.out.1 hk0
 clear K h1
 subst hk0
 go_enter Tryz.func223, Tryz.ntmps223
 go_wp2
 go_end0
 exact ⟨rfl, r⟩
 }
 {
 have hb0 : ((k : Int) == 0) = false := beq_eq_false_iff_ne.2 (by omega)
 have hfz1 := h1.nodes.frozen
 have d1 := h1.hd.cell 1
 simp only [List.getElem?_cons_zero, List.getElem?_cons_succ] at d1
 have b2 := h1.nodes.c2 k hk
 have r := K.out.2 hk0
 clear K h1
 go_enter Tryz.func223, Tryz.ntmps223
 go_wp2
 go_end0
 exact ⟨rfl, r⟩
 }
 }
 {
 obtain ⟨h1, f1⟩ := h.st1 (Fr.refl _ _) hi k
 have a0 := h.nodes.c1 i hi
 have K := Lib.hid (Key.out _ ⟨h1, f1⟩)
 clear Key f1
 by_cases hk0 : k = 0
 {
 have r := K.out.1 hk0
 clear K h1
 subst hk0
 go_enter Tryz.func223, Tryz.ntmps223
 go_wp2
 go_end0
 exact ⟨rfl, r⟩
 }
 {
 have hb0 : ((k : Int) == 0) = false := beq_eq_false_iff_ne.2 (by omega)
 have hfz1 := h1.nodes.frozen
 have d1 := h1.hd.cell 1
 simp only [List.getElem?_cons_zero, List.getElem?_cons_succ] at d1
 have b2 := h1.nodes.c2 k hk
 have r := K.out.2 hk0
 clear K h1
 go_enter Tryz.func223, Tryz.ntmps223
 go_wp2
 go_end0
 exact ⟨rfl, r⟩
 }
 }
end Go.Proofs.YtgmnemndjjmgkaaGreat
namespace Go.Proofs.YtgmnemndjjmgkaaGreat
open Go.RowKit
def rot1 (σ : Tbl) (i : Nat) : Tbl :=
  if (sideOf σ (σ i).up).2 then hang σ (σ (σ i).up).up (sideOf σ (σ i).up).1 i else σ.upd i { σ i with up := (σ (σ i).up).up }
def rot2 (σ : Tbl) (i : Nat) : Tbl := hang (rot1 σ i) (σ i).up (sideOf σ i).1 (kid (rot1 σ i i) (1 - (sideOf σ i).1))
def rot3 (σ : Tbl) (i : Nat) : Tbl := hang (rot2 σ i) i (1 - (sideOf σ i).1) (σ i).up
def rotate (σ : Tbl) (i : Nat) : Tbl := refresh (refresh (rot3 σ i) (σ i).up) i
theorem Fr.then {g : Nat} {a b c : World} (h : Fr [g] a b) (h' : Fr [g] b c) : Fr [g] a c := h.trans h' (fun _ h => .inl h)
theorem sideOf_lt (σ : Tbl) (i : Nat) : (sideOf σ i).1 < 2 := by unfold sideOf; split <;> (try split) <;> (try split) <;> decide
theorem InR.upd {N : Nat} {σ : Tbl} (h : InR N σ) {i : Nat} {n : Nd} (hn : n.k0 < N ∧ n.k1 < N ∧ n.up < N ∧ n.first < N) : InR N (σ.upd i n) := by
 intro j hj
 by_cases e : j = i
 · subst e; rw [upd_same]; exact hn
 · rw [upd_other e]; exact h j hj
theorem InR.hang {N : Nat} {σ : Tbl} (h : InR N σ) {i s k : Nat} (hi : i < N) (hk : k < N) : InR N (hang σ i s k) := by
 have h1 : InR N (σ.upd i (setKid (σ i) s k)) := by {
 refine h.upd ?_
 unfold setKid
 have := h i hi
 split
 · exact ⟨hk, this.2⟩
 · exact ⟨this.1, hk, this.2.2⟩
 }
 unfold Proofs.YtgmnemndjjmgkaaGreat.hang
 dsimp only
 split
 · exact h1
 · exact h1.upd ⟨(h1 k hk).1, (h1 k hk).2.1, hi, (h1 k hk).2.2.2⟩
theorem InR.refresh {N : Nat} {σ : Tbl} (h : InR N σ) {i : Nat} (hi : i < N) (h0 : (σ i).k0 ≠ i) (h1 : (σ i).k1 ≠ i) : InR N (refresh σ i) := refT_inR h hi h0 h1 2
theorem InR.kid {N : Nat} {σ : Tbl} (h : InR N σ) {i : Nat} (hi : i < N) (s : Nat) : kid (σ i) s < N := by
 unfold Proofs.YtgmnemndjjmgkaaGreat.kid; split
 · exact (h i hi).1
 · exact (h i hi).2.1
theorem InR.rot1 {N : Nat} {σ : Tbl} (h : InR N σ) {i : Nat} (hi : i < N) : InR N (rot1 σ i) := by
 have hp := (h i hi).2.2.1
 have hg := (h _ hp).2.2.1
 unfold Proofs.YtgmnemndjjmgkaaGreat.rot1
 split
 · exact h.hang hg hi
 · exact h.upd ⟨(h i hi).1, (h i hi).2.1, hg, (h i hi).2.2.2⟩
theorem refresh_links {σ : Tbl} {i j : Nat} : (refresh σ i j).k0 = (σ j).k0 ∧ (refresh σ i j).k1 = (σ j).k1 ∧ (refresh σ i j).up = (σ j).up ∧ (refresh σ i j).flip = (σ j).flip ∧ (refresh σ i j).key = (σ j).key ∧ (refresh σ i j).light = (σ j).light := by
 unfold refresh refT
 have a := @refKid_links (refKid (ref0 σ i) i (σ i).k0) i (σ i).k1 j
 have b := @refKid_links (ref0 σ i) i (σ i).k0 j
 have c : (ref0 σ i j).k0 = (σ j).k0 ∧ (ref0 σ i j).k1 = (σ j).k1 ∧ (ref0 σ i j).up = (σ j).up ∧ (ref0 σ i j).flip = (σ j).flip ∧ (ref0 σ i j).key = (σ j).key ∧ (ref0 σ i j).light = (σ j).light := by {
 by_cases e : j = i
 · subst e; simp [ref0, upd_same]
 · simp [ref0, upd_other e]
 }
 refine ⟨a.1.trans (b.1.trans c.1), a.2.1.trans (b.2.1.trans c.2.1), a.2.2.1.trans (b.2.2.1.trans c.2.2.1), a.2.2.2.1.trans (b.2.2.2.1.trans c.2.2.2.1), a.2.2.2.2.1.trans (b.2.2.2.2.1.trans c.2.2.2.2.1), a.2.2.2.2.2.trans (b.2.2.2.2.2.trans c.2.2.2.2.2)⟩
theorem refresh_other {σ : Tbl} {i j : Nat} (h : j ≠ i) : refresh σ i j = σ j := by
 show refKid (refKid (ref0 σ i) i (σ i).k0) i (σ i).k1 j = _
 rw [refKid_other h, refKid_other h, ref0, upd_other h]
set_option maxRecDepth 10000
set_option maxHeartbeats 800000
theorem rotate_w {w : World} {pf g N cap : Nat} {σ : Tbl} {ed : Int} (h : LctAt w pf g N cap σ ed) (i : Nat) (hi : i < N) (hR : InR N σ)
    (q0 : (rot3 σ i (σ i).up).k0 ≠ (σ i).up) (q1 : (rot3 σ i (σ i).up).k1 ≠ (σ i).up) (q2 : (rot3 σ i i).k0 ≠ i) (q3 : (rot3 σ i i).k1 ≠ i) :
    Calls Tryz.prog 202 #[.pointer (some ⟨pf, 0, none⟩), .int .i64 i] w fun e w' => e = .returned (.tuple #[]) ∧ LctAt w' pf g N cap (rotate σ i) ed ∧ Fr [g] w w' := by
 have c1 := h.hd.cell 1
 simp only [List.getElem?_cons_zero, List.getElem?_cons_succ] at c1
 have hN := h.le
 have hi2 : (i : Int) < N := by omega
 have hp := (hR i hi).2.2.1
 have hp2 : ((σ i).up : Int) < N := by omega
 have hg := (hR _ hp).2.2.1
 have a2 := h.nodes.c2 i hi
 have b2 := h.nodes.c2 _ hp
 have hfz := h.nodes.frozen
 have hR1 := hR.rot1 hi
 have hs := sideOf_lt σ i
 have hs' := sideOf_lt σ (σ i).up
 have hR2 : InR N (rot2 σ i) := hR1.hang hp (hR1.kid hi _)
 have hR3 : InR N (rot3 σ i) := hR2.hang hi hp
 have HR := Lib.hid hR; clear hR
 have HR1 := Lib.hid hR1; clear hR1
 have HR2 := Lib.hid hR2; clear hR2
 have HR3 := Lib.hid hR3; clear hR3
 have Q := Lib.hid (And.intro (And.intro q0 q1) (And.intro q2 q3)); clear q0 q1 q2 q3
 have Hst := Lib.hid (h.st2 (Fr.refl _ _) hi (σ (σ i).up).up)
 have hr1t : (sideOf σ (σ i).up).2 = true → rot1 σ i = hang σ (σ (σ i).up).up (sideOf σ (σ i).up).1 i := fun e => by unfold rot1; rw [if_pos e]
 have hr1f : (sideOf σ (σ i).up).2 = false → rot1 σ i = σ.upd i { σ i with up := (σ (σ i).up).up } := fun e => by unfold rot1; rw [if_neg (by simp [e])]
 have Hr1t := Lib.hid hr1t; clear hr1t
 have Hr1f := Lib.hid hr1f; clear hr1f
 have Hr2 := Lib.hid (show rot2 σ i = hang (rot1 σ i) (σ i).up (sideOf σ i).1 (kid (rot1 σ i i) (1 - (sideOf σ i).1)) from rfl)
 have Hr3 := Lib.hid (show rot3 σ i = hang (rot2 σ i) i (1 - (sideOf σ i).1) (σ i).up from rfl)
 have s1 := side_w h i hi HR.out
 have s2 := side_w h (σ i).up hp HR.out
 have hh := fun s (hs : s < 2) => hang_w h (σ (σ i).up).up s i hg hs hi
 generalize hsi : sideOf σ i = si at *
 generalize hsp : sideOf σ (σ i).up = sp at *
 obtain ⟨s, ok⟩ := si
 obtain ⟨s', b⟩ := sp
 dsimp only at s1 s2 hs hs' Hr1t Hr1f Hr2 Hr3
 clear hsi hsp
 have S1 := Lib.hid s1; clear s1
 have S2 := Lib.hid s2; clear s2
 have Hh := Lib.hid (hh s' hs'); clear hh hs'
 generalize hτ1 : rot1 σ i = τ1 at *
 generalize hτ2 : rot2 σ i = τ2 at *
 generalize hτ3 : rot3 σ i = τ3 at *
 have Hrot := Lib.hid (show rotate σ i = refresh (refresh τ3 (σ i).up) i by rw [← hτ3]; rfl)
 clear hτ1 hτ2 hτ3
 rcases (show s = 0 ∨ s = 1 by omega) with rfl | rfl
 {
 have Hr2 := Lib.hid (show τ2 = hang τ1 (σ i).up 0 (τ1 i).k1 from Hr2.out)
 have Hr3 := Lib.hid (show τ3 = hang τ2 i 1 (σ i).up from Hr3.out)
 cases b with
 | true => {
 have hr := Hr1t.out rfl
 have Hr := Lib.hid hr; clear hr Hr1t Hr1f Hst
 go_enter Tryz.func202, Tryz.ntmps202
 go_wp2_with fail
 refine S1.out.mono ?_
 rintro _ _ ⟨rfl, rfl⟩
 go_wp2_with fail
 refine S2.out.mono ?_
 rintro _ _ ⟨rfl, rfl⟩
 go_wp2_with fail
 refine Hh.out.mono ?_
 rintro _ w1 ⟨rfl, hL1, hF1⟩
 rw [← Hr.out] at hL1
 have k0 := hL1.nodes.c0 i hi
 have k1 := hL1.nodes.c1 i hi
 have u2 := hL1.nodes.c2 i hi
 have hfz1 := hL1.nodes.frozen
 have d1 := hL1.hd.cell 1
 simp only [List.getElem?_cons_zero, List.getElem?_cons_succ] at d1
 go_wp2_with fail
 refine (hang_w hL1 (σ i).up 0 (τ1 i).k1 hp (by decide) (HR1.out i hi).2.1).mono ?_
 rintro _ w2 ⟨rfl, hL2, hF2⟩
 rw [← Hr2.out] at hL2
 clear hfz1 k0 k1 d1 hL1 u2
 go_wp2_with fail
 refine (hang_w hL2 i 1 (σ i).up hi (by decide) hp).mono ?_
 rintro _ w3 ⟨rfl, hL3, hF3⟩
 rw [← Hr3.out] at hL3
 clear hL2
 go_wp2_with fail
 refine (refresh_w hL3 (σ i).up hp HR3.out Q.out.1.1 Q.out.1.2).mono ?_
 rintro _ w4 ⟨rfl, hL4, hF4⟩
 clear hL3
 go_wp2_with fail
 refine (refresh_w hL4 i hi (HR3.out.refresh hp Q.out.1.1 Q.out.1.2) (by rw [refresh_links.1]; exact Q.out.2.1) (by rw [refresh_links.2.1]; exact Q.out.2.2)).mono ?_
 rintro _ w5 ⟨rfl, hL5, hF5⟩
 clear hL4
 go_wp2
 go_end0
 rw [← Hrot.out] at hL5
 exact ⟨rfl, hL5, hF1.then (hF2.then (hF3.then (hF4.then hF5)))⟩
 }
 | false => {
 have hr := Hr1f.out rfl
 have hst := Hst.out
 rw [← hr] at hst
 obtain ⟨hL1, hF1⟩ := hst
 clear hr Hr1t Hr1f Hst
 go_enter Tryz.func202, Tryz.ntmps202
 go_wp2_with fail
 refine S1.out.mono ?_
 rintro _ _ ⟨rfl, rfl⟩
 go_wp2_with fail
 refine S2.out.mono ?_
 rintro _ _ ⟨rfl, rfl⟩
 have k0 := hL1.nodes.c0 i hi
 have k1 := hL1.nodes.c1 i hi
 have u2 := hL1.nodes.c2 i hi
 have hfz1 := hL1.nodes.frozen
 have d1 := hL1.hd.cell 1
 simp only [List.getElem?_cons_zero, List.getElem?_cons_succ] at d1
 go_wp2_with fail
 refine (hang_w hL1 (σ i).up 0 (τ1 i).k1 hp (by decide) (HR1.out i hi).2.1).mono ?_
 rintro _ w2 ⟨rfl, hL2, hF2⟩
 rw [← Hr2.out] at hL2
 clear hfz1 k0 k1 d1 hL1 u2
 go_wp2_with fail
 refine (hang_w hL2 i 1 (σ i).up hi (by decide) hp).mono ?_
 rintro _ w3 ⟨rfl, hL3, hF3⟩
 rw [← Hr3.out] at hL3
 clear hL2
 go_wp2_with fail
 refine (refresh_w hL3 (σ i).up hp HR3.out Q.out.1.1 Q.out.1.2).mono ?_
 rintro _ w4 ⟨rfl, hL4, hF4⟩
 clear hL3
 go_wp2_with fail
 refine (refresh_w hL4 i hi (HR3.out.refresh hp Q.out.1.1 Q.out.1.2) (by rw [refresh_links.1]; exact Q.out.2.1) (by rw [refresh_links.2.1]; exact Q.out.2.2)).mono ?_
 rintro _ w5 ⟨rfl, hL5, hF5⟩
 clear hL4
 go_wp2
 go_end0
 rw [← Hrot.out] at hL5
 exact ⟨rfl, hL5, hF1.then (hF2.then (hF3.then (hF4.then hF5)))⟩
 }
 }
 {
 have Hr2 := Lib.hid (show τ2 = hang τ1 (σ i).up 1 (τ1 i).k0 from Hr2.out)
 have Hr3 := Lib.hid (show τ3 = hang τ2 i 0 (σ i).up from Hr3.out)
 cases b with
 | true => {
 have hr := Hr1t.out rfl
 have Hr := Lib.hid hr; clear hr Hr1t Hr1f Hst
 go_enter Tryz.func202, Tryz.ntmps202
 go_wp2_with fail
 refine S1.out.mono ?_
 rintro _ _ ⟨rfl, rfl⟩
 go_wp2_with fail
 refine S2.out.mono ?_
 rintro _ _ ⟨rfl, rfl⟩
 go_wp2_with fail
 refine Hh.out.mono ?_
 rintro _ w1 ⟨rfl, hL1, hF1⟩
 rw [← Hr.out] at hL1
 have k0 := hL1.nodes.c0 i hi
 have k1 := hL1.nodes.c1 i hi
 have u2 := hL1.nodes.c2 i hi
 have hfz1 := hL1.nodes.frozen
 have d1 := hL1.hd.cell 1
 simp only [List.getElem?_cons_zero, List.getElem?_cons_succ] at d1
 go_wp2_with fail
 refine (hang_w hL1 (σ i).up 1 (τ1 i).k0 hp (by decide) (HR1.out i hi).1).mono ?_
 rintro _ w2 ⟨rfl, hL2, hF2⟩
 rw [← Hr2.out] at hL2
 clear hfz1 k0 k1 d1 hL1 u2
 go_wp2_with fail
 refine (hang_w hL2 i 0 (σ i).up hi (by decide) hp).mono ?_
 rintro _ w3 ⟨rfl, hL3, hF3⟩
 rw [← Hr3.out] at hL3
 clear hL2
 go_wp2_with fail
 refine (refresh_w hL3 (σ i).up hp HR3.out Q.out.1.1 Q.out.1.2).mono ?_
 rintro _ w4 ⟨rfl, hL4, hF4⟩
 clear hL3
 go_wp2_with fail
 refine (refresh_w hL4 i hi (HR3.out.refresh hp Q.out.1.1 Q.out.1.2) (by rw [refresh_links.1]; exact Q.out.2.1) (by rw [refresh_links.2.1]; exact Q.out.2.2)).mono ?_
 rintro _ w5 ⟨rfl, hL5, hF5⟩
 clear hL4
 go_wp2
 go_end0
 rw [← Hrot.out] at hL5
 exact ⟨rfl, hL5, hF1.then (hF2.then (hF3.then (hF4.then hF5)))⟩
 }
 | false => {
 have hr := Hr1f.out rfl
 have hst := Hst.out
 rw [← hr] at hst
 obtain ⟨hL1, hF1⟩ := hst
 clear hr Hr1t Hr1f Hst
 go_enter Tryz.func202, Tryz.ntmps202
 go_wp2_with fail
 refine S1.out.mono ?_
 rintro _ _ ⟨rfl, rfl⟩
 go_wp2_with fail
 refine S2.out.mono ?_
 rintro _ _ ⟨rfl, rfl⟩
 have k0 := hL1.nodes.c0 i hi
 have k1 := hL1.nodes.c1 i hi
 have u2 := hL1.nodes.c2 i hi
 have hfz1 := hL1.nodes.frozen
 have d1 := hL1.hd.cell 1
 simp only [List.getElem?_cons_zero, List.getElem?_cons_succ] at d1
 go_wp2_with fail
 refine (hang_w hL1 (σ i).up 1 (τ1 i).k0 hp (by decide) (HR1.out i hi).1).mono ?_
 rintro _ w2 ⟨rfl, hL2, hF2⟩
 rw [← Hr2.out] at hL2
 clear hfz1 k0 k1 d1 hL1 u2
 go_wp2_with fail
 refine (hang_w hL2 i 0 (σ i).up hi (by decide) hp).mono ?_
 rintro _ w3 ⟨rfl, hL3, hF3⟩
 rw [← Hr3.out] at hL3
 clear hL2
 go_wp2_with fail
 refine (refresh_w hL3 (σ i).up hp HR3.out Q.out.1.1 Q.out.1.2).mono ?_
 rintro _ w4 ⟨rfl, hL4, hF4⟩
 clear hL3
 go_wp2_with fail
 refine (refresh_w hL4 i hi (HR3.out.refresh hp Q.out.1.1 Q.out.1.2) (by rw [refresh_links.1]; exact Q.out.2.1) (by rw [refresh_links.2.1]; exact Q.out.2.2)).mono ?_
 rintro _ w5 ⟨rfl, hL5, hF5⟩
 clear hL4
 go_wp2
 go_end0
 rw [← Hrot.out] at hL5
 exact ⟨rfl, hL5, hF1.then (hF2.then (hF3.then (hF4.then hF5)))⟩
 }
 }
end Go.Proofs.YtgmnemndjjmgkaaGreat
namespace Go.Proofs.YtgmnemndjjmgkaaGreat
open Go.RowKit
inductive BT where
  | nil
  | node (f : Bool) (l : BT) (v : Nat) (r : BT)
namespace BT
def root : BT → Nat
  | nil => 0
  | node _ _ v _ => v
def nodes : BT → List Nat
  | nil => []
  | node _ l v r => l.nodes ++ v :: r.nodes
def seq : BT → List Nat
  | nil => []
  | node f l v r => if f then (l.seq ++ v :: r.seq).reverse else l.seq ++ v :: r.seq
def flip : BT → BT
  | nil => nil
  | node f l v r => node (!f) l v r
theorem seq_flip (t : BT) : t.flip.seq = t.seq.reverse := by
 cases t with
 | nil => rfl
 | node f l v r => cases f <;> simp [flip, seq]
theorem nodes_flip (t : BT) : t.flip.nodes = t.nodes := by cases t <;> rfl
theorem root_flip (t : BT) : t.flip.root = t.root := by cases t <;> rfl
theorem seq_perm (t : BT) : t.seq.Perm t.nodes := by
 induction t with
 | nil => exact .nil
 | node f l v r hl hr => {
 have h : (l.seq ++ v :: r.seq).Perm (l.nodes ++ v :: r.nodes) := hl.append (hr.cons v)
 cases f with
 | false => simpa [seq, nodes] using h
 | true => simp only [seq, nodes, if_true]; exact (List.reverse_perm _).trans h
 }
theorem root_mem {t : BT} (h : t.root ≠ 0) : t.root ∈ t.nodes := by
 cases t with
 | nil => exact absurd rfl h
 | node f l v r => simp [root, nodes]
end BT
def tot (σ : Tbl) (l : List Nat) : Int := (l.map fun v => 1 + (σ v).light).sum
def IsBest (σ : Tbl) (l : List Nat) (x : Nat) : Prop := x ∈ l ∧ ∀ y ∈ l, y ≠ x → beforeB σ x y = true
def Rep (σ : Tbl) : BT → Nat → Prop
  | .nil, _ => True
  | .node f l v r, u => (v ≠ 0 ∧ (σ v).up = u ∧ (σ v).flip = f ∧ (σ v).k0 = l.root ∧ (σ v).k1 = r.root) ∧ Rep σ l v ∧ Rep σ r v ∧
      (σ v).size = wrap64 (BT.node f l v r).nodes.length ∧ (σ v).total = wrap64 (tot σ (BT.node f l v r).nodes) ∧ IsBest σ (BT.node f l v r).nodes (σ v).first
theorem tot_congr {σ σ' : Tbl} {l : List Nat} (h : ∀ x ∈ l, (σ' x).light = (σ x).light) : tot σ' l = tot σ l := by
 unfold tot; congr 1; exact List.map_congr_left (fun x hx => by rw [h x hx])
theorem tot_perm {σ : Tbl} {l m : List Nat} (h : l.Perm m) : tot σ l = tot σ m := by
 unfold tot
 induction h with
 | nil => rfl
 | cons x _ ih => simp [ih]
 | swap x y l => simp; omega
 | trans _ _ h1 h2 => exact h1.trans h2
theorem best_congr {σ σ' : Tbl} {l : List Nat} {x : Nat} (h : ∀ x ∈ l, (σ' x).key = (σ x).key) (hb : IsBest σ l x) : IsBest σ' l x := by
 refine ⟨hb.1, fun y hy hne => ?_⟩
 have := hb.2 y hy hne
 unfold beforeB at this ⊢
 rw [h x hb.1, h y hy]; exact this
theorem Rep.congr {σ σ' : Tbl} : ∀ {t : BT} {u : Nat}, (∀ x ∈ t.nodes, σ' x = σ x) → Rep σ t u → Rep σ' t u
  | .nil, _, _, _ => trivial
  | .node f l v r, u, h, ⟨h1, hl, hr, h2, h3, h4⟩ => by
    have hv := h v (by simp [BT.nodes])
    refine ⟨by rw [hv]; exact h1, hl.congr (fun x hx => h x (by simp [BT.nodes, hx])), hr.congr (fun x hx => h x (by simp [BT.nodes, hx])), by rw [hv]; exact h2, ?_, ?_⟩
    · rw [hv, tot_congr (fun x hx => by rw [h x hx])]; exact h3
    · rw [hv]; exact best_congr (fun x hx => by rw [h x hx]) h4
theorem Rep.reup {σ σ' : Tbl} {t : BT} {u u' : Nat} (h : Rep σ t u) (hnd : t.nodes.Nodup) (ho : ∀ x ∈ t.nodes, x ≠ t.root → σ' x = σ x) (hr : t.root ≠ 0 → σ' t.root = { σ t.root with up := u' }) : Rep σ' t u' := by
 cases t with
 | nil => trivial
 | node f l v r => {
 obtain ⟨h1, hl, hrr, h2, h3, h4⟩ := h
 have hv : σ' v = { σ v with up := u' } := hr h1.1
 have hnl : ∀ x ∈ l.nodes, x ≠ v := by {
 intro x hx e; subst e
 simp only [BT.nodes] at hnd
 exact (List.nodup_append.1 hnd).2.2 x hx x (by simp) rfl
 }
 have hnr : ∀ x ∈ r.nodes, x ≠ v := by {
 intro x hx e; subst e
 simp only [BT.nodes] at hnd
 exact (List.nodup_cons.1 (List.nodup_append.1 hnd).2.1).1 hx
 }
 have hlk : ∀ x ∈ (BT.node f l v r).nodes, (σ' x).light = (σ x).light ∧ (σ' x).key = (σ x).key := by {
 intro x hx
 by_cases e : x = v
 · subst e; rw [hv]; exact ⟨rfl, rfl⟩
 · rw [ho x hx e]; exact ⟨rfl, rfl⟩
 }
 refine ⟨by rw [hv]; exact ⟨h1.1, rfl, h1.2.2⟩, hl.congr (fun x hx => ho x (by simp [BT.nodes, hx]) (hnl x hx)), hrr.congr (fun x hx => ho x (by simp [BT.nodes, hx]) (hnr x hx)), by rw [hv]; exact h2, ?_, ?_⟩
 · rw [hv, tot_congr (fun x hx => (hlk x hx).1)]; exact h3
 · rw [hv]; exact best_congr (fun x hx => (hlk x hx).2) h4
 }
theorem wrap64_add (a b : Int) : wrap64 (wrap64 a + wrap64 b) = wrap64 (a + b) := by unfold wrap64; omega
theorem before_total {σ : Tbl} {x y : Nat} (h : x ≠ y) : beforeB σ x y = !beforeB σ y x := by
 unfold beforeB
 by_cases h1 : (σ x).key < (σ y).key
 {
 have h2 : ¬ (σ y).key < (σ x).key := by omega
 have h3 : ¬ (σ y).key = (σ x).key := by omega
 simp [h1, h2, h3]
 }
 {
 by_cases h2 : (σ y).key < (σ x).key
 {
 have h3 : ¬ (σ x).key = (σ y).key := by omega
 simp [h1, h2, h3]
 }
 {
 have h3 : (σ x).key = (σ y).key := by omega
 by_cases h4 : x < y
 {
 have : ¬ y < x := by omega
 simp [h3, h4, this]
 }
 {
 have : y < x := by omega
 simp [h3, h4, this]
 }
 }
 }
theorem before_trans {σ : Tbl} {x y z : Nat} (h1 : beforeB σ x y = true) (h2 : beforeB σ y z = true) : beforeB σ x z = true := by
 unfold beforeB at *
 simp only [Bool.or_eq_true, Bool.and_eq_true, decide_eq_true_eq] at *
 omega
theorem best_join {σ : Tbl} {l m : List Nat} {x y : Nat} (hx : IsBest σ l x) (hy : IsBest σ m y) : IsBest σ (l ++ m) (if beforeB σ y x then y else x) := by
 by_cases hb : beforeB σ y x = true
 {
 rw [if_pos hb]
 refine ⟨by simp [hy.1], fun z hz hne => ?_⟩
 rcases List.mem_append.1 hz with hz | hz
 {
 by_cases e : z = x
 · rw [e]; exact hb
 · exact before_trans hb (hx.2 z hz e)
 }
 · exact hy.2 z hz hne
 }
 {
 rw [if_neg hb]
 refine ⟨by simp [hx.1], fun z hz hne => ?_⟩
 rcases List.mem_append.1 hz with hz | hz
 · exact hx.2 z hz hne
 {
 by_cases e : x = y
 · exact hy.2 z hz (by rw [← e]; exact hne) |> fun h => by rw [e]; exact h
 {
 have hxy : beforeB σ x y = true := by rw [before_total e]; simpa using hb
 by_cases e' : z = y
 · rw [e']; exact hxy
 · exact before_trans hxy (hy.2 z hz e')
 }
 }
 }
theorem best_perm {σ : Tbl} {l m : List Nat} {x : Nat} (h : l.Perm m) (hx : IsBest σ l x) : IsBest σ m x :=
  ⟨h.mem_iff.1 hx.1, fun y hy => hx.2 y (h.mem_iff.2 hy)⟩
theorem refKid_rep {σ : Tbl} {i : Nat} {k : BT} {l : List Nat} (hi : i ∉ k.nodes) (hk : Rep σ k i) (hsz : (σ i).size = wrap64 l.length) (htot : (σ i).total = wrap64 (tot σ l)) (hb : IsBest σ l (σ i).first) :
    (refKid σ i k.root i).size = wrap64 (l ++ k.nodes).length ∧ (refKid σ i k.root i).total = wrap64 (tot σ (l ++ k.nodes)) ∧ IsBest σ (l ++ k.nodes) (refKid σ i k.root i).first := by
 cases k with
 | nil => simpa [refKid, BT.root, BT.nodes] using ⟨hsz, htot, hb⟩
 | node f a v b => {
 obtain ⟨h1, _, _, h2, h3, h4⟩ := hk
 have hvi : v ≠ i := by rintro rfl; exact hi (by simp [BT.nodes])
 have hj := best_join hb h4
 have hbef : ∀ τ : Tbl, (∀ x, (τ x).key = (σ x).key) → ∀ x y, beforeB τ x y = beforeB σ x y := by intro τ hτ x y; unfold beforeB; rw [hτ, hτ]
 have hfirst : (refKid σ i v i).first = if beforeB σ (σ v).first (σ i).first then (σ v).first else (σ i).first := by {
 unfold refKid
 rw [if_neg h1.1]
 simp only [upd_same, upd_other hvi]
 rw [hbef _ (fun x => by by_cases e : x = i <;> simp [Tbl.upd, e])]
 split <;> simp [upd_same]
 }
 have hsize : (refKid σ i v i).size = wrap64 ((σ i).size + (σ v).size) ∧ (refKid σ i v i).total = wrap64 ((σ i).total + (σ v).total) := by {
 unfold refKid
 rw [if_neg h1.1]
 simp only [upd_same, upd_other hvi]
 split <;> simp [upd_same]
 }
 show (refKid σ i v i).size = _ ∧ (refKid σ i v i).total = _ ∧ IsBest σ _ (refKid σ i v i).first
 refine ⟨?_, ?_, ?_⟩
 · rw [hsize.1, hsz, h2, wrap64_add, List.length_append, Int.natCast_add]
 · rw [hsize.2, htot, h3, wrap64_add]; unfold tot; rw [List.map_append, List.sum_append]
 · rw [hfirst]; exact hj
 }
theorem refresh_rep {σ : Tbl} {f : Bool} {l r : BT} {v u : Nat} (hv : v ≠ 0) (hup : (σ v).up = u) (hf : (σ v).flip = f) (h0 : (σ v).k0 = l.root) (h1 : (σ v).k1 = r.root) (hl : Rep σ l v) (hr : Rep σ r v) (nl : v ∉ l.nodes) (nr : v ∉ r.nodes) :
    Rep (refresh σ v) (.node f l v r) u := by
 have hlk := @refresh_links σ v v
 have hc : ∀ x, x ≠ v → refresh σ v x = σ x := fun x hx => refresh_other hx
 have key : (refresh σ v v).size = wrap64 (([v] ++ l.nodes) ++ r.nodes).length ∧ (refresh σ v v).total = wrap64 (tot σ (([v] ++ l.nodes) ++ r.nodes)) ∧ IsBest σ (([v] ++ l.nodes) ++ r.nodes) (refresh σ v v).first := by {
 have a := refKid_rep (σ := ref0 σ v) (i := v) (k := l) (l := [v]) nl (hl.congr (fun x hx => by rw [ref0, upd_other (by rintro rfl; exact nl hx)])) (by simp [ref0, upd_same, wrap64]) (by simp [ref0, upd_same, tot]) (by simp [ref0, upd_same, IsBest])
 have hk0 : ∀ x, (ref0 σ v x).light = (σ x).light ∧ (ref0 σ v x).key = (σ x).key := by {
 intro x; by_cases e : x = v
 · subst e; simp [ref0, upd_same]
 · simp [ref0, upd_other e]
 }
 have hk1 : ∀ x, (refKid (ref0 σ v) v l.root x).light = (σ x).light ∧ (refKid (ref0 σ v) v l.root x).key = (σ x).key := by {
 intro x; have := @refKid_links (ref0 σ v) v l.root x
 exact ⟨this.2.2.2.2.2.trans (hk0 x).1, this.2.2.2.2.1.trans (hk0 x).2⟩
 }
 have b := refKid_rep (σ := refKid (ref0 σ v) v l.root) (i := v) (k := r) (l := [v] ++ l.nodes) nr (hr.congr (fun x hx => by
   have : x ≠ v := by rintro rfl; exact nr hx
   rw [refKid_other this, ref0, upd_other this])) a.1 (by rw [a.2.1, tot_congr (fun x _ => (hk0 x).1), tot_congr (σ' := refKid (ref0 σ v) v l.root) (fun x _ => (hk1 x).1)]) (best_congr (fun x _ => by rw [(hk1 x).2, (hk0 x).2]) a.2.2)
 have e : refresh σ v = refKid (refKid (ref0 σ v) v l.root) v r.root := by {
 show refKid (refKid (ref0 σ v) v (σ v).k0) v (σ v).k1 = _
 rw [h0, h1]
 }
 rw [e]
 refine ⟨b.1, ?_, ?_⟩
 · rw [b.2.1, tot_congr (fun x _ => (hk1 x).1)]
 · exact best_congr (fun x _ => ((hk1 x).2).symm) b.2.2
 }
 have hp : (([v] ++ l.nodes) ++ r.nodes).Perm (l.nodes ++ v :: r.nodes) := by {
 simp only [List.cons_append]
 exact List.perm_middle.symm
 }
 refine ⟨⟨hv, by rw [hlk.2.2.1]; exact hup, by rw [hlk.2.2.2.1]; exact hf, by rw [hlk.1]; exact h0, by rw [hlk.2.1]; exact h1⟩, hl.congr (fun x hx => hc x (by rintro rfl; exact nl hx)), hr.congr (fun x hx => hc x (by rintro rfl; exact nr hx)), ?_, ?_, ?_⟩
 · rw [key.1, hp.length_eq]; rfl
 · rw [key.2.1, tot_congr (σ := σ) (σ' := refresh σ v) (fun x _ => refresh_links.2.2.2.2.2), tot_perm hp]; rfl
 · exact best_congr (fun x _ => refresh_links.2.2.2.2.1) (best_perm hp key.2.2)
theorem hang_at {σ : Tbl} {i s k x : Nat} (hik : k ≠ i) : hang σ i s k x = if x = i then setKid (σ i) s k else if x = k ∧ k ≠ 0 then { σ k with up := i } else σ x := by
 unfold hang
 by_cases hk : k = 0
 {
 simp only [if_pos hk]
 by_cases e : x = i
 · subst e; rw [upd_same, if_pos rfl]
 · rw [upd_other e, if_neg e, if_neg (by simp [hk])]
 }
 {
 simp only [if_neg hk]
 by_cases e : x = k
 · subst e; rw [upd_same, if_neg hik, if_pos ⟨rfl, hk⟩, upd_other hik]
 {
 rw [upd_other e]
 by_cases e' : x = i
 · subst e'; rw [upd_same, if_pos rfl]
 · rw [upd_other e', if_neg e', if_neg (by simp [e])]
 }
 }
theorem kid_setKid (n : Nd) (s k : Nat) : kid (setKid n s k) s = k := by unfold kid setKid; split <;> rfl
theorem kid_setKid_ne {n : Nd} {s s' k : Nat} (hs : s < 2) (hs' : s' < 2) (h : s' ≠ s) : kid (setKid n s k) s' = kid n s' := by
 unfold kid setKid
 rcases (show s = 0 ∨ s = 1 by omega) with rfl | rfl
 · rw [if_neg h, if_neg h]; simp
 {
 obtain rfl : s' = 0 := by omega
 simp
 }
theorem setKid_rest (n : Nd) (s k : Nat) : (setKid n s k).up = n.up ∧ (setKid n s k).flip = n.flip ∧ (setKid n s k).key = n.key ∧ (setKid n s k).size = n.size ∧ (setKid n s k).first = n.first ∧ (setKid n s k).light = n.light ∧ (setKid n s k).total = n.total := by
 unfold setKid; split <;> simp
theorem kid_up (n : Nd) (s u : Nat) : kid { n with up := u } s = kid n s := rfl
theorem rot3_in {σ : Tbl} {i p g s s' : Nat} (_hs : s < 2) (hp : (σ i).up = p) (hg : (σ p).up = g) (h1 : sideOf σ i = (s, true)) (h2 : sideOf σ p = (s', true)) (hpi : p ≠ i) (hgi : g ≠ i) (hgp : g ≠ p) (hi0 : i ≠ 0) (hp0 : p ≠ 0)
    (hki : kid (σ i) (1 - s) ≠ i) (hkp : kid (σ i) (1 - s) ≠ p) (hkg : kid (σ i) (1 - s) ≠ g ∨ kid (σ i) (1 - s) = 0) (x : Nat) :
    rot3 σ i x = if x = i then { setKid (σ i) (1 - s) p with up := g } else if x = p then { setKid (σ p) s (kid (σ i) (1 - s)) with up := i } else if x = g then setKid (σ g) s' i else if x = kid (σ i) (1 - s) ∧ kid (σ i) (1 - s) ≠ 0 then { σ x with up := p } else σ x := by
 have a1 : ∀ x, rot1 σ i x = if x = g then setKid (σ g) s' i else if x = i then { σ i with up := g } else σ x := by {
 intro x
 unfold rot1
 rw [hp, h2, hg, if_pos rfl, hang_at (fun e => hgi e.symm)]
 by_cases e : x = g
 · rw [if_pos e, if_pos e]
 {
 rw [if_neg e, if_neg e]
 by_cases e' : x = i
 · rw [if_pos ⟨e', hi0⟩, if_pos e']
 · rw [if_neg (fun h => e' h.1), if_neg e']
 }
 }
 have hk1 : kid (rot1 σ i i) (1 - s) = kid (σ i) (1 - s) := by rw [a1, if_neg (fun e => hgi e.symm), if_pos rfl, kid_up]
 generalize hk : kid (σ i) (1 - s) = k at *
 have a2 : ∀ x, rot2 σ i x = if x = p then setKid (σ p) s k else if x = k ∧ k ≠ 0 then { rot1 σ i k with up := p } else rot1 σ i x := by {
 intro x
 unfold rot2
 rw [hp, h1, hk1, hang_at hkp]
 have e : rot1 σ i p = σ p := by rw [a1 p, if_neg (fun e => hgp e.symm), if_neg hpi]
 rw [e]
 }
 unfold rot3
 rw [hp, h1, hang_at hpi]
 by_cases e1 : x = i
 {
 subst e1
 rw [if_pos rfl, if_pos rfl, a2, if_neg (fun e => hpi e.symm), if_neg (fun h => hki h.1.symm), a1, if_neg (fun e => hgi e.symm), if_pos rfl]
 dsimp only; unfold setKid; split <;> rfl
 }
 {
 rw [if_neg e1, if_neg e1]
 by_cases e2 : x = p
 {
 subst e2
 rw [if_pos ⟨rfl, hp0⟩, if_pos rfl, a2, if_pos rfl]
 }
 {
 rw [if_neg (fun h => e2 h.1), if_neg e2, a2, if_neg e2]
 by_cases e3 : x = k ∧ k ≠ 0
 {
 have hxg : x ≠ g := by {
 intro e; rcases hkg with h | h
 · exact h (e3.1.symm.trans e)
 · exact e3.2 h
 }
 rw [if_pos e3, if_neg hxg, if_pos e3, ← e3.1, a1, if_neg hxg, if_neg e1]
 }
 {
 rw [if_neg e3, a1]
 by_cases e4 : x = g
 · rw [if_pos e4, if_pos e4]
 · rw [if_neg e4, if_neg e4, if_neg e1, if_neg e3]
 }
 }
 }
theorem rot3_top {σ : Tbl} {i p g s s' : Nat} (_hs : s < 2) (hp : (σ i).up = p) (hg : (σ p).up = g) (h1 : sideOf σ i = (s, true)) (h2 : sideOf σ p = (s', false)) (hpi : p ≠ i) (hi0 : i ≠ 0) (hp0 : p ≠ 0)
    (hki : kid (σ i) (1 - s) ≠ i) (hkp : kid (σ i) (1 - s) ≠ p) (x : Nat) :
    rot3 σ i x = if x = i then { setKid (σ i) (1 - s) p with up := g } else if x = p then { setKid (σ p) s (kid (σ i) (1 - s)) with up := i } else if x = kid (σ i) (1 - s) ∧ kid (σ i) (1 - s) ≠ 0 then { σ x with up := p } else σ x := by
 have a1 : ∀ x, rot1 σ i x = if x = i then { σ i with up := g } else σ x := by {
 intro x
 unfold rot1
 rw [hp, h2, hg, if_neg (by simp)]
 rfl
 }
 have hk1 : kid (rot1 σ i i) (1 - s) = kid (σ i) (1 - s) := by rw [a1, if_pos rfl, kid_up]
 generalize hk : kid (σ i) (1 - s) = k at *
 have a2 : ∀ x, rot2 σ i x = if x = p then setKid (σ p) s k else if x = k ∧ k ≠ 0 then { rot1 σ i k with up := p } else rot1 σ i x := by {
 intro x
 unfold rot2
 rw [hp, h1, hk1, hang_at hkp]
 have e : rot1 σ i p = σ p := by rw [a1 p, if_neg hpi]
 rw [e]
 }
 unfold rot3
 rw [hp, h1, hang_at hpi]
 by_cases e1 : x = i
 {
 subst e1
 rw [if_pos rfl, if_pos rfl, a2, if_neg (fun e => hpi e.symm), if_neg (fun h => hki h.1.symm), a1, if_pos rfl]
 dsimp only; unfold setKid; split <;> rfl
 }
 {
 rw [if_neg e1, if_neg e1]
 by_cases e2 : x = p
 {
 subst e2
 rw [if_pos ⟨rfl, hp0⟩, if_pos rfl, a2, if_pos rfl]
 }
 {
 rw [if_neg (fun h => e2 h.1), if_neg e2, a2, if_neg e2]
 by_cases e3 : x = k ∧ k ≠ 0
 · rw [if_pos e3, if_pos e3, ← e3.1, a1, if_neg e1]
 · rw [if_neg e3, a1, if_neg e1, if_neg e3]
 }
 }
structure Fm where
  s : Bool
  f : Bool
  p : Nat
  o : BT
def Fm.fill (a : Fm) (t : BT) : BT := if a.s then .node a.f a.o a.p t else .node a.f t a.p a.o
def plug : List Fm → BT → BT
  | [], t => t
  | a :: c, t => plug c (a.fill t)
def upOf : List Fm → Nat → Nat
  | [], u => u
  | a :: _, _ => a.p
def sd (b : Bool) : Nat := if b then 1 else 0
def RepC (σ : Tbl) : List Fm → Nat → List Nat → Nat → Prop
  | [], _, _, _ => True
  | a :: c, x, ns, u => (a.p ≠ 0 ∧ (σ a.p).up = upOf c u ∧ (σ a.p).flip = a.f ∧ kid (σ a.p) (sd a.s) = x ∧ kid (σ a.p) (sd !a.s) = a.o.root) ∧ Rep σ a.o a.p ∧
      ((σ a.p).size = wrap64 (ns ++ a.p :: a.o.nodes).length ∧ (σ a.p).total = wrap64 (tot σ (ns ++ a.p :: a.o.nodes)) ∧ IsBest σ (ns ++ a.p :: a.o.nodes) (σ a.p).first) ∧ RepC σ c a.p (ns ++ a.p :: a.o.nodes) u
theorem fill_perm (a : Fm) (t : BT) : (a.fill t).nodes.Perm (t.nodes ++ a.p :: a.o.nodes) := by
 unfold Fm.fill
 cases a.s with
 | false => exact .refl _
 | true => {
 simp only [if_true, BT.nodes]
 refine List.perm_middle.trans (((List.perm_append_comm).cons a.p).trans List.perm_middle.symm)
 }
theorem fill_root (a : Fm) (t : BT) : (a.fill t).root = a.p := by unfold Fm.fill; split <;> rfl
theorem RepC.perm {σ : Tbl} : ∀ {c : List Fm} {x : Nat} {ns ms : List Nat} {u : Nat}, ns.Perm ms → RepC σ c x ns u → RepC σ c x ms u
  | [], _, _, _, _, _, _ => trivial
  | a :: c, x, ns, ms, u, hp, ⟨h1, h2, ⟨h3, h4, h5⟩, h6⟩ => by
    have hq : (ns ++ a.p :: a.o.nodes).Perm (ms ++ a.p :: a.o.nodes) := hp.append_right _
    exact ⟨h1, h2, ⟨by rw [h3, hq.length_eq], by rw [h4, tot_perm hq], best_perm hq h5⟩, h6.perm hq⟩
theorem rep_fill {σ : Tbl} {a : Fm} {t : BT} {u : Nat} : Rep σ (a.fill t) u ↔ Rep σ t a.p ∧ (a.p ≠ 0 ∧ (σ a.p).up = u ∧ (σ a.p).flip = a.f ∧ kid (σ a.p) (sd a.s) = t.root ∧ kid (σ a.p) (sd !a.s) = a.o.root) ∧ Rep σ a.o a.p ∧
      ((σ a.p).size = wrap64 (t.nodes ++ a.p :: a.o.nodes).length ∧ (σ a.p).total = wrap64 (tot σ (t.nodes ++ a.p :: a.o.nodes)) ∧ IsBest σ (t.nodes ++ a.p :: a.o.nodes) (σ a.p).first) := by
 have hp := fill_perm a t
 obtain ⟨s, f, p, o⟩ := a
 cases s with
 | false => {
 simp only [Fm.fill, Rep, kid, sd, Bool.not_false, if_true, Bool.false_eq_true, if_false, BT.nodes, Nat.one_ne_zero]
 constructor
 · rintro ⟨⟨a1, a2, a3, a4, a5⟩, b, c, d⟩; exact ⟨b, ⟨a1, a2, a3, a4, a5⟩, c, d⟩
 · rintro ⟨b, ⟨a1, a2, a3, a4, a5⟩, c, d⟩; exact ⟨⟨a1, a2, a3, a4, a5⟩, b, c, d⟩
 }
 | true => {
 simp only [Fm.fill, if_true, BT.nodes] at hp
 simp only [Fm.fill, Rep, kid, sd, Bool.not_true, if_true, Bool.false_eq_true, if_false, BT.nodes, Nat.one_ne_zero]
 rw [hp.length_eq, tot_perm hp]
 constructor
 · rintro ⟨⟨a1, a2, a3, a4, a5⟩, b, c, d, e, g⟩; exact ⟨c, ⟨a1, a2, a3, a5, a4⟩, b, d, e, best_perm hp g⟩
 · rintro ⟨c, ⟨a1, a2, a3, a5, a4⟩, b, d, e, g⟩; exact ⟨⟨a1, a2, a3, a4, a5⟩, b, c, d, e, best_perm hp.symm g⟩
 }
theorem rep_plug {σ : Tbl} : ∀ {c : List Fm} {t : BT} {u : Nat}, Rep σ (plug c t) u ↔ Rep σ t (upOf c u) ∧ RepC σ c t.root t.nodes u
  | [], t, u => by simp [plug, upOf, RepC]
  | a :: c, t, u => by
    simp only [plug, upOf, RepC]
    rw [rep_plug, rep_fill, fill_root]
    constructor
    · rintro ⟨⟨h1, h2, h3, h4⟩, h5⟩; exact ⟨h1, h2, h3, h4, h5.perm (fill_perm a t)⟩
    · rintro ⟨h1, h2, h3, h4, h5⟩; exact ⟨⟨h1, h2, h3, h4⟩, h5.perm (fill_perm a t).symm⟩
def cnodes : List Fm → List Nat
  | [] => []
  | a :: c => a.p :: a.o.nodes ++ cnodes c
def Out (σ : Tbl) (u : Nat) (ns : List Nat) : Prop := u = 0 ∨ (u ∉ ns ∧ (σ u).k0 ∉ ns ∧ (σ u).k1 ∉ ns)
theorem sd_lt (b : Bool) : sd b < 2 := by cases b <;> decide
theorem sideOf_frame {σ : Tbl} {i p o : Nat} {s : Bool} (_hi : i ≠ 0) (hp : p ≠ 0) (hup : (σ i).up = p) (h1 : kid (σ p) (sd s) = i) (h2 : kid (σ p) (sd !s) = o) (ho : o ≠ i) : sideOf σ i = (sd s, true) := by
 unfold sideOf
 rw [hup, if_neg hp]
 cases s with
 | false => simp only [sd, kid] at h1; rw [if_pos (by simpa using h1)]; rfl
 | true => {
 simp [sd, kid] at h1 h2
 rw [if_neg (by rw [h2]; exact ho), if_pos h1]; rfl
 }
theorem sideOf_out {σ : Tbl} {i u : Nat} {ns : List Nat} (hup : (σ i).up = u) (h : Out σ u ns) (hi : i ∈ ns) : sideOf σ i = (0, false) := by
 unfold sideOf
 rw [hup]
 rcases h with h | ⟨_, h0, h1⟩
 · rw [if_pos h]
 {
 by_cases e : u = 0
 · rw [if_pos e]
 · rw [if_neg e, if_neg (by rintro rfl; exact h0 hi), if_neg (by rintro rfl; exact h1 hi)]
 }
def rotT (a : Fm) (l : BT) (i : Nat) (r : BT) : BT := if a.s then .node false (.node false a.o a.p l) i r else .node false l i (.node false r a.p a.o)
theorem rotT_seq (a : Fm) (hf : a.f = false) (l : BT) (i : Nat) (r : BT) : (rotT a l i r).seq = (a.fill (.node false l i r)).seq := by
 obtain ⟨s, f, p, o⟩ := a
 subst hf
 cases s <;> simp [rotT, Fm.fill, BT.seq]
theorem rotT_nodes (a : Fm) (l : BT) (i : Nat) (r : BT) : (rotT a l i r).nodes = (a.fill (.node false l i r)).nodes := by
 obtain ⟨s, f, p, o⟩ := a
 cases s <;> simp [rotT, Fm.fill, BT.nodes]
theorem plug_seq : ∀ (c : List Fm) {t t' : BT}, t.seq = t'.seq → (plug c t).seq = (plug c t').seq
  | [], _, _, h => h
  | a :: c, t, t', h => plug_seq c (by unfold Fm.fill; split <;> simp [BT.seq, h])
theorem plug_nodes : ∀ (c : List Fm) (t : BT), (plug c t).nodes.Perm (t.nodes ++ cnodes c)
  | [], t => by simp [plug, cnodes]
  | a :: c, t => by
    refine (plug_nodes c (a.fill t)).trans ?_
    simp only [cnodes]
    have := (fill_perm a t).append_right (cnodes c)
    simpa using this
theorem Rep.ne0 {σ : Tbl} : ∀ {t : BT} {u x : Nat}, Rep σ t u → x ∈ t.nodes → x ≠ 0
  | .nil, _, _, _, hx => by cases hx
  | .node f l v r, u, x, ⟨h1, hl, hr, _⟩, hx => by
    simp only [BT.nodes, List.mem_append, List.mem_cons] at hx
    rcases hx with hx | rfl | hx
    · exact hl.ne0 hx
    · exact h1.1
    · exact hr.ne0 hx
theorem RepC.congr {σ σ' : Tbl} : ∀ {c : List Fm} {x : Nat} {ns : List Nat} {u : Nat}, (∀ y ∈ cnodes c, σ' y = σ y) → (∀ y ∈ ns, (σ' y).light = (σ y).light ∧ (σ' y).key = (σ y).key) → RepC σ c x ns u → RepC σ' c x ns u
  | [], _, _, _, _, _, _ => trivial
  | a :: c, x, ns, u, hc, hn, ⟨h1, h2, ⟨h3, h4, h5⟩, h6⟩ => by
    have hp : σ' a.p = σ a.p := hc a.p (by simp [cnodes])
    have ho : ∀ y ∈ a.o.nodes, σ' y = σ y := fun y hy => hc y (by simp [cnodes, hy])
    have hlk : ∀ y ∈ ns ++ a.p :: a.o.nodes, (σ' y).light = (σ y).light ∧ (σ' y).key = (σ y).key := by
      intro y hy
      simp only [List.mem_append, List.mem_cons] at hy
      rcases hy with hy | rfl | hy
      · exact hn y hy
      · rw [hp]; exact ⟨rfl, rfl⟩
      · rw [ho y hy]; exact ⟨rfl, rfl⟩
    refine ⟨by rw [hp]; exact h1, h2.congr ho, ⟨by rw [hp]; exact h3, by rw [hp, tot_congr (fun y hy => (hlk y hy).1)]; exact h4, by rw [hp]; exact best_congr (fun y hy => (hlk y hy).2) h5⟩, ?_⟩
    exact h6.congr (fun y hy => hc y (by simp [cnodes, hy])) hlk
theorem RepC.move {σ σ' : Tbl} {a : Fm} {c : List Fm} {x x' : Nat} {ns : List Nat} {u : Nat} (h : RepC σ (a :: c) x ns u) (hp : σ' a.p = setKid (σ a.p) (sd a.s) x') (hn : ∀ y ∈ ns, (σ' y).light = (σ y).light ∧ (σ' y).key = (σ y).key)
    (ho : ∀ y ∈ a.o.nodes ++ cnodes c, σ' y = σ y) : RepC σ' (a :: c) x' ns u := by
 obtain ⟨⟨h1, h1a, h1b, h1c, h1d⟩, h2, ⟨h3, h4, h5⟩, h6⟩ := h
 have hr := setKid_rest (σ a.p) (sd a.s) x'
 have hlk : ∀ y ∈ ns ++ a.p :: a.o.nodes, (σ' y).light = (σ y).light ∧ (σ' y).key = (σ y).key := by {
 intro y hy
 simp only [List.mem_append, List.mem_cons] at hy
 rcases hy with hy | rfl | hy
 · exact hn y hy
 · rw [hp]; exact ⟨hr.2.2.2.2.2.1, hr.2.2.1⟩
 · rw [ho y (by simp [hy])]; exact ⟨rfl, rfl⟩
 }
 refine ⟨⟨h1, by rw [hp, hr.1]; exact h1a, by rw [hp, hr.2.1]; exact h1b, by rw [hp, kid_setKid], ?_⟩, h2.congr (fun y hy => ho y (by simp [hy])), ⟨by rw [hp, hr.2.2.2.1]; exact h3, ?_, ?_⟩, ?_⟩
 · rw [hp, kid_setKid_ne (sd_lt _) (sd_lt _) (by cases a.s <;> decide)]; exact h1d
 · rw [hp, hr.2.2.2.2.2.2, tot_congr (fun y hy => (hlk y hy).1)]; exact h4
 · rw [hp, hr.2.2.2.2.1]; exact best_congr (fun y hy => (hlk y hy).2) h5
 · exact h6.congr (fun y hy => ho y (by simp [hy])) hlk
structure Rotated (σ σ' : Tbl) (ns : List Nat) : Prop where
  other : ∀ x, x ∉ ns → σ' x = σ x
  lk : ∀ x, (σ' x).light = (σ x).light ∧ (σ' x).key = (σ x).key
theorem rotate_rep {σ : Tbl} {a : Fm} {c : List Fm} {l r : BT} {i u : Nat} (h : Rep σ (plug (a :: c) (.node false l i r)) u) (haf : a.f = false) (hnd : (plug (a :: c) (.node false l i r)).nodes.Nodup)
    (hO : Out σ u (plug (a :: c) (.node false l i r)).nodes) :
    Rep (rotate σ i) (plug c (rotT a l i r)) u ∧ Rotated σ (rotate σ i) (plug (a :: c) (.node false l i r)).nodes ∧
      ((rot3 σ i (σ i).up).k0 ≠ (σ i).up ∧ (rot3 σ i (σ i).up).k1 ≠ (σ i).up ∧ (rot3 σ i i).k0 ≠ i ∧ (rot3 σ i i).k1 ≠ i) := by
  have hpm := plug_nodes (a :: c) (.node false l i r)
  have hnd' := hpm.nodup_iff.1 hnd
  have hmem : ∀ x, x ∈ (plug (a :: c) (.node false l i r)).nodes ↔ x ∈ (BT.node false l i r).nodes ++ cnodes (a :: c) := fun x => hpm.mem_iff
  have hall0 : ∀ x, x ∈ (plug (a :: c) (.node false l i r)).nodes → x ≠ 0 := fun x hx => h.ne0 hx
  obtain ⟨hT, hC⟩ := rep_plug.1 h
  generalize hNS : (plug (a :: c) (BT.node false l i r)).nodes = NS at *
  obtain ⟨s, f, p, o⟩ := a
  dsimp only at haf; subst haf
  obtain ⟨⟨hi0, hiu, hif, hik0, hik1⟩, hl, hr, _⟩ := hT
  obtain ⟨⟨hp0, hpu, hpf, hpk, hpo⟩, hRo, _, hC'⟩ := id hC
  simp only [upOf] at hiu hl hr
  dsimp only at hp0 hpu hpf hpk hpo hRo hC'
  replace hpk : kid (σ p) (sd s) = i := hpk
  simp only [cnodes, BT.nodes, List.nodup_append, List.nodup_cons, List.mem_append, List.mem_cons, List.cons_append, List.append_assoc] at hnd' hmem
  have dil : i ∉ l.nodes := by grind
  have dir : i ∉ r.nodes := by grind
  have dio : i ∉ o.nodes := by grind
  have dic : i ∉ cnodes c := by grind
  have dpi : p ≠ i := by grind
  have dpl : p ∉ l.nodes := by grind
  have dpr : p ∉ r.nodes := by grind
  have dpo : p ∉ o.nodes := by grind
  have dpc : p ∉ cnodes c := by grind
  have ndl : l.nodes.Nodup := by grind
  have ndr : r.nodes.Nodup := by grind
  have dlr : ∀ x ∈ l.nodes, x ∉ r.nodes := by grind
  have dlo : ∀ x ∈ l.nodes, x ∉ o.nodes := by grind
  have dro : ∀ x ∈ r.nodes, x ∉ o.nodes := by grind
  have dlc : ∀ x ∈ l.nodes, x ∉ cnodes c := by grind
  have drc : ∀ x ∈ r.nodes, x ∉ cnodes c := by grind
  have doc : ∀ x ∈ o.nodes, x ∉ cnodes c := by grind
  have h1 : sideOf σ i = (sd s, true) := by
    refine sideOf_frame hi0 hp0 hiu hpk hpo ?_
    intro e
    by_cases h0 : o.root = 0
    · exact hi0 (e.symm.trans h0)
    · exact dio (e ▸ BT.root_mem h0)
  obtain ⟨m, hm, hmn, hmr⟩ : ∃ m : BT, m = (if s then l else r) ∧ (∀ x ∈ m.nodes, x ∈ l.nodes ∨ x ∈ r.nodes) ∧ kid (σ i) (1 - sd s) = m.root := by
    cases s with
    | false => exact ⟨r, rfl, fun x hx => .inr hx, by simpa [sd, kid] using hik1⟩
    | true => exact ⟨l, rfl, fun x hx => .inl hx, by simpa [sd, kid] using hik0⟩
  have hRm : Rep σ m i := by rw [hm]; split <;> assumption
  have ndm : m.nodes.Nodup := by rw [hm]; split <;> assumption
  have hki : kid (σ i) (1 - sd s) ≠ i := by
    rw [hmr]; intro e
    have := hmn _ (BT.root_mem (by rw [e]; exact hi0)); rw [e] at this
    exact this.elim dil dir
  have hkp : kid (σ i) (1 - sd s) ≠ p := by
    rw [hmr]; intro e
    have := hmn _ (BT.root_mem (by rw [e]; exact hp0)); rw [e] at this
    exact this.elim dpl dpr
  have key : (∀ x, x ≠ i → x ≠ p → (x ≠ m.root ∨ m.root = 0) → (c = [] ∨ x ≠ upOf c u) → rot3 σ i x = σ x) ∧ rot3 σ i i = { setKid (σ i) (1 - sd s) p with up := upOf c u } ∧ rot3 σ i p = { setKid (σ p) (sd s) m.root with up := i } ∧
      (m.root ≠ 0 → rot3 σ i m.root = { σ m.root with up := p }) ∧ (∀ b c', c = b :: c' → rot3 σ i b.p = setKid (σ b.p) (sd b.s) i) := by
    cases c with
    | nil =>
      have h2 : sideOf σ p = (0, false) := sideOf_out (ns := NS) (by rw [hpu]; rfl) hO ((hmem p).2 (by simp))
      have hx := rot3_top (sd_lt s) hiu (by rw [hpu]) h1 h2 dpi hi0 hp0 hki hkp
      rw [hmr] at hx hki hkp
      refine ⟨fun x e1 e2 e3 _ => ?_, ?_, ?_, fun hm0 => ?_, fun b c' e => by cases e⟩
      · rw [hx, if_neg e1, if_neg e2, if_neg (fun h => e3.elim (fun e => e h.1) h.2)]
      · rw [hx, if_pos rfl]
      · rw [hx, if_neg dpi, if_pos rfl]
      · rw [hx, if_neg hki, if_neg hkp, if_pos ⟨rfl, hm0⟩]
    | cons b c' =>
      obtain ⟨⟨hb0, hbu, hbf, hbk, hbo⟩, hRb, _, _⟩ := hC'
      simp only [upOf] at hpu
      have hbc : b.p ∈ cnodes (b :: c') := by simp [cnodes]
      have dbi : b.p ≠ i := fun e => dic (e ▸ hbc)
      have dbp : b.p ≠ p := fun e => dpc (e ▸ hbc)
      have h2 : sideOf σ p = (sd b.s, true) := by
        refine sideOf_frame hp0 hb0 hpu hbk hbo ?_
        intro e
        by_cases h0 : b.o.root = 0
        · exact hp0 (e.symm.trans h0)
        · exact dpc (by simp only [cnodes, List.cons_append, List.mem_cons, List.mem_append]; exact .inr (.inl (e ▸ BT.root_mem h0)))
      have hkg : kid (σ i) (1 - sd s) ≠ b.p ∨ kid (σ i) (1 - sd s) = 0 := by
        rw [hmr]
        by_cases h0 : m.root = 0
        · exact .inr h0
        · refine .inl (fun e => ?_)
          have := hmn _ (BT.root_mem h0); rw [e] at this
          exact this.elim (fun h => dlc _ h hbc) (fun h => drc _ h hbc)
      have hx := rot3_in (sd_lt s) hiu hpu h1 h2 dpi dbi dbp hi0 hp0 hki hkp hkg
      rw [hmr] at hx hki hkp hkg
      refine ⟨fun x e1 e2 e3 e4 => ?_, ?_, ?_, fun hm0 => ?_, fun b' c'' e => ?_⟩
      · rw [hx, if_neg e1, if_neg e2, if_neg (show x ≠ b.p from e4.elim (fun h => by cases h) id), if_neg (fun h => e3.elim (fun e => e h.1) h.2)]
      · rw [hx, if_pos rfl]; rfl
      · rw [hx, if_neg dpi, if_pos rfl]
      · rw [hx, if_neg hki, if_neg hkp, if_neg (hkg.elim id (fun h => absurd h hm0)), if_pos ⟨rfl, hm0⟩]
      · cases e; rw [hx, if_neg dbi, if_neg dbp, if_pos rfl]
  obtain ⟨k1, k2, k3, k4, k5⟩ := key
  have hupc : c = [] ∨ upOf c u ∈ cnodes c := by cases c with
    | nil => exact .inl rfl
    | cons b c' => right; simp [upOf, cnodes]
  have dmi : ∀ x ∈ m.nodes, x ≠ i := fun x hx e => (hmn x hx).elim (fun h => dil (e ▸ h)) (fun h => dir (e ▸ h))
  have dmp : ∀ x ∈ m.nodes, x ≠ p := fun x hx e => (hmn x hx).elim (fun h => dpl (e ▸ h)) (fun h => dpr (e ▸ h))
  have dmc : ∀ x ∈ m.nodes, c = [] ∨ x ≠ upOf c u := fun x hx => hupc.imp id (fun hc e => (hmn x hx).elim (fun h => dlc _ h (e ▸ hc)) (fun h => drc _ h (e ▸ hc)))
  have hRm3 : Rep (rot3 σ i) m p := hRm.reup ndm (fun x hx hne => k1 x (dmi x hx) (dmp x hx) (.inl hne) (dmc x hx)) k4
  have hRo3 : Rep (rot3 σ i) o p := hRo.congr (fun x hx => k1 x (fun e => dio (e ▸ hx)) (fun e => dpo (e ▸ hx)) (.inl (fun e => by
    have h0 : m.root ≠ 0 := by rw [← e]; exact hRo.ne0 hx
    exact (hmn _ (BT.root_mem h0)).elim (fun h => dlo _ h (e ▸ hx)) (fun h => dro _ h (e ▸ hx)))) (hupc.imp id (fun hc e => doc x hx (e ▸ hc))))
  have hsr := setKid_rest (σ p) (sd s) m.root
  have hsi := setKid_rest (σ i) (1 - sd s) p
  have nmp : p ∉ m.nodes := fun hx => dmp p hx rfl
  have hP : Rep (refresh (rot3 σ i) p) (if s then .node false o p m else .node false m p o) i := by
    have hk : kid (rot3 σ i p) (sd s) = m.root ∧ kid (rot3 σ i p) (sd !s) = o.root := by
      rw [k3]
      refine ⟨kid_setKid _ _ _, ?_⟩
      show kid (setKid _ _ _) _ = _
      rw [kid_setKid_ne (sd_lt _) (sd_lt _) (by cases s <;> decide)]; exact hpo
    cases s with
    | false => exact refresh_rep hp0 (by rw [k3]) (by rw [k3]; exact hsr.2.1.trans hpf) (by simpa [sd, kid] using hk.1) (by simpa [sd, kid] using hk.2) hRm3 hRo3 nmp dpo
    | true => exact refresh_rep hp0 (by rw [k3]) (by rw [k3]; exact hsr.2.1.trans hpf) (by simpa [sd, kid] using hk.2) (by simpa [sd, kid] using hk.1) hRo3 hRm3 dpo nmp
  have r2 : ∀ x, x ≠ p → refresh (rot3 σ i) p x = rot3 σ i x := fun x hx => refresh_other hx
  have hI : ∀ (e : BT), Rep σ e i → (∀ x ∈ e.nodes, x ∉ m.nodes ∧ x ≠ i ∧ x ≠ p ∧ x ∉ cnodes c) → Rep (refresh (rot3 σ i) p) e i := by
    intro e he hd
    refine he.congr (fun x hx => ?_)
    obtain ⟨d1, d2, d3, d4⟩ := hd x hx
    rw [r2 x d3]
    refine k1 x d2 d3 (.inl (fun e' => ?_)) (hupc.imp id (fun hc e' => d4 (e' ▸ hc)))
    exact d1 (e' ▸ BT.root_mem (by rw [← e']; exact he.ne0 hx))
  have hT2 : Rep (rotate σ i) (rotT ⟨s, false, p, o⟩ l i r) (upOf c u) := by
    unfold rotate
    rw [hiu]
    have hi3 : refresh (rot3 σ i) p i = { setKid (σ i) (1 - sd s) p with up := upOf c u } := by rw [r2 i dpi.symm, k2]
    cases s with
    | false =>
      simp only [Bool.false_eq_true, if_false] at hP hm
      subst hm
      refine refresh_rep hi0 (by rw [hi3]) (by rw [hi3]; exact hsi.2.1.trans hif) (by rw [hi3]; simpa [setKid, sd] using hik0) (by rw [hi3]; simp [setKid, sd, BT.root]) (hI l hl (fun x hx => ⟨dlr x hx, fun e => dil (e ▸ hx), fun e => dpl (e ▸ hx), dlc x hx⟩)) hP dil ?_
      simp only [BT.nodes, List.mem_append, List.mem_cons, not_or]; exact ⟨dir, dpi.symm, dio⟩
    | true =>
      simp only [if_true] at hP hm
      subst hm
      refine refresh_rep hi0 (by rw [hi3]) (by rw [hi3]; exact hsi.2.1.trans hif) (by rw [hi3]; simp [setKid, sd, BT.root]) (by rw [hi3]; simpa [setKid, sd] using hik1) hP (hI r hr (fun x hx => ⟨fun h => dlr x h hx, fun e => dir (e ▸ hx), fun e => dpr (e ▸ hx), drc x hx⟩)) ?_ dir
      simp only [BT.nodes, List.mem_append, List.mem_cons, not_or]; exact ⟨dio, dpi.symm, dil⟩
  have hR : ∀ x, x ≠ i → x ≠ p → rotate σ i x = rot3 σ i x := by
    intro x e1 e2
    unfold rotate; rw [refresh_other e1, hiu, refresh_other e2]
  have hlk3 : ∀ x, (rot3 σ i x).light = (σ x).light ∧ (rot3 σ i x).key = (σ x).key := by
    intro x
    by_cases e1 : x = i
    · subst e1; rw [k2]; exact ⟨hsi.2.2.2.2.2.1, hsi.2.2.1⟩
    by_cases e2 : x = p
    · subst e2; rw [k3]; exact ⟨hsr.2.2.2.2.2.1, hsr.2.2.1⟩
    by_cases e3 : c = [] ∨ x ≠ upOf c u
    · by_cases e4 : x ≠ m.root ∨ m.root = 0
      · rw [k1 x e1 e2 e4 e3]; exact ⟨rfl, rfl⟩
      · simp only [not_or, ne_eq, Classical.not_not] at e4
        rw [e4.1, k4 e4.2]; exact ⟨rfl, rfl⟩
    · cases c with
      | nil => exact absurd (.inl rfl) e3
      | cons b c' =>
        have e4 : x = b.p := by
          apply Classical.byContradiction; intro hne; exact e3 (.inr hne)
        rw [e4, k5 b c' rfl]
        have := setKid_rest (σ b.p) (sd b.s) i
        exact ⟨this.2.2.2.2.2.1, this.2.2.1⟩
  have hlk : ∀ x, (rotate σ i x).light = (σ x).light ∧ (rotate σ i x).key = (σ x).key := by
    intro x
    unfold rotate
    have a := @refresh_links (refresh (rot3 σ i) (σ i).up) i x
    have b := @refresh_links (rot3 σ i) (σ i).up x
    exact ⟨a.2.2.2.2.2.trans (b.2.2.2.2.2.trans (hlk3 x).1), a.2.2.2.2.1.trans (b.2.2.2.2.1.trans (hlk3 x).2)⟩
  refine ⟨rep_plug.2 ⟨hT2, ?_⟩, ⟨fun x hx => ?_, hlk⟩, ?_⟩
  · rw [rotT_nodes, show (rotT ⟨s, false, p, o⟩ l i r).root = i by unfold rotT; split <;> rfl]
    have hC2 : RepC σ c p (Fm.fill ⟨s, false, p, o⟩ (.node false l i r)).nodes u := hC'.perm (fill_perm ⟨s, false, p, o⟩ (.node false l i r)).symm
    cases c with
    | nil => trivial
    | cons b c' =>
      have hbc : b.p ∈ cnodes (b :: c') := by simp [cnodes]
      refine hC2.move ?_ (fun y _ => hlk y) (fun y hy => ?_)
      · rw [hR _ (fun e => dic (e ▸ hbc)) (fun e => dpc (e ▸ hbc)), k5 b c' rfl]
      · have hyc : y ∈ cnodes (b :: c') := by simp only [cnodes, List.cons_append, List.mem_cons]; exact .inr hy
        have hbn : y ≠ b.p := by
          have : b.p ∉ b.o.nodes ++ cnodes c' := by
            have := hnd'.2.1
            simp only [cnodes, List.cons_append, List.nodup_append, List.nodup_cons, List.mem_append] at this
            simp only [List.mem_append]; grind
          exact fun e => this (e ▸ hy)
        have e1 : y ≠ i := fun e => dic (e ▸ hyc)
        have e2 : y ≠ p := fun e => dpc (e ▸ hyc)
        rw [hR y e1 e2]
        refine k1 y e1 e2 ?_ (.inr hbn)
        by_cases h0 : m.root = 0
        · exact .inr h0
        · exact .inl (fun e => (hmn _ (BT.root_mem h0)).elim (fun h => dlc _ h (e ▸ hyc)) (fun h => drc _ h (e ▸ hyc)))
  · have hx' : ¬ (x ∈ l.nodes ∨ x = i ∨ x ∈ r.nodes ∨ x = p ∨ x ∈ o.nodes ∨ x ∈ cnodes c) := fun h => hx ((hmem x).2 (by grind))
    simp only [not_or] at hx'
    obtain ⟨e1, e2, e3, e4, e5, e6⟩ := hx'
    rw [hR x e2 e4]
    refine k1 x e2 e4 ?_ (hupc.imp id (fun hc e => e6 (e ▸ hc)))
    by_cases h00 : m.root = 0
    · exact .inr h00
    · exact .inl (fun h0 => (hmn _ (BT.root_mem h00)).elim (fun h => e1 (h0 ▸ h)) (fun h => e3 (h0 ▸ h)))
  · rw [hiu, k3, k2]
    refine ⟨?_, ?_, ?_, ?_⟩
    · cases s with
      | false => simp only [setKid, sd, Bool.false_eq_true, if_false, if_true]; rw [← hmr]; exact hkp
      | true =>
        simp [sd, kid] at hpo
        simp [setKid, sd]; rw [hpo]
        intro e; exact dpo (e ▸ BT.root_mem (by rw [e]; exact hp0))
    · cases s with
      | false =>
        simp [sd, kid] at hpo
        simp [setKid, sd]; rw [hpo]
        intro e; exact dpo (e ▸ BT.root_mem (by rw [e]; exact hp0))
      | true => simp [setKid, sd]; rw [← hmr]; exact hkp
    · cases s with
      | false =>
        simp [setKid, sd]; rw [hik0]
        intro e; exact dil (e ▸ BT.root_mem (by rw [e]; exact hi0))
      | true => simp [setKid, sd]; exact dpi
    · cases s with
      | false => simp [setKid, sd]; exact dpi
      | true =>
        simp [setKid, sd]; rw [hik1]
        intro e; exact dir (e ▸ BT.root_mem (by rw [e]; exact hi0))
end Go.Proofs.YtgmnemndjjmgkaaGreat
