/- lct: refresh. -/
import Derived.Test.YtoppjjgecgbbkaaLctMem
namespace Go.Proofs.Ytoppjjgecgbbkaa
open Go.RowKit

/-- What is kept of a subtree is joined with that of a kid. -/
def refKid (σ : Tbl) (i k : Nat) : Tbl :=
  if k = 0 then σ else
    let σ1 := σ.upd i { σ i with size := wrap64 ((σ i).size + (σ k).size) }
    let σ2 := σ1.upd i { σ1 i with total := wrap64 ((σ1 i).total + (σ1 k).total) }
    if beforeB σ2 (σ2 k).first (σ2 i).first then σ2.upd i { σ2 i with first := (σ2 k).first } else σ2
def ref0 (σ : Tbl) (i : Nat) : Tbl := σ.upd i { σ i with size := 1, first := i, total := wrap64 (1 + (σ i).light) }
def refT (σ : Tbl) (i : Nat) : Nat → Tbl
  | 0 => ref0 σ i
  | 1 => refKid (ref0 σ i) i (σ i).k0
  | _ => refKid (refKid (ref0 σ i) i (σ i).k0) i (σ i).k1
def refresh (σ : Tbl) (i : Nat) : Tbl := refT σ i 2

theorem upd_same (σ : Tbl) (i : Nat) (n : Nd) : σ.upd i n i = n := by simp [Tbl.upd]
theorem upd_other {σ : Tbl} {i j : Nat} {n : Nd} (h : j ≠ i) : σ.upd i n j = σ j := by simp [Tbl.upd, h]

/-- All places are places of the table. -/
def InR (N : Nat) (σ : Tbl) : Prop := ∀ i, i < N → (σ i).k0 < N ∧ (σ i).k1 < N ∧ (σ i).up < N ∧ (σ i).first < N

theorem refKid_other {σ : Tbl} {i k j : Nat} (h : j ≠ i) : refKid σ i k j = σ j := by
  unfold refKid
  by_cases hk : k = 0
  · rw [if_pos hk]
  · rw [if_neg hk]; dsimp only; split <;> simp [upd_other h]
theorem refKid_links {σ : Tbl} {i k j : Nat} : (refKid σ i k j).k0 = (σ j).k0 ∧ (refKid σ i k j).k1 = (σ j).k1 ∧ (refKid σ i k j).up = (σ j).up ∧ (refKid σ i k j).flip = (σ j).flip ∧ (refKid σ i k j).key = (σ j).key ∧ (refKid σ i k j).light = (σ j).light := by
  by_cases h : j = i
  · subst h
    unfold refKid
    by_cases hk : k = 0
    · rw [if_pos hk]; simp
    · rw [if_neg hk]; dsimp only; split <;> simp [upd_same]
  · rw [refKid_other h]; simp
theorem refKid_inR {N : Nat} {σ : Tbl} {i k : Nat} (h : InR N σ) (hi : i < N) (hk : k < N) (hki : k ≠ i) : InR N (refKid σ i k) := by
  intro j hj
  obtain ⟨a, b, c, _⟩ := @refKid_links σ i k j
  rw [a, b, c]
  refine ⟨(h j hj).1, (h j hj).2.1, (h j hj).2.2.1, ?_⟩
  by_cases e : j = i
  · subst e
    unfold refKid
    by_cases hk0 : k = 0
    · rw [if_pos hk0]; exact (h j hj).2.2.2
    · rw [if_neg hk0]; dsimp only; split
      · simp [upd_same, upd_other hki]; exact (h k hk).2.2.2
      · simp [upd_same]; exact (h j hj).2.2.2
  · rw [refKid_other e]; exact (h j hj).2.2.2
theorem ref0_inR {N : Nat} {σ : Tbl} {i : Nat} (h : InR N σ) (hi : i < N) : InR N (ref0 σ i) := by
  intro j hj
  by_cases e : j = i
  · subst e; simp only [ref0, upd_same]; exact ⟨(h j hj).1, (h j hj).2.1, (h j hj).2.2.1, hi⟩
  · simp only [ref0, upd_other e]; exact h j hj
theorem refT_inR {N : Nat} {σ : Tbl} {i : Nat} (h : InR N σ) (hi : i < N) (h0 : (σ i).k0 ≠ i) (h1 : (σ i).k1 ≠ i) (t : Nat) : InR N (refT σ i t) := by
  match t with
  | 0 => exact ref0_inR h hi
  | 1 => exact refKid_inR (ref0_inR h hi) hi (h i hi).1 h0
  | t + 2 => exact refKid_inR (refKid_inR (ref0_inR h hi) hi (h i hi).1 h0) hi (h i hi).2.1 h1

theorem LctAt.store {w w0 : World} {pf g N cap : Nat} {σ : Tbl} {ed : Int} (h : LctAt w pf g N cap σ ed) (hF : Fr [g] w0 w) {i f : Nat} (hi : i < N) (hf : f < 9) (n : Nd) (v : Value) (hv : fv n f = v) (ho : ∀ f', f' < 9 → f' ≠ f → fv n f' = fv (σ i) f') :
    LctAt (w.setCell ⟨g, i * 9 + f, none⟩ v) pf g N cap (σ.upd i n) ed ∧ Fr [g] w0 (w.setCell ⟨g, i * 9 + f, none⟩ v) :=
  ⟨⟨h.hd.other _ _ h.ne, h.nodes.store hi hf n v hv ho, h.ne, h.le, h.cap⟩, hF.setCell _ _ (.inl (by simp))⟩
theorem LctAt.eqv {w w' : World} {pf g N cap : Nat} {σ : Tbl} {ed : Int} (h : LctAt w pf g N cap σ ed) (e : Eqv w' w) : LctAt w' pf g N cap σ ed :=
  ⟨e.blk h.hd, h.nodes.eqv e, h.ne, h.le, h.cap⟩

section
variable {w w0 : World} {pf g N cap : Nat} {σ : Tbl} {ed : Int} (h : LctAt w pf g N cap σ ed) (hF : Fr [g] w0 w) {i : Nat} (hi : i < N)
include h hF hi
theorem LctAt.st0 (x : Nat) : LctAt (w.setCell ⟨g, i * 9, none⟩ (.int .i64 x)) pf g N cap (σ.upd i { σ i with k0 := x }) ed ∧ Fr [g] w0 (w.setCell ⟨g, i * 9, none⟩ (.int .i64 x)) :=
  h.store hF hi (f := 0) (by decide) _ _ rfl (by intro f' h1 h2; match f', h1, h2 with | 1, _, _ => rfl | 2, _, _ => rfl | 3, _, _ => rfl | 4, _, _ => rfl | 5, _, _ => rfl | 6, _, _ => rfl | 7, _, _ => rfl | _ + 8, _, _ => rfl)
theorem LctAt.st1 (x : Nat) : LctAt (w.setCell ⟨g, i * 9 + 1, none⟩ (.int .i64 x)) pf g N cap (σ.upd i { σ i with k1 := x }) ed ∧ Fr [g] w0 (w.setCell ⟨g, i * 9 + 1, none⟩ (.int .i64 x)) :=
  h.store hF hi (f := 1) (by decide) _ _ rfl (by intro f' h1 h2; match f', h1, h2 with | 0, _, _ => rfl | 2, _, _ => rfl | 3, _, _ => rfl | 4, _, _ => rfl | 5, _, _ => rfl | 6, _, _ => rfl | 7, _, _ => rfl | _ + 8, _, _ => rfl)
theorem LctAt.st2 (x : Nat) : LctAt (w.setCell ⟨g, i * 9 + 2, none⟩ (.int .i64 x)) pf g N cap (σ.upd i { σ i with up := x }) ed ∧ Fr [g] w0 (w.setCell ⟨g, i * 9 + 2, none⟩ (.int .i64 x)) :=
  h.store hF hi (f := 2) (by decide) _ _ rfl (by intro f' h1 h2; match f', h1, h2 with | 0, _, _ => rfl | 1, _, _ => rfl | 3, _, _ => rfl | 4, _, _ => rfl | 5, _, _ => rfl | 6, _, _ => rfl | 7, _, _ => rfl | _ + 8, _, _ => rfl)
theorem LctAt.st3 (x : Bool) : LctAt (w.setCell ⟨g, i * 9 + 3, none⟩ (.bool x)) pf g N cap (σ.upd i { σ i with flip := x }) ed ∧ Fr [g] w0 (w.setCell ⟨g, i * 9 + 3, none⟩ (.bool x)) :=
  h.store hF hi (f := 3) (by decide) _ _ rfl (by intro f' h1 h2; match f', h1, h2 with | 0, _, _ => rfl | 1, _, _ => rfl | 2, _, _ => rfl | 4, _, _ => rfl | 5, _, _ => rfl | 6, _, _ => rfl | 7, _, _ => rfl | _ + 8, _, _ => rfl)
theorem LctAt.st4 (x : Int) : LctAt (w.setCell ⟨g, i * 9 + 4, none⟩ (.int .i64 x)) pf g N cap (σ.upd i { σ i with key := x }) ed ∧ Fr [g] w0 (w.setCell ⟨g, i * 9 + 4, none⟩ (.int .i64 x)) :=
  h.store hF hi (f := 4) (by decide) _ _ rfl (by intro f' h1 h2; match f', h1, h2 with | 0, _, _ => rfl | 1, _, _ => rfl | 2, _, _ => rfl | 3, _, _ => rfl | 5, _, _ => rfl | 6, _, _ => rfl | 7, _, _ => rfl | _ + 8, _, _ => rfl)
theorem LctAt.st5 (x : Int) : LctAt (w.setCell ⟨g, i * 9 + 5, none⟩ (.int .i64 x)) pf g N cap (σ.upd i { σ i with size := x }) ed ∧ Fr [g] w0 (w.setCell ⟨g, i * 9 + 5, none⟩ (.int .i64 x)) :=
  h.store hF hi (f := 5) (by decide) _ _ rfl (by intro f' h1 h2; match f', h1, h2 with | 0, _, _ => rfl | 1, _, _ => rfl | 2, _, _ => rfl | 3, _, _ => rfl | 4, _, _ => rfl | 6, _, _ => rfl | 7, _, _ => rfl | _ + 8, _, _ => rfl)
theorem LctAt.st6 (x : Nat) : LctAt (w.setCell ⟨g, i * 9 + 6, none⟩ (.int .i64 x)) pf g N cap (σ.upd i { σ i with first := x }) ed ∧ Fr [g] w0 (w.setCell ⟨g, i * 9 + 6, none⟩ (.int .i64 x)) :=
  h.store hF hi (f := 6) (by decide) _ _ rfl (by intro f' h1 h2; match f', h1, h2 with | 0, _, _ => rfl | 1, _, _ => rfl | 2, _, _ => rfl | 3, _, _ => rfl | 4, _, _ => rfl | 5, _, _ => rfl | 7, _, _ => rfl | _ + 8, _, _ => rfl)
theorem LctAt.st7 (x : Int) : LctAt (w.setCell ⟨g, i * 9 + 7, none⟩ (.int .i64 x)) pf g N cap (σ.upd i { σ i with light := x }) ed ∧ Fr [g] w0 (w.setCell ⟨g, i * 9 + 7, none⟩ (.int .i64 x)) :=
  h.store hF hi (f := 7) (by decide) _ _ rfl (by intro f' h1 h2; match f', h1, h2 with | 0, _, _ => rfl | 1, _, _ => rfl | 2, _, _ => rfl | 3, _, _ => rfl | 4, _, _ => rfl | 5, _, _ => rfl | 6, _, _ => rfl | _ + 8, _, _ => rfl)
theorem LctAt.st8 (x : Int) : LctAt (w.setCell ⟨g, i * 9 + 8, none⟩ (.int .i64 x)) pf g N cap (σ.upd i { σ i with total := x }) ed ∧ Fr [g] w0 (w.setCell ⟨g, i * 9 + 8, none⟩ (.int .i64 x)) :=
  h.store hF hi (f := 8) (by decide) _ _ rfl (by intro f' h1 h2; match f', h1, h2 with | 0, _, _ => rfl | 1, _, _ => rfl | 2, _, _ => rfl | 3, _, _ => rfl | 4, _, _ => rfl | 5, _, _ => rfl | 6, _, _ => rfl | 7, _, _ => rfl | m + 8, h1, h2 => exact absurd (show m + 8 = 8 by omega) h2)
end

set_option maxRecDepth 10000
set_option maxHeartbeats 400000

theorem idx_kids0 (x y : Value) (w : World) : (Instr.index 30 (.agg #[x, y]) (.int .i64 0)).run Try.prog w = .ok x w := by kernel_rfl
theorem idx_kids1 (x y : Value) (w : World) : (Instr.index 30 (.agg #[x, y]) (.int .i64 1)).run Try.prog w = .ok y w := by kernel_rfl

/-- The stores that refresh begins with. -/
theorem ref0_mem {w : World} {pf g N cap : Nat} {σ : Tbl} {ed : Int} (h : LctAt w pf g N cap σ ed) {i : Nat} (hi : i < N) :
    LctAt (((w.setCell ⟨g, i * 9 + 5, none⟩ (.int .i64 1)).setCell ⟨g, i * 9 + 6, none⟩ (.int .i64 i)).setCell ⟨g, i * 9 + 8, none⟩ (.int .i64 (wrap64 (1 + (σ i).light)))) pf g N cap (ref0 σ i) ed ∧
      Fr [g] w (((w.setCell ⟨g, i * 9 + 5, none⟩ (.int .i64 1)).setCell ⟨g, i * 9 + 6, none⟩ (.int .i64 i)).setCell ⟨g, i * 9 + 8, none⟩ (.int .i64 (wrap64 (1 + (σ i).light)))) := by
  obtain ⟨h1, f1⟩ := h.st5 (Fr.refl _ _) hi 1
  obtain ⟨h2, f2⟩ := h1.st6 f1 hi i
  obtain ⟨h3, f3⟩ := h2.st8 f2 hi (wrap64 (1 + (σ i).light))
  refine ⟨⟨h3.hd, h3.nodes.congr ?_, h3.ne, h3.le, h3.cap⟩, f3⟩
  intro j _
  by_cases e : j = i
  · subst e; simp [ref0, upd_same]
  · simp [ref0, upd_other e]

theorem iw64 (n : Int) : IntKind.i64.wrap n = wrap64 n := by rw [IntKind.wrap_i64]; unfold wrap64; omega

theorem refresh_w {w : World} {pf g N cap : Nat} {σ : Tbl} {ed : Int} (h : LctAt w pf g N cap σ ed) (i : Nat) (hi : i < N) (hR : InR N σ) (h0 : (σ i).k0 ≠ i) (h1 : (σ i).k1 ≠ i) :
    Calls Try.prog 32 #[.pointer (some ⟨pf, 0, none⟩), .int .i64 i] w fun e w' => e = .returned (.tuple #[]) ∧ LctAt w' pf g N cap (refresh σ i) ed ∧ Fr [g] w w' := by
  have c1 := h.hd.cell 1
  simp only [List.getElem?_cons_zero, List.getElem?_cons_succ] at c1
  have hN := h.le
  have a0 := h.nodes.c0 i hi
  have a1 := h.nodes.c1 i hi
  have a5 := h.nodes.c5 i hi
  have a6 := h.nodes.c6 i hi
  have a7 := h.nodes.c7 i hi
  have a8 := h.nodes.c8 i hi
  have hfz := h.nodes.frozen
  have hi2 : (i : Int) < N := by omega
  obtain ⟨hm0, hf0⟩ := ref0_mem h hi
  have HR := Lib.hid hR; clear hR
  have H0 := Lib.hid h0; clear h0
  have H1 := Lib.hid h1; clear h1
  go_enter Try.func32, Try.ntmps32
  go_wp2
  generalize hW : (((w.setCell ⟨g, i * 9 + 5, none⟩ (.int .i64 1)).setCell ⟨g, i * 9 + 6, none⟩ (.int .i64 i)).setCell ⟨g, i * 9 + 8, none⟩ (.int .i64 (wrap64 (1 + (σ i).light)))) = W0 at *
  clear hW a0 a1 a5 a6 a7 a8 hfz c1
  go_loopw [33] (fun x wr => ∃ t : Nat, t ≤ 2 ∧ x = .int .i64 t ∧ LctAt wr pf g N cap (refT σ i t) ed ∧ Fr [g] w wr) (fun x _ => 2 - (intOf x).toNat)
  case atStart => exact ⟨0, by omega, rfl, hm0, hf0⟩
  case round =>
    clear hm0 hf0
    obtain ⟨t, ht, rfl, hL, hF⟩ := hrel
    by_cases hlt : t < 2
    · have hInR := refT_inR HR.out hi H0.out H1.out t
      obtain ⟨k, hix, hkN, hki, hnx⟩ : ∃ k : Nat, (∀ W : World, (Instr.index 30 (.agg #[.int .i64 (σ i).k0, .int .i64 (σ i).k1]) (.int .i64 t)).run Try.prog W = .ok (.int .i64 k) W) ∧ k < N ∧ k ≠ i ∧ refT σ i (t + 1) = refKid (refT σ i t) i k := by
        rcases (show t = 0 ∨ t = 1 by omega) with rfl | rfl
        · exact ⟨(σ i).k0, fun W => idx_kids0 _ _ W, (HR.out i hi).1, H0.out, rfl⟩
        · exact ⟨(σ i).k1, fun W => idx_kids1 _ _ W, (HR.out i hi).2.1, H1.out, rfl⟩
      have Hnx := Lib.hid hnx; clear hnx
      have HIn := Lib.hid hInR; clear hInR
      generalize refT σ i t = τ at *
      by_cases hk0 : k = 0
      · subst hk0
        go_wp2
        go_roundw
        case rel => exact ⟨t + 1, by omega, by go_num, by rw [Hnx.out]; exact hL, hF⟩
        case measure => simp [intOf]; omega
      · have hb0 : ((k : Int) == 0) = false := beq_eq_false_iff_ne.2 (by omega)
        have hk2 : (k : Int) < N := by omega
        have c1 := hL.hd.cell 1
        simp only [List.getElem?_cons_zero, List.getElem?_cons_succ] at c1
        have a5 := hL.nodes.c5 i hi
        have b5 := hL.nodes.c5 k hkN
        have hfz := hL.nodes.frozen
        go_wp2
        refine region_one 11 (fun w' => LctAt w' pf g N cap (τ.upd i { τ i with size := wrap64 ((τ i).size + (τ k).size) }) ed ∧ Fr [g] w w') (by kernel_rfl) (by kernel_rfl) (by kernel_rfl) ?_
        iterate 11 (refine gWalk_pre (by decide) (fun K hK => ?_); go_simp; refine hK _ ?_; clear hK K)
        refine gWalk_write rfl undef (fun w' hw' => ?_) ?_
        · obtain ⟨nq, rfl⟩ := hw'
          go_simp
          rw [iw64]
          exact (hL.eqv (Eqv.drewN wr nq)).st5 (hF.drewN nq) hi _
        refine gWalk_nil ?_
        rintro w2 ⟨hL2, hF2⟩
        have hk1 : τ.upd i { τ i with size := wrap64 ((τ i).size + (τ k).size) } k = τ k := upd_other hki
        have c1' := hL2.hd.cell 1
        simp only [List.getElem?_cons_zero, List.getElem?_cons_succ] at c1'
        have a8 := hL2.nodes.c8 i hi
        have b8 := hL2.nodes.c8 k hkN
        rw [hk1] at b8
        rw [upd_same] at a8
        have hfz2 := hL2.nodes.frozen
        clear a5 b5 hfz c1 hk1
        go_wp2
        refine region_one 11 (fun w' => LctAt w' pf g N cap ((τ.upd i { τ i with size := wrap64 ((τ i).size + (τ k).size) }).upd i { τ i with size := wrap64 ((τ i).size + (τ k).size), total := wrap64 ((τ i).total + (τ k).total) }) ed ∧ Fr [g] w w') (by kernel_rfl) (by kernel_rfl) (by kernel_rfl) ?_
        iterate 11 (refine gWalk_pre (by decide) (fun K hK => ?_); go_simp; refine hK _ ?_; clear hK K)
        refine gWalk_write rfl undef (fun w' hw' => ?_) ?_
        · obtain ⟨nq, rfl⟩ := hw'
          go_simp
          have := (hL2.eqv (Eqv.drewN w2 nq)).st8 (hF2.drewN nq) hi (wrap64 ((τ i).total + (τ k).total))
          rw [upd_same] at this
          rw [iw64]
          exact this
        refine gWalk_nil ?_
        rintro w3 ⟨hL3, hF3⟩
        clear a8 b8 hfz2 c1' hL hL2 hF hF2
        have hns : refKid τ i k = if beforeB ((τ.upd i { τ i with size := wrap64 ((τ i).size + (τ k).size) }).upd i { τ i with size := wrap64 ((τ i).size + (τ k).size), total := wrap64 ((τ i).total + (τ k).total) }) (τ k).first (τ i).first then ((τ.upd i { τ i with size := wrap64 ((τ i).size + (τ k).size) }).upd i { τ i with size := wrap64 ((τ i).size + (τ k).size), total := wrap64 ((τ i).total + (τ k).total) }).upd i { τ i with size := wrap64 ((τ i).size + (τ k).size), total := wrap64 ((τ i).total + (τ k).total), first := (τ k).first } else ((τ.upd i { τ i with size := wrap64 ((τ i).size + (τ k).size) }).upd i { τ i with size := wrap64 ((τ i).size + (τ k).size), total := wrap64 ((τ i).total + (τ k).total) }) := by
          unfold refKid
          rw [if_neg hk0]
          simp only [upd_same, upd_other hki]
        have Hns := Lib.hid hns; clear hns
        have c6 := hL3.nodes.c6 i hi
        have d6 := hL3.nodes.c6 k hkN
        have hk1 : ((τ.upd i { τ i with size := wrap64 ((τ i).size + (τ k).size) }).upd i { τ i with size := wrap64 ((τ i).size + (τ k).size), total := wrap64 ((τ i).total + (τ k).total) }) k = τ k := by rw [upd_other hki, upd_other hki]
        have hi1 : ((τ.upd i { τ i with size := wrap64 ((τ i).size + (τ k).size) }).upd i { τ i with size := wrap64 ((τ i).size + (τ k).size), total := wrap64 ((τ i).total + (τ k).total) }) i = { τ i with size := wrap64 ((τ i).size + (τ k).size), total := wrap64 ((τ i).total + (τ k).total) } := upd_same _ _ _
        rw [hi1] at c6
        rw [hk1] at d6
        have hst := fun nq : Nat => (hL3.eqv (Eqv.drewN w3 nq)).st6 (hF3.drewN nq) hi (τ k).first
        rw [hi1] at hst
        generalize ((τ.upd i { τ i with size := wrap64 ((τ i).size + (τ k).size) }).upd i { τ i with size := wrap64 ((τ i).size + (τ k).size), total := wrap64 ((τ i).total + (τ k).total) }) = τ2 at *
        have hbf := fun W (hW : LctAt W pf g N cap τ2 ed) => before_w hW (τ k).first (τ i).first (HIn.out k hkN).2.2.2 (HIn.out i hi).2.2.2
        have Hbf := Lib.hid hbf; clear hbf hk1 hi1
        have hfz3 := hL3.nodes.frozen
        have Hst := Lib.hid hst; clear hst
        dsimp only at c6
        cases hB : beforeB τ2 (τ k).first (τ i).first with
        | true =>
          rw [hB] at Hbf Hns
          clear hB
          go_wp2
          go_quiet ((go_at_call 54; exact Calls.quiet_of (Hbf.out _ (hL3.eqv (Eqv.drewN _ _)))))
          go_wp2
          exact ⟨⟨t + 1, by omega, by go_num, by rw [Hnx.out, Hns.out, if_pos trivial]; exact (Hst.out nq).1, (Hst.out nq).2⟩, by simp [intOf]; omega⟩
        | false =>
          rw [hB] at Hbf Hns
          clear hB
          go_wp2
          go_quiet ((go_at_call 54; exact Calls.quiet_of (Hbf.out _ (hL3.eqv (Eqv.drewN _ _)))))
          go_wp2
          exact ⟨⟨t + 1, by omega, by go_num, by rw [Hnx.out, Hns.out, if_neg (by decide)]; exact hL3.eqv (Eqv.drewN w3 nq), hF3.drewN nq⟩, by simp [intOf]; omega⟩
    · obtain rfl : t = 2 := by omega
      go_wp2
      go_end0
      exact ⟨rfl, hL, hF⟩

end Go.Proofs.Ytoppjjgecgbbkaa
