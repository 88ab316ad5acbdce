/- lct: push. -/
import Derived.Test.YtoppjjgecgbbkaaLctRefresh
namespace Go.Proofs.Ytoppjjgecgbbkaa
open Go.RowKit

def pushK (σ : Tbl) (k : Nat) : Tbl := if k = 0 then σ else σ.upd k { σ k with flip := !(σ k).flip }
def push0 (σ : Tbl) (i : Nat) : Tbl := σ.upd i { σ i with flip := false, k0 := (σ i).k1, k1 := (σ i).k0 }
def pushT (σ : Tbl) (i : Nat) : Nat → Tbl
  | 0 => push0 σ i
  | 1 => pushK (push0 σ i) (σ i).k1
  | _ => pushK (pushK (push0 σ i) (σ i).k1) (σ i).k0
/-- A pending reversal is carried out, and passed on. -/
def push (σ : Tbl) (i : Nat) : Tbl := if (σ i).flip then pushT σ i 2 else σ

set_option maxRecDepth 10000
set_option maxHeartbeats 400000

theorem LctAt.congr {w : World} {pf g N cap : Nat} {σ τ : Tbl} {ed : Int} (h : LctAt w pf g N cap σ ed) (e : ∀ i, σ i = τ i) : LctAt w pf g N cap τ ed := by
  have : σ = τ := funext e
  rw [← this]; exact h

theorem push_w {w : World} {pf g N cap : Nat} {σ : Tbl} {ed : Int} (h : LctAt w pf g N cap σ ed) (i : Nat) (hi : i < N) (hR : InR N σ) :
    Calls Try.prog 56 #[.pointer (some ⟨pf, 0, none⟩), .int .i64 i] w fun e w' => e = .returned (.tuple #[]) ∧ LctAt w' pf g N cap (push σ i) ed ∧ Fr [g] w w' := by
  have c1 := h.hd.cell 1
  simp only [List.getElem?_cons_zero, List.getElem?_cons_succ] at c1
  have hN := h.le
  have a3 := h.nodes.c3 i hi
  have hfz := h.nodes.frozen
  have hi2 : (i : Int) < N := by omega
  have HR := Lib.hid hR; clear hR
  by_cases hfl : (σ i).flip = true
  · have hp : push σ i = pushT σ i 2 := by unfold push; rw [if_pos hfl]
    have Hp := Lib.hid hp; clear hp
    rw [hfl] at a3
    have Hfl := Lib.hid hfl; clear hfl
    obtain ⟨h1, f1⟩ := h.st3 (Fr.refl _ _) hi false
    go_enter Try.func56, Try.ntmps56
    go_wp2
    generalize hW : w.setCell ⟨g, i * 9 + 3, none⟩ (.bool false) = W0 at *
    clear hW a3 c1 hfz
    have a0 := h1.nodes.c0 i hi
    have a1 := h1.nodes.c1 i hi
    rw [upd_same] at a0 a1
    dsimp only at a0 a1
    have hfz := h1.nodes.frozen
    have c1 := h1.hd.cell 1
    simp only [List.getElem?_cons_zero, List.getElem?_cons_succ] at c1
    refine region_many [15, 19] [1] (fun q w' => match q with
      | 0 => ∃ n, w' = W0.drewN n
      | 1 => LctAt w' pf g N cap ((σ.upd i { σ i with flip := false }).upd i { σ i with flip := false, k0 := (σ i).k1 }) ed ∧ Fr [g] w w'
      | _ => LctAt w' pf g N cap (push0 σ i) ed ∧ Fr [g] w w') (fun w' => Iff.rfl) (by kernel_rfl) (by kernel_rfl) (by kernel_rfl) ?_
    refine mWalk_pre (by decide) (fun K hK => ?_); go_simp; refine hK _ ?_; clear hK K
    refine mWalk_post (by decide) (fun K hK => ?_); go_simp; refine hK _ ?_; clear hK K
    iterate 13 (refine mWalk_pre (by decide) (fun K hK => ?_); go_simp; refine hK _ ?_; clear hK K)
    refine mWalk_write (q := 0) (by decide) rfl undef (fun w' hw' => ?_) ?_
    · obtain ⟨nq, rfl⟩ := hw'
      go_simp
      have := (h1.eqv (Eqv.drewN W0 nq)).st0 (f1.drewN nq) hi (σ i).k1
      rw [upd_same] at this
      exact this
    iterate 3 (refine mWalk_post (by decide) (fun K hK => ?_); go_simp; refine hK _ ?_; clear hK K)
    refine mWalk_write (q := 1) (by decide) rfl undef (fun w' hw' => ?_) ?_
    · obtain ⟨hA, hB⟩ := hw'
      have hfz' := hA.nodes.frozen
      have b1 := hA.nodes.c1 i hi
      go_simp
      have := hA.st1 hB hi (σ i).k0
      rw [upd_same] at this
      refine ⟨this.1.congr ?_, this.2⟩
      intro j
      by_cases e : j = i
      · subst e; simp [push0, upd_same]
      · simp [push0, upd_other e]
    refine mWalk_nil ?_
    rintro w2 ⟨h2, f2⟩
    clear a0 a1 hfz c1 h1 f1
    have a0 := h2.nodes.c0 i hi
    have a1 := h2.nodes.c1 i hi
    simp only [push0, upd_same] at a0 a1
    go_wp2
    clear a0 a1
    go_loopw [43] (fun x wr => ∃ t : Nat, t ≤ 2 ∧ x = .int .i64 t ∧ LctAt wr pf g N cap (pushT σ i t) ed ∧ Fr [g] w wr) (fun x _ => 2 - (intOf x).toNat)
    case atStart => exact ⟨0, by omega, rfl, h2, f2⟩
    case round =>
      clear h2 f2
      obtain ⟨t, ht, rfl, hL, hF⟩ := hrel
      by_cases hlt : t < 2
      · obtain ⟨k, hix, hkN, hnx⟩ : ∃ k : Nat, (∀ W : World, (Instr.index 30 (.agg #[.int .i64 (σ i).k1, .int .i64 (σ i).k0]) (.int .i64 t)).run Try.prog W = .ok (.int .i64 k) W) ∧ k < N ∧ pushT σ i (t + 1) = pushK (pushT σ i t) k := by
          rcases (show t = 0 ∨ t = 1 by omega) with rfl | rfl
          · exact ⟨(σ i).k1, fun W => idx_kids0 _ _ W, (HR.out i hi).2.1, rfl⟩
          · exact ⟨(σ i).k0, fun W => idx_kids1 _ _ W, (HR.out i hi).1, rfl⟩
        have Hnx := Lib.hid hnx; clear hnx
        generalize pushT σ i t = τ at *
        by_cases hk0 : k = 0
        · subst hk0
          go_wp2
          exact ⟨⟨t + 1, by omega, by go_num, by rw [Hnx.out]; exact hL, hF⟩, by simp [intOf]; omega⟩
        · have hb0 : ((k : Int) == 0) = false := beq_eq_false_iff_ne.2 (by omega)
          have hk2 : (k : Int) < N := by omega
          have c1 := hL.hd.cell 1
          simp only [List.getElem?_cons_zero, List.getElem?_cons_succ] at c1
          have a3 := hL.nodes.c3 k hkN
          have hfz := hL.nodes.frozen
          go_wp2
          refine region_one 16 (fun w' => LctAt w' pf g N cap (τ.upd k { τ k with flip := !(τ k).flip }) ed ∧ Fr [g] w w') (by kernel_rfl) (by kernel_rfl) (by kernel_rfl) ?_
          iterate 16 (refine gWalk_pre (by decide) (fun K hK => ?_); go_simp; refine hK _ ?_; clear hK K)
          refine gWalk_write rfl undef (fun w' hw' => ?_) ?_
          · obtain ⟨nq, rfl⟩ := hw'
            go_simp
            exact (hL.eqv (Eqv.drewN wr nq)).st3 (hF.drewN nq) hkN _
          refine gWalk_nil ?_
          rintro w3 ⟨h3, f3⟩
          go_wp2
          exact ⟨⟨t + 1, by omega, by go_num, by rw [Hnx.out]; unfold pushK; rw [if_neg hk0]; exact h3, f3⟩, by simp [intOf]; omega⟩
      · obtain rfl : t = 2 := by omega
        go_wp2
        go_end0
        exact ⟨rfl, by rw [Hp.out]; exact hL, hF⟩
  · have hfl : (σ i).flip = false := by simpa using hfl
    have hp : push σ i = σ := by unfold push; rw [if_neg (by simp [hfl])]
    rw [hp]; clear hp
    rw [hfl] at a3
    go_enter Try.func56, Try.ntmps56
    go_wp2
    refine bodyPost_ret (results_none rfl _ _ _) rfl ?_
    exact ⟨rfl, h, Fr.refl _ _⟩

end Go.Proofs.Ytoppjjgecgbbkaa
