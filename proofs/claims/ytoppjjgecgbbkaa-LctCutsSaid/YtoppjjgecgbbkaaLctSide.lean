/- lct: side and hang. -/
import Derived.Test.YtoppjjgecgbbkaaLctPush
namespace Go.Proofs.Ytoppjjgecgbbkaa
open Go.RowKit

/-- The side of a node, and whether it has a parent in its splay tree. -/
def sideOf (σ : Tbl) (i : Nat) : Nat × Bool :=
  if (σ i).up = 0 then (0, false) else if (σ (σ i).up).k0 = i then (0, true) else if (σ (σ i).up).k1 = i then (1, true) else (0, false)
def setKid (n : Nd) (s k : Nat) : Nd := if s = 0 then { n with k0 := k } else { n with k1 := k }
def kid (n : Nd) (s : Nat) : Nat := if s = 0 then n.k0 else n.k1
def hang (σ : Tbl) (i s k : Nat) : Tbl :=
  let σ1 := σ.upd i (setKid (σ i) s k)
  if k = 0 then σ1 else σ1.upd k { σ1 k with up := i }

set_option maxRecDepth 10000
set_option maxHeartbeats 400000

theorem side_w {w : World} {pf g N cap : Nat} {σ : Tbl} {ed : Int} (h : LctAt w pf g N cap σ ed) (i : Nat) (hi : i < N) (hR : InR N σ) :
    Calls Try.prog 62 #[.pointer (some ⟨pf, 0, none⟩), .int .i64 i] w fun e w' => e = .returned (.tuple #[.int .i64 (sideOf σ i).1, .bool (sideOf σ i).2]) ∧ w' = w := by
  have c1 := h.hd.cell 1
  simp only [List.getElem?_cons_zero, List.getElem?_cons_succ] at c1
  have hN := h.le
  have a2 := h.nodes.c2 i hi
  have hp := (hR i hi).2.2.1
  have hi2 : (i : Int) < N := by omega
  have HR := Lib.hid hR; clear hR
  have hs : sideOf σ i = if (σ i).up = 0 then (0, false) else if (σ (σ i).up).k0 = i then (0, true) else if (σ (σ i).up).k1 = i then (1, true) else (0, false) := rfl
  generalize hpp : (σ i).up = p at *
  have Hs := Lib.hid hs; clear hs
  by_cases hp0 : p = 0
  · subst hp0
    rw [Hs.out, if_pos rfl]
    clear Hs
    go_enter Try.func62, Try.ntmps62
    go_wp2
    go_ret2
    exact ⟨rfl, rfl⟩
  · have hp2 : (p : Int) < N := by omega
    have hb0 : ((p : Int) == 0) = false := beq_eq_false_iff_ne.2 (by omega)
    have b0 := h.nodes.c0 p hp
    have b1 := h.nodes.c1 p hp
    have Hp0 := Lib.hid hp0; clear hp0
    go_enter Try.func62, Try.ntmps62
    go_wp2
    clear a2 b0 b1 c1
    go_loopw [27] (fun x wr => ∃ t : Nat, t ≤ 2 ∧ x = .int .i64 t ∧ wr = w ∧ (0 < t → (σ p).k0 ≠ i) ∧ (1 < t → (σ p).k1 ≠ i)) (fun x _ => 2 - (intOf x).toNat)
    case atStart => exact ⟨0, by omega, rfl, rfl, by omega, by omega⟩
    case round =>
      obtain ⟨t, ht, rfl, rfl, he0, he1⟩ := hrel
      by_cases hlt : t < 2
      · obtain ⟨k, hix, hkN, hy, hn0, hn1⟩ : ∃ k : Nat, (∀ W : World, (Instr.index 30 (.agg #[.int .i64 (σ p).k0, .int .i64 (σ p).k1]) (.int .i64 t)).run Try.prog W = .ok (.int .i64 k) W) ∧ k < N ∧ (k = i → sideOf σ i = (t, true)) ∧ (k ≠ i → 0 < t + 1 → (σ p).k0 ≠ i) ∧ (k ≠ i → 1 < t + 1 → (σ p).k1 ≠ i) := by
          rcases (show t = 0 ∨ t = 1 by omega) with rfl | rfl
          · exact ⟨(σ p).k0, fun W => idx_kids0 _ _ W, (HR.out p hp).1, fun e => by rw [Hs.out, if_neg Hp0.out, if_pos e], fun e _ => e, fun _ e => by omega⟩
          · exact ⟨(σ p).k1, fun W => idx_kids1 _ _ W, (HR.out p hp).2.1, fun e => by rw [Hs.out, if_neg Hp0.out, if_neg (he0 (by decide)), if_pos e], fun _ _ => he0 (by decide), fun e _ => e⟩
        have Hy := Lib.hid hy; clear hy
        have Hn0 := Lib.hid hn0; clear hn0
        have Hn1 := Lib.hid hn1; clear hn1
        clear he0 he1
        by_cases hki : k = i
        · have hb : ((k : Int) == (i : Int)) = true := beq_iff_eq.2 (by omega)
          go_wp2
          go_ret2
          rw [Hy.out hki]
          exact ⟨rfl, rfl⟩
        · have hb : ((k : Int) == (i : Int)) = false := beq_eq_false_iff_ne.2 (by omega)
          go_wp2
          exact ⟨⟨t + 1, by omega, by go_num, trivial, Hn0.out hki, Hn1.out hki⟩, by simp [intOf]; omega⟩
      · obtain rfl : t = 2 := by omega
        have hs : sideOf σ i = (0, false) := by rw [Hs.out, if_neg Hp0.out, if_neg (he0 (by decide)), if_neg (he1 (by decide))]
        have Hs' := Lib.hid hs; clear hs
        clear Hs he0 he1
        go_wp2
        go_ret2
        rw [Hs'.out]
        exact ⟨rfl, rfl⟩

theorem hang_w {w : World} {pf g N cap : Nat} {σ : Tbl} {ed : Int} (h : LctAt w pf g N cap σ ed) (i s k : Nat) (hi : i < N) (hs : s < 2) (hk : k < N) :
    Calls Try.prog 66 #[.pointer (some ⟨pf, 0, none⟩), .int .i64 i, .int .i64 s, .int .i64 k] w fun e w' => e = .returned (.tuple #[]) ∧ LctAt w' pf g N cap (hang σ i s k) ed ∧ Fr [g] w w' := by
  have c1 := h.hd.cell 1
  simp only [List.getElem?_cons_zero, List.getElem?_cons_succ] at c1
  have hN := h.le
  have hfz := h.nodes.frozen
  have hi2 : (i : Int) < N := by omega
  have hk2 : (k : Int) < N := by omega
  have key : ∀ W1 : World, LctAt W1 pf g N cap (σ.upd i (setKid (σ i) s k)) ed ∧ Fr [g] w W1 → (k = 0 → LctAt W1 pf g N cap (hang σ i s k) ed ∧ Fr [g] w W1) ∧ (k ≠ 0 → LctAt (W1.setCell ⟨g, k * 9 + 2, none⟩ (.int .i64 i)) pf g N cap (hang σ i s k) ed ∧ Fr [g] w (W1.setCell ⟨g, k * 9 + 2, none⟩ (.int .i64 i))) := by
    intro W1 ⟨h1, f1⟩
    constructor
    · intro e; unfold hang; rw [if_pos e]; exact ⟨h1, f1⟩
    · intro e; unfold hang; rw [if_neg e]; exact h1.st2 f1 hk i
  have Key := Lib.hid key; clear key
  rcases (show s = 0 ∨ s = 1 by omega) with rfl | rfl
  · obtain ⟨h1, f1⟩ := h.st0 (Fr.refl _ _) hi k
    have a0 := h.nodes.c0 i hi
    have K := Lib.hid (Key.out _ ⟨h1, f1⟩)
    clear Key f1
    by_cases hk0 : k = 0
    · have r := K.out.1 hk0
      clear K h1
      subst hk0
      go_enter Try.func66, Try.ntmps66
      go_wp2
      go_end0
      exact ⟨rfl, r⟩
    · have hb0 : ((k : Int) == 0) = false := beq_eq_false_iff_ne.2 (by omega)
      have hfz1 := h1.nodes.frozen
      have d1 := h1.hd.cell 1
      simp only [List.getElem?_cons_zero, List.getElem?_cons_succ] at d1
      have b2 := h1.nodes.c2 k hk
      have r := K.out.2 hk0
      clear K h1
      go_enter Try.func66, Try.ntmps66
      go_wp2
      go_end0
      exact ⟨rfl, r⟩
  · obtain ⟨h1, f1⟩ := h.st1 (Fr.refl _ _) hi k
    have a0 := h.nodes.c1 i hi
    have K := Lib.hid (Key.out _ ⟨h1, f1⟩)
    clear Key f1
    by_cases hk0 : k = 0
    · have r := K.out.1 hk0
      clear K h1
      subst hk0
      go_enter Try.func66, Try.ntmps66
      go_wp2
      go_end0
      exact ⟨rfl, r⟩
    · have hb0 : ((k : Int) == 0) = false := beq_eq_false_iff_ne.2 (by omega)
      have hfz1 := h1.nodes.frozen
      have d1 := h1.hd.cell 1
      simp only [List.getElem?_cons_zero, List.getElem?_cons_succ] at d1
      have b2 := h1.nodes.c2 k hk
      have r := K.out.2 hk0
      clear K h1
      go_enter Try.func66, Try.ntmps66
      go_wp2
      go_end0
      exact ⟨rfl, r⟩

end Go.Proofs.Ytoppjjgecgbbkaa
