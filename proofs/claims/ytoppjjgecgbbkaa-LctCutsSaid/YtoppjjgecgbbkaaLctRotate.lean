/- lct: rotate. -/
import Derived.Test.YtoppjjgecgbbkaaLctSide
namespace Go.Proofs.Ytoppjjgecgbbkaa
open Go.RowKit

def rot1 (σ : Tbl) (i : Nat) : Tbl :=
  if (sideOf σ (σ i).up).2 then hang σ (σ (σ i).up).up (sideOf σ (σ i).up).1 i else σ.upd i { σ i with up := (σ (σ i).up).up }
def rot2 (σ : Tbl) (i : Nat) : Tbl := hang (rot1 σ i) (σ i).up (sideOf σ i).1 (kid (rot1 σ i i) (1 - (sideOf σ i).1))
def rot3 (σ : Tbl) (i : Nat) : Tbl := hang (rot2 σ i) i (1 - (sideOf σ i).1) (σ i).up
/-- A node is lifted above its parent. -/
def rotate (σ : Tbl) (i : Nat) : Tbl := refresh (refresh (rot3 σ i) (σ i).up) i

theorem Fr.then {g : Nat} {a b c : World} (h : Fr [g] a b) (h' : Fr [g] b c) : Fr [g] a c := h.trans h' (fun _ h => .inl h)

theorem sideOf_lt (σ : Tbl) (i : Nat) : (sideOf σ i).1 < 2 := by unfold sideOf; split <;> (try split) <;> (try split) <;> decide
theorem InR.upd {N : Nat} {σ : Tbl} (h : InR N σ) {i : Nat} {n : Nd} (hn : n.k0 < N ∧ n.k1 < N ∧ n.up < N ∧ n.first < N) : InR N (σ.upd i n) := by
  intro j hj
  by_cases e : j = i
  · subst e; rw [upd_same]; exact hn
  · rw [upd_other e]; exact h j hj
theorem InR.hang {N : Nat} {σ : Tbl} (h : InR N σ) {i s k : Nat} (hi : i < N) (hk : k < N) : InR N (hang σ i s k) := by
  have h1 : InR N (σ.upd i (setKid (σ i) s k)) := by
    refine h.upd ?_
    unfold setKid
    have := h i hi
    split
    · exact ⟨hk, this.2⟩
    · exact ⟨this.1, hk, this.2.2⟩
  unfold Proofs.Ytoppjjgecgbbkaa.hang
  dsimp only
  split
  · exact h1
  · exact h1.upd ⟨(h1 k hk).1, (h1 k hk).2.1, hi, (h1 k hk).2.2.2⟩
theorem InR.refresh {N : Nat} {σ : Tbl} (h : InR N σ) {i : Nat} (hi : i < N) (h0 : (σ i).k0 ≠ i) (h1 : (σ i).k1 ≠ i) : InR N (refresh σ i) := refT_inR h hi h0 h1 2
theorem InR.kid {N : Nat} {σ : Tbl} (h : InR N σ) {i : Nat} (hi : i < N) (s : Nat) : kid (σ i) s < N := by
  unfold Proofs.Ytoppjjgecgbbkaa.kid; split
  · exact (h i hi).1
  · exact (h i hi).2.1
theorem InR.rot1 {N : Nat} {σ : Tbl} (h : InR N σ) {i : Nat} (hi : i < N) : InR N (rot1 σ i) := by
  have hp := (h i hi).2.2.1
  have hg := (h _ hp).2.2.1
  unfold Proofs.Ytoppjjgecgbbkaa.rot1
  split
  · exact h.hang hg hi
  · exact h.upd ⟨(h i hi).1, (h i hi).2.1, hg, (h i hi).2.2.2⟩
theorem refresh_links {σ : Tbl} {i j : Nat} : (refresh σ i j).k0 = (σ j).k0 ∧ (refresh σ i j).k1 = (σ j).k1 ∧ (refresh σ i j).up = (σ j).up ∧ (refresh σ i j).flip = (σ j).flip ∧ (refresh σ i j).key = (σ j).key ∧ (refresh σ i j).light = (σ j).light := by
  unfold refresh refT
  have a := @refKid_links (refKid (ref0 σ i) i (σ i).k0) i (σ i).k1 j
  have b := @refKid_links (ref0 σ i) i (σ i).k0 j
  have c : (ref0 σ i j).k0 = (σ j).k0 ∧ (ref0 σ i j).k1 = (σ j).k1 ∧ (ref0 σ i j).up = (σ j).up ∧ (ref0 σ i j).flip = (σ j).flip ∧ (ref0 σ i j).key = (σ j).key ∧ (ref0 σ i j).light = (σ j).light := by
    by_cases e : j = i
    · subst e; simp [ref0, upd_same]
    · simp [ref0, upd_other e]
  refine ⟨a.1.trans (b.1.trans c.1), a.2.1.trans (b.2.1.trans c.2.1), a.2.2.1.trans (b.2.2.1.trans c.2.2.1), a.2.2.2.1.trans (b.2.2.2.1.trans c.2.2.2.1), a.2.2.2.2.1.trans (b.2.2.2.2.1.trans c.2.2.2.2.1), a.2.2.2.2.2.trans (b.2.2.2.2.2.trans c.2.2.2.2.2)⟩
theorem refresh_other {σ : Tbl} {i j : Nat} (h : j ≠ i) : refresh σ i j = σ j := by
  show refKid (refKid (ref0 σ i) i (σ i).k0) i (σ i).k1 j = _
  rw [refKid_other h, refKid_other h, ref0, upd_other h]

set_option maxRecDepth 10000
set_option maxHeartbeats 800000

theorem rotate_w {w : World} {pf g N cap : Nat} {σ : Tbl} {ed : Int} (h : LctAt w pf g N cap σ ed) (i : Nat) (hi : i < N) (hR : InR N σ)
    (q0 : (rot3 σ i (σ i).up).k0 ≠ (σ i).up) (q1 : (rot3 σ i (σ i).up).k1 ≠ (σ i).up) (q2 : (rot3 σ i i).k0 ≠ i) (q3 : (rot3 σ i i).k1 ≠ i) :
    Calls Try.prog 64 #[.pointer (some ⟨pf, 0, none⟩), .int .i64 i] w fun e w' => e = .returned (.tuple #[]) ∧ LctAt w' pf g N cap (rotate σ i) ed ∧ Fr [g] w w' := by
  have c1 := h.hd.cell 1
  simp only [List.getElem?_cons_zero, List.getElem?_cons_succ] at c1
  have hN := h.le
  have hi2 : (i : Int) < N := by omega
  have hp := (hR i hi).2.2.1
  have hp2 : ((σ i).up : Int) < N := by omega
  have hg := (hR _ hp).2.2.1
  have a2 := h.nodes.c2 i hi
  have b2 := h.nodes.c2 _ hp
  have hfz := h.nodes.frozen
  have hR1 := hR.rot1 hi
  have hs := sideOf_lt σ i
  have hs' := sideOf_lt σ (σ i).up
  have hR2 : InR N (rot2 σ i) := hR1.hang hp (hR1.kid hi _)
  have hR3 : InR N (rot3 σ i) := hR2.hang hi hp
  have HR := Lib.hid hR; clear hR
  have HR1 := Lib.hid hR1; clear hR1
  have HR2 := Lib.hid hR2; clear hR2
  have HR3 := Lib.hid hR3; clear hR3
  have Q := Lib.hid (And.intro (And.intro q0 q1) (And.intro q2 q3)); clear q0 q1 q2 q3
  have Hst := Lib.hid (h.st2 (Fr.refl _ _) hi (σ (σ i).up).up)
  have hr1t : (sideOf σ (σ i).up).2 = true → rot1 σ i = hang σ (σ (σ i).up).up (sideOf σ (σ i).up).1 i := fun e => by unfold rot1; rw [if_pos e]
  have hr1f : (sideOf σ (σ i).up).2 = false → rot1 σ i = σ.upd i { σ i with up := (σ (σ i).up).up } := fun e => by unfold rot1; rw [if_neg (by simp [e])]
  have Hr1t := Lib.hid hr1t; clear hr1t
  have Hr1f := Lib.hid hr1f; clear hr1f
  have Hr2 := Lib.hid (show rot2 σ i = hang (rot1 σ i) (σ i).up (sideOf σ i).1 (kid (rot1 σ i i) (1 - (sideOf σ i).1)) from rfl)
  have Hr3 := Lib.hid (show rot3 σ i = hang (rot2 σ i) i (1 - (sideOf σ i).1) (σ i).up from rfl)
  have s1 := side_w h i hi HR.out
  have s2 := side_w h (σ i).up hp HR.out
  have hh := fun s (hs : s < 2) => hang_w h (σ (σ i).up).up s i hg hs hi
  generalize hsi : sideOf σ i = si at *
  generalize hsp : sideOf σ (σ i).up = sp at *
  obtain ⟨s, ok⟩ := si
  obtain ⟨s', b⟩ := sp
  dsimp only at s1 s2 hs hs' Hr1t Hr1f Hr2 Hr3
  clear hsi hsp
  have S1 := Lib.hid s1; clear s1
  have S2 := Lib.hid s2; clear s2
  have Hh := Lib.hid (hh s' hs'); clear hh hs'
  generalize hτ1 : rot1 σ i = τ1 at *
  generalize hτ2 : rot2 σ i = τ2 at *
  generalize hτ3 : rot3 σ i = τ3 at *
  have Hrot := Lib.hid (show rotate σ i = refresh (refresh τ3 (σ i).up) i by rw [← hτ3]; rfl)
  clear hτ1 hτ2 hτ3
  rcases (show s = 0 ∨ s = 1 by omega) with rfl | rfl
  · have Hr2 := Lib.hid (show τ2 = hang τ1 (σ i).up 0 (τ1 i).k1 from Hr2.out)
    have Hr3 := Lib.hid (show τ3 = hang τ2 i 1 (σ i).up from Hr3.out)
    cases b with
    | true =>
      have hr := Hr1t.out rfl
      have Hr := Lib.hid hr; clear hr Hr1t Hr1f Hst
      go_enter Try.func64, Try.ntmps64
      go_wp2_with fail
      refine S1.out.mono ?_
      rintro _ _ ⟨rfl, rfl⟩
      go_wp2_with fail
      refine S2.out.mono ?_
      rintro _ _ ⟨rfl, rfl⟩
      go_wp2_with fail
      refine Hh.out.mono ?_
      rintro _ w1 ⟨rfl, hL1, hF1⟩
      rw [← Hr.out] at hL1
      have k0 := hL1.nodes.c0 i hi
      have k1 := hL1.nodes.c1 i hi
      have u2 := hL1.nodes.c2 i hi
      have hfz1 := hL1.nodes.frozen
      have d1 := hL1.hd.cell 1
      simp only [List.getElem?_cons_zero, List.getElem?_cons_succ] at d1
      go_wp2_with fail
      refine (hang_w hL1 (σ i).up 0 (τ1 i).k1 hp (by decide) (HR1.out i hi).2.1).mono ?_
      rintro _ w2 ⟨rfl, hL2, hF2⟩
      rw [← Hr2.out] at hL2
      clear hfz1 k0 k1 d1 hL1 u2
      go_wp2_with fail
      refine (hang_w hL2 i 1 (σ i).up hi (by decide) hp).mono ?_
      rintro _ w3 ⟨rfl, hL3, hF3⟩
      rw [← Hr3.out] at hL3
      clear hL2
      go_wp2_with fail
      refine (refresh_w hL3 (σ i).up hp HR3.out Q.out.1.1 Q.out.1.2).mono ?_
      rintro _ w4 ⟨rfl, hL4, hF4⟩
      clear hL3
      go_wp2_with fail
      refine (refresh_w hL4 i hi (HR3.out.refresh hp Q.out.1.1 Q.out.1.2) (by rw [refresh_links.1]; exact Q.out.2.1) (by rw [refresh_links.2.1]; exact Q.out.2.2)).mono ?_
      rintro _ w5 ⟨rfl, hL5, hF5⟩
      clear hL4
      go_wp2
      go_end0
      rw [← Hrot.out] at hL5
      exact ⟨rfl, hL5, hF1.then (hF2.then (hF3.then (hF4.then hF5)))⟩
    | false =>
      have hr := Hr1f.out rfl
      have hst := Hst.out
      rw [← hr] at hst
      obtain ⟨hL1, hF1⟩ := hst
      clear hr Hr1t Hr1f Hst
      go_enter Try.func64, Try.ntmps64
      go_wp2_with fail
      refine S1.out.mono ?_
      rintro _ _ ⟨rfl, rfl⟩
      go_wp2_with fail
      refine S2.out.mono ?_
      rintro _ _ ⟨rfl, rfl⟩
      have k0 := hL1.nodes.c0 i hi
      have k1 := hL1.nodes.c1 i hi
      have u2 := hL1.nodes.c2 i hi
      have hfz1 := hL1.nodes.frozen
      have d1 := hL1.hd.cell 1
      simp only [List.getElem?_cons_zero, List.getElem?_cons_succ] at d1
      go_wp2_with fail
      refine (hang_w hL1 (σ i).up 0 (τ1 i).k1 hp (by decide) (HR1.out i hi).2.1).mono ?_
      rintro _ w2 ⟨rfl, hL2, hF2⟩
      rw [← Hr2.out] at hL2
      clear hfz1 k0 k1 d1 hL1 u2
      go_wp2_with fail
      refine (hang_w hL2 i 1 (σ i).up hi (by decide) hp).mono ?_
      rintro _ w3 ⟨rfl, hL3, hF3⟩
      rw [← Hr3.out] at hL3
      clear hL2
      go_wp2_with fail
      refine (refresh_w hL3 (σ i).up hp HR3.out Q.out.1.1 Q.out.1.2).mono ?_
      rintro _ w4 ⟨rfl, hL4, hF4⟩
      clear hL3
      go_wp2_with fail
      refine (refresh_w hL4 i hi (HR3.out.refresh hp Q.out.1.1 Q.out.1.2) (by rw [refresh_links.1]; exact Q.out.2.1) (by rw [refresh_links.2.1]; exact Q.out.2.2)).mono ?_
      rintro _ w5 ⟨rfl, hL5, hF5⟩
      clear hL4
      go_wp2
      go_end0
      rw [← Hrot.out] at hL5
      exact ⟨rfl, hL5, hF1.then (hF2.then (hF3.then (hF4.then hF5)))⟩
  · have Hr2 := Lib.hid (show τ2 = hang τ1 (σ i).up 1 (τ1 i).k0 from Hr2.out)
    have Hr3 := Lib.hid (show τ3 = hang τ2 i 0 (σ i).up from Hr3.out)
    cases b with
    | true =>
      have hr := Hr1t.out rfl
      have Hr := Lib.hid hr; clear hr Hr1t Hr1f Hst
      go_enter Try.func64, Try.ntmps64
      go_wp2_with fail
      refine S1.out.mono ?_
      rintro _ _ ⟨rfl, rfl⟩
      go_wp2_with fail
      refine S2.out.mono ?_
      rintro _ _ ⟨rfl, rfl⟩
      go_wp2_with fail
      refine Hh.out.mono ?_
      rintro _ w1 ⟨rfl, hL1, hF1⟩
      rw [← Hr.out] at hL1
      have k0 := hL1.nodes.c0 i hi
      have k1 := hL1.nodes.c1 i hi
      have u2 := hL1.nodes.c2 i hi
      have hfz1 := hL1.nodes.frozen
      have d1 := hL1.hd.cell 1
      simp only [List.getElem?_cons_zero, List.getElem?_cons_succ] at d1
      go_wp2_with fail
      refine (hang_w hL1 (σ i).up 1 (τ1 i).k0 hp (by decide) (HR1.out i hi).1).mono ?_
      rintro _ w2 ⟨rfl, hL2, hF2⟩
      rw [← Hr2.out] at hL2
      clear hfz1 k0 k1 d1 hL1 u2
      go_wp2_with fail
      refine (hang_w hL2 i 0 (σ i).up hi (by decide) hp).mono ?_
      rintro _ w3 ⟨rfl, hL3, hF3⟩
      rw [← Hr3.out] at hL3
      clear hL2
      go_wp2_with fail
      refine (refresh_w hL3 (σ i).up hp HR3.out Q.out.1.1 Q.out.1.2).mono ?_
      rintro _ w4 ⟨rfl, hL4, hF4⟩
      clear hL3
      go_wp2_with fail
      refine (refresh_w hL4 i hi (HR3.out.refresh hp Q.out.1.1 Q.out.1.2) (by rw [refresh_links.1]; exact Q.out.2.1) (by rw [refresh_links.2.1]; exact Q.out.2.2)).mono ?_
      rintro _ w5 ⟨rfl, hL5, hF5⟩
      clear hL4
      go_wp2
      go_end0
      rw [← Hrot.out] at hL5
      exact ⟨rfl, hL5, hF1.then (hF2.then (hF3.then (hF4.then hF5)))⟩
    | false =>
      have hr := Hr1f.out rfl
      have hst := Hst.out
      rw [← hr] at hst
      obtain ⟨hL1, hF1⟩ := hst
      clear hr Hr1t Hr1f Hst
      go_enter Try.func64, Try.ntmps64
      go_wp2_with fail
      refine S1.out.mono ?_
      rintro _ _ ⟨rfl, rfl⟩
      go_wp2_with fail
      refine S2.out.mono ?_
      rintro _ _ ⟨rfl, rfl⟩
      have k0 := hL1.nodes.c0 i hi
      have k1 := hL1.nodes.c1 i hi
      have u2 := hL1.nodes.c2 i hi
      have hfz1 := hL1.nodes.frozen
      have d1 := hL1.hd.cell 1
      simp only [List.getElem?_cons_zero, List.getElem?_cons_succ] at d1
      go_wp2_with fail
      refine (hang_w hL1 (σ i).up 1 (τ1 i).k0 hp (by decide) (HR1.out i hi).1).mono ?_
      rintro _ w2 ⟨rfl, hL2, hF2⟩
      rw [← Hr2.out] at hL2
      clear hfz1 k0 k1 d1 hL1 u2
      go_wp2_with fail
      refine (hang_w hL2 i 0 (σ i).up hi (by decide) hp).mono ?_
      rintro _ w3 ⟨rfl, hL3, hF3⟩
      rw [← Hr3.out] at hL3
      clear hL2
      go_wp2_with fail
      refine (refresh_w hL3 (σ i).up hp HR3.out Q.out.1.1 Q.out.1.2).mono ?_
      rintro _ w4 ⟨rfl, hL4, hF4⟩
      clear hL3
      go_wp2_with fail
      refine (refresh_w hL4 i hi (HR3.out.refresh hp Q.out.1.1 Q.out.1.2) (by rw [refresh_links.1]; exact Q.out.2.1) (by rw [refresh_links.2.1]; exact Q.out.2.2)).mono ?_
      rintro _ w5 ⟨rfl, hL5, hF5⟩
      clear hL4
      go_wp2
      go_end0
      rw [← Hrot.out] at hL5
      exact ⟨rfl, hL5, hF1.then (hF2.then (hF3.then (hF4.then hF5)))⟩

end Go.Proofs.Ytoppjjgecgbbkaa
