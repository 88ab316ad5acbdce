/- lct: a node of a splay tree and what lies about it; rotation. -/
import Derived.Test.YtgmnemndjjmgkaaGreatB9
set_option linter.unusedSimpArgs false
set_option linter.unusedVariables false
/- lct: push. -/
namespace Go.Proofs.YtgmnemndjjmgkaaGreat
open Go.RowKit
def pushK (σ : Tbl) (k : Nat) : Tbl := if k = 0 then σ else σ.upd k { σ k with flip := !(σ k).flip }
def push0 (σ : Tbl) (i : Nat) : Tbl := σ.upd i { σ i with flip := false, k0 := (σ i).k1, k1 := (σ i).k0 }
def pushT (σ : Tbl) (i : Nat) : Nat → Tbl
  | 0 => push0 σ i
  | 1 => pushK (push0 σ i) (σ i).k1
  | _ => pushK (pushK (push0 σ i) (σ i).k1) (σ i).k0
def push (σ : Tbl) (i : Nat) : Tbl := if (σ i).flip then pushT σ i 2 else σ
set_option maxRecDepth 10000
set_option maxHeartbeats 400000
theorem LctAt.congr {w : World} {pf g N cap : Nat} {σ τ : Tbl} {ed : Int} (h : LctAt w pf g N cap σ ed) (e : ∀ i, σ i = τ i) : LctAt w pf g N cap τ ed := by
 have : σ = τ := funext e
 rw [← this]; exact h
theorem push_w {w : World} {pf g N cap : Nat} {σ : Tbl} {ed : Int} (h : LctAt w pf g N cap σ ed) (i : Nat) (hi : i < N) (hR : InR N σ) :
    Calls Tryz.prog 201 #[.pointer (some ⟨pf, 0, none⟩), .int .i64 i] w fun e w' => e = .returned (.tuple #[]) ∧ LctAt w' pf g N cap (push σ i) ed ∧ Fr [g] w w' := by
 have c1 := h.hd.cell 1
 simp only [List.getElem?_cons_zero, List.getElem?_cons_succ] at c1
 have hN := h.le
 have a3 := h.nodes.c3 i hi
 have hfz := h.nodes.frozen
 have hi2 : (i : Int) < N := by omega
 have HR := Lib.hid hR; clear hR
 by_cases hfl : (σ i).flip = true
 {
 have hp : push σ i = pushT σ i 2 := by unfold push; rw [if_pos hfl]
 have Hp := Lib.hid hp; clear hp
 rw [hfl] at a3
 have Hfl := Lib.hid hfl; clear hfl
 obtain ⟨h1, f1⟩ := h.st3 (Fr.refl _ _) hi false
 go_enter Tryz.func201, Tryz.ntmps201
 go_wp2
 generalize hW : w.setCell ⟨g, i * 9 + 3, none⟩ (.bool false) = W0 at *
 clear hW a3 c1 hfz
 have a0 := h1.nodes.c0 i hi
 have a1 := h1.nodes.c1 i hi
 rw [upd_same] at a0 a1
 dsimp only at a0 a1
 have hfz := h1.nodes.frozen
 have c1 := h1.hd.cell 1
 simp only [List.getElem?_cons_zero, List.getElem?_cons_succ] at c1
 refine region_many [15, 19] [1] (fun q w' => match q with
   | 0 => ∃ n, w' = W0.drewN n
   | 1 => LctAt w' pf g N cap ((σ.upd i { σ i with flip := false }).upd i { σ i with flip := false, k0 := (σ i).k1 }) ed ∧ Fr [g] w w'
   | _ => LctAt w' pf g N cap (push0 σ i) ed ∧ Fr [g] w w') (fun w' => Iff.rfl) (by kernel_rfl) (by kernel_rfl) (by kernel_rfl) ?_
 refine mWalk_pre (by decide) (fun K hK => ?_); go_simp; refine hK _ ?_; clear hK K
 refine mWalk_post (by decide) (fun K hK => ?_); go_simp; refine hK _ ?_; clear hK K
 iterate 13 (refine mWalk_pre (by decide) (fun K hK => ?_); go_simp; refine hK _ ?_; clear hK K)
 refine mWalk_write (q := 0) (by decide) rfl undef (fun w' hw' => ?_) ?_
 {
 obtain ⟨nq, rfl⟩ := hw'
 go_simp
 have := (h1.eqv (Eqv.drewN W0 nq)).st0 (f1.drewN nq) hi (σ i).k1
 rw [upd_same] at this
 exact this
 }
 iterate 3 (refine mWalk_post (by decide) (fun K hK => ?_); go_simp; refine hK _ ?_; clear hK K)
 refine mWalk_write (q := 1) (by decide) rfl undef (fun w' hw' => ?_) ?_
 {
 obtain ⟨hA, hB⟩ := hw'
 have hfz' := hA.nodes.frozen
 have b1 := hA.nodes.c1 i hi
 go_simp
 have := hA.st1 hB hi (σ i).k0
 rw [upd_same] at this
 refine ⟨this.1.congr ?_, this.2⟩
 intro j
 by_cases e : j = i
 · subst e; simp [push0, upd_same]
 · simp [push0, upd_other e]
 }
 refine mWalk_nil ?_
 rintro w2 ⟨h2, f2⟩
 clear a0 a1 hfz c1 h1 f1
 have a0 := h2.nodes.c0 i hi
 have a1 := h2.nodes.c1 i hi
 simp only [push0, upd_same] at a0 a1
 go_wp2
 clear a0 a1
 go_loopw [43] (fun x wr => ∃ t : Nat, t ≤ 2 ∧ x = .int .i64 t ∧ LctAt wr pf g N cap (pushT σ i t) ed ∧ Fr [g] w wr) (fun x _ => 2 - (intOf x).toNat)
 case atStart => exact ⟨0, by omega, rfl, h2, f2⟩
 case round =>
  clear h2 f2
  obtain ⟨t, ht, rfl, hL, hF⟩ := hrel
  by_cases hlt : t < 2
  {
  obtain ⟨k, hix, hkN, hnx⟩ : ∃ k : Nat, (∀ W : World, (Instr.index 189 (.agg #[.int .i64 (σ i).k1, .int .i64 (σ i).k0]) (.int .i64 t)).run Tryz.prog W = .ok (.int .i64 k) W) ∧ k < N ∧ pushT σ i (t + 1) = pushK (pushT σ i t) k := by {
  rcases (show t = 0 ∨ t = 1 by omega) with rfl | rfl
  · exact ⟨(σ i).k1, fun W => idx_kids0 _ _ W, (HR.out i hi).2.1, rfl⟩
  · exact ⟨(σ i).k0, fun W => idx_kids1 _ _ W, (HR.out i hi).1, rfl⟩
  }
  have Hnx := Lib.hid hnx; clear hnx
  generalize pushT σ i t = τ at *
  by_cases hk0 : k = 0
  {
  subst hk0
  go_wp2
  exact ⟨⟨t + 1, by omega, by go_num, by rw [Hnx.out]; exact hL, hF⟩, by simp [intOf]; omega⟩
  }
  {
  have hb0 : ((k : Int) == 0) = false := beq_eq_false_iff_ne.2 (by omega)
  have hk2 : (k : Int) < N := by omega
  have c1 := hL.hd.cell 1
  simp only [List.getElem?_cons_zero, List.getElem?_cons_succ] at c1
  have a3 := hL.nodes.c3 k hkN
  have hfz := hL.nodes.frozen
  go_wp2
  refine region_one 16 (fun w' => LctAt w' pf g N cap (τ.upd k { τ k with flip := !(τ k).flip }) ed ∧ Fr [g] w w') (by kernel_rfl) (by kernel_rfl) (by kernel_rfl) ?_
  iterate 16 (refine gWalk_pre (by decide) (fun K hK => ?_); go_simp; refine hK _ ?_; clear hK K)
  refine gWalk_write rfl undef (fun w' hw' => ?_) ?_
  {
  obtain ⟨nq, rfl⟩ := hw'
  go_simp
  exact (hL.eqv (Eqv.drewN wr nq)).st3 (hF.drewN nq) hkN _
  }
  refine gWalk_nil ?_
  rintro w3 ⟨h3, f3⟩
  go_wp2
  exact ⟨⟨t + 1, by omega, by go_num, by rw [Hnx.out]; unfold pushK; rw [if_neg hk0]; exact h3, f3⟩, by simp [intOf]; omega⟩
  }
  }
  {
  obtain rfl : t = 2 := by omega
  go_wp2
  go_end0
  exact ⟨rfl, by rw [Hp.out]; exact hL, hF⟩
  }
 }
 {
 have hfl : (σ i).flip = false := by simpa using hfl
 have hp : push σ i = σ := by unfold push; rw [if_neg (by simp [hfl])]
 rw [hp]; clear hp
 rw [hfl] at a3
 go_enter Tryz.func201, Tryz.ntmps201
 go_wp2
 refine bodyPost_ret (results_none rfl _ _ _) rfl ?_
 exact ⟨rfl, h, Fr.refl _ _⟩
 }
end Go.Proofs.YtgmnemndjjmgkaaGreat

/- lct: side and hang. -/
namespace Go.Proofs.YtgmnemndjjmgkaaGreat
open Go.RowKit
def sideOf (σ : Tbl) (i : Nat) : Nat × Bool :=
  if (σ i).up = 0 then (0, false) else if (σ (σ i).up).k0 = i then (0, true) else if (σ (σ i).up).k1 = i then (1, true) else (0, false)
def setKid (n : Nd) (s k : Nat) : Nd := if s = 0 then { n with k0 := k } else { n with k1 := k }
def kid (n : Nd) (s : Nat) : Nat := if s = 0 then n.k0 else n.k1
def hang (σ : Tbl) (i s k : Nat) : Tbl :=
  let σ1 := σ.upd i (setKid (σ i) s k)
  if k = 0 then σ1 else σ1.upd k { σ1 k with up := i }
set_option maxRecDepth 10000
set_option maxHeartbeats 400000
theorem side_w {w : World} {pf g N cap : Nat} {σ : Tbl} {ed : Int} (h : LctAt w pf g N cap σ ed) (i : Nat) (hi : i < N) (hR : InR N σ) :
    Calls Tryz.prog 199 #[.pointer (some ⟨pf, 0, none⟩), .int .i64 i] w fun e w' => e = .returned (.tuple #[.int .i64 (sideOf σ i).1, .bool (sideOf σ i).2]) ∧ w' = w := by
 have c1 := h.hd.cell 1
 simp only [List.getElem?_cons_zero, List.getElem?_cons_succ] at c1
 have hN := h.le
 have a2 := h.nodes.c2 i hi
 have hp := (hR i hi).2.2.1
 have hi2 : (i : Int) < N := by omega
 have HR := Lib.hid hR; clear hR
 have hs : sideOf σ i = if (σ i).up = 0 then (0, false) else if (σ (σ i).up).k0 = i then (0, true) else if (σ (σ i).up).k1 = i then (1, true) else (0, false) := rfl
 generalize hpp : (σ i).up = p at *
 have Hs := Lib.hid hs; clear hs
 by_cases hp0 : p = 0
 {
 subst hp0
 rw [Hs.out, if_pos rfl]
 clear Hs
 go_enter Tryz.func199, Tryz.ntmps199
 go_wp2
 go_ret2
 exact ⟨rfl, rfl⟩
 }
 {
 have hp2 : (p : Int) < N := by omega
 have hb0 : ((p : Int) == 0) = false := beq_eq_false_iff_ne.2 (by omega)
 have b0 := h.nodes.c0 p hp
 have b1 := h.nodes.c1 p hp
 have Hp0 := Lib.hid hp0; clear hp0
 go_enter Tryz.func199, Tryz.ntmps199
 go_wp2
 clear a2 b0 b1 c1
 go_loopw [27] (fun x wr => ∃ t : Nat, t ≤ 2 ∧ x = .int .i64 t ∧ wr = w ∧ (0 < t → (σ p).k0 ≠ i) ∧ (1 < t → (σ p).k1 ≠ i)) (fun x _ => 2 - (intOf x).toNat)
 case atStart => exact ⟨0, by omega, rfl, rfl, by omega, by omega⟩
 case round =>
  obtain ⟨t, ht, rfl, rfl, he0, he1⟩ := hrel
  by_cases hlt : t < 2
  {
  obtain ⟨k, hix, hkN, hy, hn0, hn1⟩ : ∃ k : Nat, (∀ W : World, (Instr.index 189 (.agg #[.int .i64 (σ p).k0, .int .i64 (σ p).k1]) (.int .i64 t)).run Tryz.prog W = .ok (.int .i64 k) W) ∧ k < N ∧ (k = i → sideOf σ i = (t, true)) ∧ (k ≠ i → 0 < t + 1 → (σ p).k0 ≠ i) ∧ (k ≠ i → 1 < t + 1 → (σ p).k1 ≠ i) := by {
  rcases (show t = 0 ∨ t = 1 by omega) with rfl | rfl
  · exact ⟨(σ p).k0, fun W => idx_kids0 _ _ W, (HR.out p hp).1, fun e => by rw [Hs.out, if_neg Hp0.out, if_pos e], fun e _ => e, fun _ e => by omega⟩
  · exact ⟨(σ p).k1, fun W => idx_kids1 _ _ W, (HR.out p hp).2.1, fun e => by rw [Hs.out, if_neg Hp0.out, if_neg (he0 (by decide)), if_pos e], fun _ _ => he0 (by decide), fun e _ => e⟩
  }
  have Hy := Lib.hid hy; clear hy
  have Hn0 := Lib.hid hn0; clear hn0
  have Hn1 := Lib.hid hn1; clear hn1
  clear he0 he1
  by_cases hki : k = i
  {
  have hb : ((k : Int) == (i : Int)) = true := beq_iff_eq.2 (by omega)
  go_wp2
  go_ret2
  rw [Hy.out hki]
  exact ⟨rfl, rfl⟩
  }
  {
  have hb : ((k : Int) == (i : Int)) = false := beq_eq_false_iff_ne.2 (by omega)
  go_wp2
  exact ⟨⟨t + 1, by omega, by go_num, trivial, Hn0.out hki, Hn1.out hki⟩, by simp [intOf]; omega⟩
  }
  }
  {
  obtain rfl : t = 2 := by omega
  have hs : sideOf σ i = (0, false) := by rw [Hs.out, if_neg Hp0.out, if_neg (he0 (by decide)), if_neg (he1 (by decide))]
  have Hs' := Lib.hid hs; clear hs
  clear Hs he0 he1
  go_wp2
  go_ret2
  rw [Hs'.out]
  exact ⟨rfl, rfl⟩
  }
 }
theorem hang_w {w : World} {pf g N cap : Nat} {σ : Tbl} {ed : Int} (h : LctAt w pf g N cap σ ed) (i s k : Nat) (hi : i < N) (hs : s < 2) (hk : k < N) :
    Calls Tryz.prog 223 #[.pointer (some ⟨pf, 0, none⟩), .int .i64 i, .int .i64 s, .int .i64 k] w fun e w' => e = .returned (.tuple #[]) ∧ LctAt w' pf g N cap (hang σ i s k) ed ∧ Fr [g] w w' := by
 have c1 := h.hd.cell 1
 simp only [List.getElem?_cons_zero, List.getElem?_cons_succ] at c1
 have hN := h.le
 have hfz := h.nodes.frozen
 have hi2 : (i : Int) < N := by omega
 have hk2 : (k : Int) < N := by omega
 have key : ∀ W1 : World, LctAt W1 pf g N cap (σ.upd i (setKid (σ i) s k)) ed ∧ Fr [g] w W1 → (k = 0 → LctAt W1 pf g N cap (hang σ i s k) ed ∧ Fr [g] w W1) ∧ (k ≠ 0 → LctAt (W1.setCell ⟨g, k * 9 + 2, none⟩ (.int .i64 i)) pf g N cap (hang σ i s k) ed ∧ Fr [g] w (W1.setCell ⟨g, k * 9 + 2, none⟩ (.int .i64 i))) := by {
 intro W1 ⟨h1, f1⟩
 constructor
 · intro e; unfold hang; rw [if_pos e]; exact ⟨h1, f1⟩
 · intro e; unfold hang; rw [if_neg e]; exact h1.st2 f1 hk i
 }
 have Key := Lib.hid key; clear key
 rcases (show s = 0 ∨ s = 1 by omega) with rfl | rfl
 {
 obtain ⟨h1, f1⟩ := h.st0 (Fr.refl _ _) hi k
 have a0 := h.nodes.c0 i hi
 have K := Lib.hid (Key.out _ ⟨h1, f1⟩)
 clear Key f1
 by_cases hk0 : k = 0
 {
 have r := K.out.1 hk0
 clear K h1
 subst hk0
 go_enter Tryz.func223, Tryz.ntmps223
 go_wp2
 go_end0
 exact ⟨rfl, r⟩
 }
 {
 have hb0 : ((k : Int) == 0) = false := beq_eq_false_iff_ne.2 (by omega)
 have hfz1 := h1.nodes.frozen
 have d1 := h1.hd.cell 1
 simp only [List.getElem?_cons_zero, List.getElem?_cons_succ] at d1
 have b2 := h1.nodes.c2 k hk
 have r := K.out.2 hk0
 clear K h1
 go_enter Tryz.func223, Tryz.ntmps223
 go_wp2
 go_end0
 exact ⟨rfl, r⟩
 }
 }
 {
 obtain ⟨h1, f1⟩ := h.st1 (Fr.refl _ _) hi k
 have a0 := h.nodes.c1 i hi
 have K := Lib.hid (Key.out _ ⟨h1, f1⟩)
 clear Key f1
 by_cases hk0 : k = 0
 {
 have r := K.out.1 hk0
 clear K h1
 subst hk0
 go_enter Tryz.func223, Tryz.ntmps223
 go_wp2
 go_end0
 exact ⟨rfl, r⟩
 }
 {
 have hb0 : ((k : Int) == 0) = false := beq_eq_false_iff_ne.2 (by omega)
 have hfz1 := h1.nodes.frozen
 have d1 := h1.hd.cell 1
 simp only [List.getElem?_cons_zero, List.getElem?_cons_succ] at d1
 have b2 := h1.nodes.c2 k hk
 have r := K.out.2 hk0
 clear K h1
 go_enter Tryz.func223, Tryz.ntmps223
 go_wp2
 go_end0
 exact ⟨rfl, r⟩
 }
 }
end Go.Proofs.YtgmnemndjjmgkaaGreat

/- lct: rotate. -/
namespace Go.Proofs.YtgmnemndjjmgkaaGreat
open Go.RowKit
def rot1 (σ : Tbl) (i : Nat) : Tbl :=
  if (sideOf σ (σ i).up).2 then hang σ (σ (σ i).up).up (sideOf σ (σ i).up).1 i else σ.upd i { σ i with up := (σ (σ i).up).up }
def rot2 (σ : Tbl) (i : Nat) : Tbl := hang (rot1 σ i) (σ i).up (sideOf σ i).1 (kid (rot1 σ i i) (1 - (sideOf σ i).1))
def rot3 (σ : Tbl) (i : Nat) : Tbl := hang (rot2 σ i) i (1 - (sideOf σ i).1) (σ i).up
def rotate (σ : Tbl) (i : Nat) : Tbl := refresh (refresh (rot3 σ i) (σ i).up) i
theorem Fr.then {g : Nat} {a b c : World} (h : Fr [g] a b) (h' : Fr [g] b c) : Fr [g] a c := h.trans h' (fun _ h => .inl h)
theorem sideOf_lt (σ : Tbl) (i : Nat) : (sideOf σ i).1 < 2 := by unfold sideOf; split <;> (try split) <;> (try split) <;> decide
theorem InR.upd {N : Nat} {σ : Tbl} (h : InR N σ) {i : Nat} {n : Nd} (hn : n.k0 < N ∧ n.k1 < N ∧ n.up < N ∧ n.first < N) : InR N (σ.upd i n) := by
 intro j hj
 by_cases e : j = i
 · subst e; rw [upd_same]; exact hn
 · rw [upd_other e]; exact h j hj
theorem InR.hang {N : Nat} {σ : Tbl} (h : InR N σ) {i s k : Nat} (hi : i < N) (hk : k < N) : InR N (hang σ i s k) := by
 have h1 : InR N (σ.upd i (setKid (σ i) s k)) := by {
 refine h.upd ?_
 unfold setKid
 have := h i hi
 split
 · exact ⟨hk, this.2⟩
 · exact ⟨this.1, hk, this.2.2⟩
 }
 unfold Proofs.YtgmnemndjjmgkaaGreat.hang
 dsimp only
 split
 · exact h1
 · exact h1.upd ⟨(h1 k hk).1, (h1 k hk).2.1, hi, (h1 k hk).2.2.2⟩
theorem InR.refresh {N : Nat} {σ : Tbl} (h : InR N σ) {i : Nat} (hi : i < N) (h0 : (σ i).k0 ≠ i) (h1 : (σ i).k1 ≠ i) : InR N (refresh σ i) := refT_inR h hi h0 h1 2
theorem InR.kid {N : Nat} {σ : Tbl} (h : InR N σ) {i : Nat} (hi : i < N) (s : Nat) : kid (σ i) s < N := by
 unfold Proofs.YtgmnemndjjmgkaaGreat.kid; split
 · exact (h i hi).1
 · exact (h i hi).2.1
theorem InR.rot1 {N : Nat} {σ : Tbl} (h : InR N σ) {i : Nat} (hi : i < N) : InR N (rot1 σ i) := by
 have hp := (h i hi).2.2.1
 have hg := (h _ hp).2.2.1
 unfold Proofs.YtgmnemndjjmgkaaGreat.rot1
 split
 · exact h.hang hg hi
 · exact h.upd ⟨(h i hi).1, (h i hi).2.1, hg, (h i hi).2.2.2⟩
theorem refresh_links {σ : Tbl} {i j : Nat} : (refresh σ i j).k0 = (σ j).k0 ∧ (refresh σ i j).k1 = (σ j).k1 ∧ (refresh σ i j).up = (σ j).up ∧ (refresh σ i j).flip = (σ j).flip ∧ (refresh σ i j).key = (σ j).key ∧ (refresh σ i j).light = (σ j).light := by
 unfold refresh refT
 have a := @refKid_links (refKid (ref0 σ i) i (σ i).k0) i (σ i).k1 j
 have b := @refKid_links (ref0 σ i) i (σ i).k0 j
 have c : (ref0 σ i j).k0 = (σ j).k0 ∧ (ref0 σ i j).k1 = (σ j).k1 ∧ (ref0 σ i j).up = (σ j).up ∧ (ref0 σ i j).flip = (σ j).flip ∧ (ref0 σ i j).key = (σ j).key ∧ (ref0 σ i j).light = (σ j).light := by {
 by_cases e : j = i
 · subst e; simp [ref0, upd_same]
 · simp [ref0, upd_other e]
 }
 refine ⟨a.1.trans (b.1.trans c.1), a.2.1.trans (b.2.1.trans c.2.1), a.2.2.1.trans (b.2.2.1.trans c.2.2.1), a.2.2.2.1.trans (b.2.2.2.1.trans c.2.2.2.1), a.2.2.2.2.1.trans (b.2.2.2.2.1.trans c.2.2.2.2.1), a.2.2.2.2.2.trans (b.2.2.2.2.2.trans c.2.2.2.2.2)⟩
theorem refresh_other {σ : Tbl} {i j : Nat} (h : j ≠ i) : refresh σ i j = σ j := by
 show refKid (refKid (ref0 σ i) i (σ i).k0) i (σ i).k1 j = _
 rw [refKid_other h, refKid_other h, ref0, upd_other h]
set_option maxRecDepth 10000
set_option maxHeartbeats 800000
theorem rotate_w {w : World} {pf g N cap : Nat} {σ : Tbl} {ed : Int} (h : LctAt w pf g N cap σ ed) (i : Nat) (hi : i < N) (hR : InR N σ)
    (q0 : (rot3 σ i (σ i).up).k0 ≠ (σ i).up) (q1 : (rot3 σ i (σ i).up).k1 ≠ (σ i).up) (q2 : (rot3 σ i i).k0 ≠ i) (q3 : (rot3 σ i i).k1 ≠ i) :
    Calls Tryz.prog 202 #[.pointer (some ⟨pf, 0, none⟩), .int .i64 i] w fun e w' => e = .returned (.tuple #[]) ∧ LctAt w' pf g N cap (rotate σ i) ed ∧ Fr [g] w w' := by
 have c1 := h.hd.cell 1
 simp only [List.getElem?_cons_zero, List.getElem?_cons_succ] at c1
 have hN := h.le
 have hi2 : (i : Int) < N := by omega
 have hp := (hR i hi).2.2.1
 have hp2 : ((σ i).up : Int) < N := by omega
 have hg := (hR _ hp).2.2.1
 have a2 := h.nodes.c2 i hi
 have b2 := h.nodes.c2 _ hp
 have hfz := h.nodes.frozen
 have hR1 := hR.rot1 hi
 have hs := sideOf_lt σ i
 have hs' := sideOf_lt σ (σ i).up
 have hR2 : InR N (rot2 σ i) := hR1.hang hp (hR1.kid hi _)
 have hR3 : InR N (rot3 σ i) := hR2.hang hi hp
 have HR := Lib.hid hR; clear hR
 have HR1 := Lib.hid hR1; clear hR1
 have HR2 := Lib.hid hR2; clear hR2
 have HR3 := Lib.hid hR3; clear hR3
 have Q := Lib.hid (And.intro (And.intro q0 q1) (And.intro q2 q3)); clear q0 q1 q2 q3
 have Hst := Lib.hid (h.st2 (Fr.refl _ _) hi (σ (σ i).up).up)
 have hr1t : (sideOf σ (σ i).up).2 = true → rot1 σ i = hang σ (σ (σ i).up).up (sideOf σ (σ i).up).1 i := fun e => by unfold rot1; rw [if_pos e]
 have hr1f : (sideOf σ (σ i).up).2 = false → rot1 σ i = σ.upd i { σ i with up := (σ (σ i).up).up } := fun e => by unfold rot1; rw [if_neg (by simp [e])]
 have Hr1t := Lib.hid hr1t; clear hr1t
 have Hr1f := Lib.hid hr1f; clear hr1f
 have Hr2 := Lib.hid (show rot2 σ i = hang (rot1 σ i) (σ i).up (sideOf σ i).1 (kid (rot1 σ i i) (1 - (sideOf σ i).1)) from rfl)
 have Hr3 := Lib.hid (show rot3 σ i = hang (rot2 σ i) i (1 - (sideOf σ i).1) (σ i).up from rfl)
 have s1 := side_w h i hi HR.out
 have s2 := side_w h (σ i).up hp HR.out
 have hh := fun s (hs : s < 2) => hang_w h (σ (σ i).up).up s i hg hs hi
 generalize hsi : sideOf σ i = si at *
 generalize hsp : sideOf σ (σ i).up = sp at *
 obtain ⟨s, ok⟩ := si
 obtain ⟨s', b⟩ := sp
 dsimp only at s1 s2 hs hs' Hr1t Hr1f Hr2 Hr3
 clear hsi hsp
 have S1 := Lib.hid s1; clear s1
 have S2 := Lib.hid s2; clear s2
 have Hh := Lib.hid (hh s' hs'); clear hh hs'
 generalize hτ1 : rot1 σ i = τ1 at *
 generalize hτ2 : rot2 σ i = τ2 at *
 generalize hτ3 : rot3 σ i = τ3 at *
 have Hrot := Lib.hid (show rotate σ i = refresh (refresh τ3 (σ i).up) i by rw [← hτ3]; rfl)
 clear hτ1 hτ2 hτ3
 rcases (show s = 0 ∨ s = 1 by omega) with rfl | rfl
 {
 have Hr2 := Lib.hid (show τ2 = hang τ1 (σ i).up 0 (τ1 i).k1 from Hr2.out)
 have Hr3 := Lib.hid (show τ3 = hang τ2 i 1 (σ i).up from Hr3.out)
 cases b with
 | true => {
 have hr := Hr1t.out rfl
 have Hr := Lib.hid hr; clear hr Hr1t Hr1f Hst
 go_enter Tryz.func202, Tryz.ntmps202
 go_wp2_with fail
 refine S1.out.mono ?_
 rintro _ _ ⟨rfl, rfl⟩
 go_wp2_with fail
 refine S2.out.mono ?_
 rintro _ _ ⟨rfl, rfl⟩
 go_wp2_with fail
 refine Hh.out.mono ?_
 rintro _ w1 ⟨rfl, hL1, hF1⟩
 rw [← Hr.out] at hL1
 have k0 := hL1.nodes.c0 i hi
 have k1 := hL1.nodes.c1 i hi
 have u2 := hL1.nodes.c2 i hi
 have hfz1 := hL1.nodes.frozen
 have d1 := hL1.hd.cell 1
 simp only [List.getElem?_cons_zero, List.getElem?_cons_succ] at d1
 go_wp2_with fail
 refine (hang_w hL1 (σ i).up 0 (τ1 i).k1 hp (by decide) (HR1.out i hi).2.1).mono ?_
 rintro _ w2 ⟨rfl, hL2, hF2⟩
 rw [← Hr2.out] at hL2
 clear hfz1 k0 k1 d1 hL1 u2
 go_wp2_with fail
 refine (hang_w hL2 i 1 (σ i).up hi (by decide) hp).mono ?_
 rintro _ w3 ⟨rfl, hL3, hF3⟩
 rw [← Hr3.out] at hL3
 clear hL2
 go_wp2_with fail
 refine (refresh_w hL3 (σ i).up hp HR3.out Q.out.1.1 Q.out.1.2).mono ?_
 rintro _ w4 ⟨rfl, hL4, hF4⟩
 clear hL3
 go_wp2_with fail
 refine (refresh_w hL4 i hi (HR3.out.refresh hp Q.out.1.1 Q.out.1.2) (by rw [refresh_links.1]; exact Q.out.2.1) (by rw [refresh_links.2.1]; exact Q.out.2.2)).mono ?_
 rintro _ w5 ⟨rfl, hL5, hF5⟩
 clear hL4
 go_wp2
 go_end0
 rw [← Hrot.out] at hL5
 exact ⟨rfl, hL5, hF1.then (hF2.then (hF3.then (hF4.then hF5)))⟩
 }
 | false => {
 have hr := Hr1f.out rfl
 have hst := Hst.out
 rw [← hr] at hst
 obtain ⟨hL1, hF1⟩ := hst
 clear hr Hr1t Hr1f Hst
 go_enter Tryz.func202, Tryz.ntmps202
 go_wp2_with fail
 refine S1.out.mono ?_
 rintro _ _ ⟨rfl, rfl⟩
 go_wp2_with fail
 refine S2.out.mono ?_
 rintro _ _ ⟨rfl, rfl⟩
 have k0 := hL1.nodes.c0 i hi
 have k1 := hL1.nodes.c1 i hi
 have u2 := hL1.nodes.c2 i hi
 have hfz1 := hL1.nodes.frozen
 have d1 := hL1.hd.cell 1
 simp only [List.getElem?_cons_zero, List.getElem?_cons_succ] at d1
 go_wp2_with fail
 refine (hang_w hL1 (σ i).up 0 (τ1 i).k1 hp (by decide) (HR1.out i hi).2.1).mono ?_
 rintro _ w2 ⟨rfl, hL2, hF2⟩
 rw [← Hr2.out] at hL2
 clear hfz1 k0 k1 d1 hL1 u2
 go_wp2_with fail
 refine (hang_w hL2 i 1 (σ i).up hi (by decide) hp).mono ?_
 rintro _ w3 ⟨rfl, hL3, hF3⟩
 rw [← Hr3.out] at hL3
 clear hL2
 go_wp2_with fail
 refine (refresh_w hL3 (σ i).up hp HR3.out Q.out.1.1 Q.out.1.2).mono ?_
 rintro _ w4 ⟨rfl, hL4, hF4⟩
 clear hL3
 go_wp2_with fail
 refine (refresh_w hL4 i hi (HR3.out.refresh hp Q.out.1.1 Q.out.1.2) (by rw [refresh_links.1]; exact Q.out.2.1) (by rw [refresh_links.2.1]; exact Q.out.2.2)).mono ?_
 rintro _ w5 ⟨rfl, hL5, hF5⟩
 clear hL4
 go_wp2
 go_end0
 rw [← Hrot.out] at hL5
 exact ⟨rfl, hL5, hF1.then (hF2.then (hF3.then (hF4.then hF5)))⟩
 }
 }
 {
 have Hr2 := Lib.hid (show τ2 = hang τ1 (σ i).up 1 (τ1 i).k0 from Hr2.out)
 have Hr3 := Lib.hid (show τ3 = hang τ2 i 0 (σ i).up from Hr3.out)
 cases b with
 | true => {
 have hr := Hr1t.out rfl
 have Hr := Lib.hid hr; clear hr Hr1t Hr1f Hst
 go_enter Tryz.func202, Tryz.ntmps202
 go_wp2_with fail
 refine S1.out.mono ?_
 rintro _ _ ⟨rfl, rfl⟩
 go_wp2_with fail
 refine S2.out.mono ?_
 rintro _ _ ⟨rfl, rfl⟩
 go_wp2_with fail
 refine Hh.out.mono ?_
 rintro _ w1 ⟨rfl, hL1, hF1⟩
 rw [← Hr.out] at hL1
 have k0 := hL1.nodes.c0 i hi
 have k1 := hL1.nodes.c1 i hi
 have u2 := hL1.nodes.c2 i hi
 have hfz1 := hL1.nodes.frozen
 have d1 := hL1.hd.cell 1
 simp only [List.getElem?_cons_zero, List.getElem?_cons_succ] at d1
 go_wp2_with fail
 refine (hang_w hL1 (σ i).up 1 (τ1 i).k0 hp (by decide) (HR1.out i hi).1).mono ?_
 rintro _ w2 ⟨rfl, hL2, hF2⟩
 rw [← Hr2.out] at hL2
 clear hfz1 k0 k1 d1 hL1 u2
 go_wp2_with fail
 refine (hang_w hL2 i 0 (σ i).up hi (by decide) hp).mono ?_
 rintro _ w3 ⟨rfl, hL3, hF3⟩
 rw [← Hr3.out] at hL3
 clear hL2
 go_wp2_with fail
 refine (refresh_w hL3 (σ i).up hp HR3.out Q.out.1.1 Q.out.1.2).mono ?_
 rintro _ w4 ⟨rfl, hL4, hF4⟩
 clear hL3
 go_wp2_with fail
 refine (refresh_w hL4 i hi (HR3.out.refresh hp Q.out.1.1 Q.out.1.2) (by rw [refresh_links.1]; exact Q.out.2.1) (by rw [refresh_links.2.1]; exact Q.out.2.2)).mono ?_
 rintro _ w5 ⟨rfl, hL5, hF5⟩
 clear hL4
 go_wp2
 go_end0
 rw [← Hrot.out] at hL5
 exact ⟨rfl, hL5, hF1.then (hF2.then (hF3.then (hF4.then hF5)))⟩
 }
 | false => {
 have hr := Hr1f.out rfl
 have hst := Hst.out
 rw [← hr] at hst
 obtain ⟨hL1, hF1⟩ := hst
 clear hr Hr1t Hr1f Hst
 go_enter Tryz.func202, Tryz.ntmps202
 go_wp2_with fail
 refine S1.out.mono ?_
 rintro _ _ ⟨rfl, rfl⟩
 go_wp2_with fail
 refine S2.out.mono ?_
 rintro _ _ ⟨rfl, rfl⟩
 have k0 := hL1.nodes.c0 i hi
 have k1 := hL1.nodes.c1 i hi
 have u2 := hL1.nodes.c2 i hi
 have hfz1 := hL1.nodes.frozen
 have d1 := hL1.hd.cell 1
 simp only [List.getElem?_cons_zero, List.getElem?_cons_succ] at d1
 go_wp2_with fail
 refine (hang_w hL1 (σ i).up 1 (τ1 i).k0 hp (by decide) (HR1.out i hi).1).mono ?_
 rintro _ w2 ⟨rfl, hL2, hF2⟩
 rw [← Hr2.out] at hL2
 clear hfz1 k0 k1 d1 hL1 u2
 go_wp2_with fail
 refine (hang_w hL2 i 0 (σ i).up hi (by decide) hp).mono ?_
 rintro _ w3 ⟨rfl, hL3, hF3⟩
 rw [← Hr3.out] at hL3
 clear hL2
 go_wp2_with fail
 refine (refresh_w hL3 (σ i).up hp HR3.out Q.out.1.1 Q.out.1.2).mono ?_
 rintro _ w4 ⟨rfl, hL4, hF4⟩
 clear hL3
 go_wp2_with fail
 refine (refresh_w hL4 i hi (HR3.out.refresh hp Q.out.1.1 Q.out.1.2) (by rw [refresh_links.1]; exact Q.out.2.1) (by rw [refresh_links.2.1]; exact Q.out.2.2)).mono ?_
 rintro _ w5 ⟨rfl, hL5, hF5⟩
 clear hL4
 go_wp2
 go_end0
 rw [← Hrot.out] at hL5
 exact ⟨rfl, hL5, hF1.then (hF2.then (hF3.then (hF4.then hF5)))⟩
 }
 }
end Go.Proofs.YtgmnemndjjmgkaaGreat

/- lct: splay trees as data, and how the table represents them. -/
namespace Go.Proofs.YtgmnemndjjmgkaaGreat
open Go.RowKit
inductive BT where
  | nil
  | node (f : Bool) (l : BT) (v : Nat) (r : BT)
namespace BT
def root : BT → Nat
  | nil => 0
  | node _ _ v _ => v
def nodes : BT → List Nat
  | nil => []
  | node _ l v r => l.nodes ++ v :: r.nodes
def seq : BT → List Nat
  | nil => []
  | node f l v r => if f then (l.seq ++ v :: r.seq).reverse else l.seq ++ v :: r.seq
def flip : BT → BT
  | nil => nil
  | node f l v r => node (!f) l v r
theorem seq_flip (t : BT) : t.flip.seq = t.seq.reverse := by
 cases t with
 | nil => rfl
 | node f l v r => cases f <;> simp [flip, seq]
theorem nodes_flip (t : BT) : t.flip.nodes = t.nodes := by cases t <;> rfl
theorem root_flip (t : BT) : t.flip.root = t.root := by cases t <;> rfl
theorem seq_perm (t : BT) : t.seq.Perm t.nodes := by
 induction t with
 | nil => exact .nil
 | node f l v r hl hr => {
 have h : (l.seq ++ v :: r.seq).Perm (l.nodes ++ v :: r.nodes) := hl.append (hr.cons v)
 cases f with
 | false => simpa [seq, nodes] using h
 | true => simp only [seq, nodes, if_true]; exact (List.reverse_perm _).trans h
 }
theorem root_mem {t : BT} (h : t.root ≠ 0) : t.root ∈ t.nodes := by
 cases t with
 | nil => exact absurd rfl h
 | node f l v r => simp [root, nodes]
end BT
def tot (σ : Tbl) (l : List Nat) : Int := (l.map fun v => 1 + (σ v).light).sum
def IsBest (σ : Tbl) (l : List Nat) (x : Nat) : Prop := x ∈ l ∧ ∀ y ∈ l, y ≠ x → beforeB σ x y = true
def Rep (σ : Tbl) : BT → Nat → Prop
  | .nil, _ => True
  | .node f l v r, u => (v ≠ 0 ∧ (σ v).up = u ∧ (σ v).flip = f ∧ (σ v).k0 = l.root ∧ (σ v).k1 = r.root) ∧ Rep σ l v ∧ Rep σ r v ∧
      (σ v).size = wrap64 (BT.node f l v r).nodes.length ∧ (σ v).total = wrap64 (tot σ (BT.node f l v r).nodes) ∧ IsBest σ (BT.node f l v r).nodes (σ v).first
theorem tot_congr {σ σ' : Tbl} {l : List Nat} (h : ∀ x ∈ l, (σ' x).light = (σ x).light) : tot σ' l = tot σ l := by
 unfold tot; congr 1; exact List.map_congr_left (fun x hx => by rw [h x hx])
theorem tot_perm {σ : Tbl} {l m : List Nat} (h : l.Perm m) : tot σ l = tot σ m := by
 unfold tot
 induction h with
 | nil => rfl
 | cons x _ ih => simp [ih]
 | swap x y l => simp; omega
 | trans _ _ h1 h2 => exact h1.trans h2
theorem best_congr {σ σ' : Tbl} {l : List Nat} {x : Nat} (h : ∀ x ∈ l, (σ' x).key = (σ x).key) (hb : IsBest σ l x) : IsBest σ' l x := by
 refine ⟨hb.1, fun y hy hne => ?_⟩
 have := hb.2 y hy hne
 unfold beforeB at this ⊢
 rw [h x hb.1, h y hy]; exact this
theorem Rep.congr {σ σ' : Tbl} : ∀ {t : BT} {u : Nat}, (∀ x ∈ t.nodes, σ' x = σ x) → Rep σ t u → Rep σ' t u
  | .nil, _, _, _ => trivial
  | .node f l v r, u, h, ⟨h1, hl, hr, h2, h3, h4⟩ => by
    have hv := h v (by simp [BT.nodes])
    refine ⟨by rw [hv]; exact h1, hl.congr (fun x hx => h x (by simp [BT.nodes, hx])), hr.congr (fun x hx => h x (by simp [BT.nodes, hx])), by rw [hv]; exact h2, ?_, ?_⟩
    · rw [hv, tot_congr (fun x hx => by rw [h x hx])]; exact h3
    · rw [hv]; exact best_congr (fun x hx => by rw [h x hx]) h4
theorem Rep.reup {σ σ' : Tbl} {t : BT} {u u' : Nat} (h : Rep σ t u) (hnd : t.nodes.Nodup) (ho : ∀ x ∈ t.nodes, x ≠ t.root → σ' x = σ x) (hr : t.root ≠ 0 → σ' t.root = { σ t.root with up := u' }) : Rep σ' t u' := by
 cases t with
 | nil => trivial
 | node f l v r => {
 obtain ⟨h1, hl, hrr, h2, h3, h4⟩ := h
 have hv : σ' v = { σ v with up := u' } := hr h1.1
 have hnl : ∀ x ∈ l.nodes, x ≠ v := by {
 intro x hx e; subst e
 simp only [BT.nodes] at hnd
 exact (List.nodup_append.1 hnd).2.2 x hx x (by simp) rfl
 }
 have hnr : ∀ x ∈ r.nodes, x ≠ v := by {
 intro x hx e; subst e
 simp only [BT.nodes] at hnd
 exact (List.nodup_cons.1 (List.nodup_append.1 hnd).2.1).1 hx
 }
 have hlk : ∀ x ∈ (BT.node f l v r).nodes, (σ' x).light = (σ x).light ∧ (σ' x).key = (σ x).key := by {
 intro x hx
 by_cases e : x = v
 · subst e; rw [hv]; exact ⟨rfl, rfl⟩
 · rw [ho x hx e]; exact ⟨rfl, rfl⟩
 }
 refine ⟨by rw [hv]; exact ⟨h1.1, rfl, h1.2.2⟩, hl.congr (fun x hx => ho x (by simp [BT.nodes, hx]) (hnl x hx)), hrr.congr (fun x hx => ho x (by simp [BT.nodes, hx]) (hnr x hx)), by rw [hv]; exact h2, ?_, ?_⟩
 · rw [hv, tot_congr (fun x hx => (hlk x hx).1)]; exact h3
 · rw [hv]; exact best_congr (fun x hx => (hlk x hx).2) h4
 }
theorem wrap64_add (a b : Int) : wrap64 (wrap64 a + wrap64 b) = wrap64 (a + b) := by unfold wrap64; omega
theorem before_total {σ : Tbl} {x y : Nat} (h : x ≠ y) : beforeB σ x y = !beforeB σ y x := by
 unfold beforeB
 by_cases h1 : (σ x).key < (σ y).key
 {
 have h2 : ¬ (σ y).key < (σ x).key := by omega
 have h3 : ¬ (σ y).key = (σ x).key := by omega
 simp [h1, h2, h3]
 }
 {
 by_cases h2 : (σ y).key < (σ x).key
 {
 have h3 : ¬ (σ x).key = (σ y).key := by omega
 simp [h1, h2, h3]
 }
 {
 have h3 : (σ x).key = (σ y).key := by omega
 by_cases h4 : x < y
 {
 have : ¬ y < x := by omega
 simp [h3, h4, this]
 }
 {
 have : y < x := by omega
 simp [h3, h4, this]
 }
 }
 }
theorem before_trans {σ : Tbl} {x y z : Nat} (h1 : beforeB σ x y = true) (h2 : beforeB σ y z = true) : beforeB σ x z = true := by
 unfold beforeB at *
 simp only [Bool.or_eq_true, Bool.and_eq_true, decide_eq_true_eq] at *
 omega
theorem best_join {σ : Tbl} {l m : List Nat} {x y : Nat} (hx : IsBest σ l x) (hy : IsBest σ m y) : IsBest σ (l ++ m) (if beforeB σ y x then y else x) := by
 by_cases hb : beforeB σ y x = true
 {
 rw [if_pos hb]
 refine ⟨by simp [hy.1], fun z hz hne => ?_⟩
 rcases List.mem_append.1 hz with hz | hz
 {
 by_cases e : z = x
 · rw [e]; exact hb
 · exact before_trans hb (hx.2 z hz e)
 }
 · exact hy.2 z hz hne
 }
 {
 rw [if_neg hb]
 refine ⟨by simp [hx.1], fun z hz hne => ?_⟩
 rcases List.mem_append.1 hz with hz | hz
 · exact hx.2 z hz hne
 {
 by_cases e : x = y
 · exact hy.2 z hz (by rw [← e]; exact hne) |> fun h => by rw [e]; exact h
 {
 have hxy : beforeB σ x y = true := by rw [before_total e]; simpa using hb
 by_cases e' : z = y
 · rw [e']; exact hxy
 · exact before_trans hxy (hy.2 z hz e')
 }
 }
 }
theorem best_perm {σ : Tbl} {l m : List Nat} {x : Nat} (h : l.Perm m) (hx : IsBest σ l x) : IsBest σ m x :=
  ⟨h.mem_iff.1 hx.1, fun y hy => hx.2 y (h.mem_iff.2 hy)⟩
theorem refKid_rep {σ : Tbl} {i : Nat} {k : BT} {l : List Nat} (hi : i ∉ k.nodes) (hk : Rep σ k i) (hsz : (σ i).size = wrap64 l.length) (htot : (σ i).total = wrap64 (tot σ l)) (hb : IsBest σ l (σ i).first) :
    (refKid σ i k.root i).size = wrap64 (l ++ k.nodes).length ∧ (refKid σ i k.root i).total = wrap64 (tot σ (l ++ k.nodes)) ∧ IsBest σ (l ++ k.nodes) (refKid σ i k.root i).first := by
 cases k with
 | nil => simpa [refKid, BT.root, BT.nodes] using ⟨hsz, htot, hb⟩
 | node f a v b => {
 obtain ⟨h1, _, _, h2, h3, h4⟩ := hk
 have hvi : v ≠ i := by rintro rfl; exact hi (by simp [BT.nodes])
 have hj := best_join hb h4
 have hbef : ∀ τ : Tbl, (∀ x, (τ x).key = (σ x).key) → ∀ x y, beforeB τ x y = beforeB σ x y := by intro τ hτ x y; unfold beforeB; rw [hτ, hτ]
 have hfirst : (refKid σ i v i).first = if beforeB σ (σ v).first (σ i).first then (σ v).first else (σ i).first := by {
 unfold refKid
 rw [if_neg h1.1]
 simp only [upd_same, upd_other hvi]
 rw [hbef _ (fun x => by by_cases e : x = i <;> simp [Tbl.upd, e])]
 split <;> simp [upd_same]
 }
 have hsize : (refKid σ i v i).size = wrap64 ((σ i).size + (σ v).size) ∧ (refKid σ i v i).total = wrap64 ((σ i).total + (σ v).total) := by {
 unfold refKid
 rw [if_neg h1.1]
 simp only [upd_same, upd_other hvi]
 split <;> simp [upd_same]
 }
 show (refKid σ i v i).size = _ ∧ (refKid σ i v i).total = _ ∧ IsBest σ _ (refKid σ i v i).first
 refine ⟨?_, ?_, ?_⟩
 · rw [hsize.1, hsz, h2, wrap64_add, List.length_append, Int.natCast_add]
 · rw [hsize.2, htot, h3, wrap64_add]; unfold tot; rw [List.map_append, List.sum_append]
 · rw [hfirst]; exact hj
 }
theorem refresh_rep {σ : Tbl} {f : Bool} {l r : BT} {v u : Nat} (hv : v ≠ 0) (hup : (σ v).up = u) (hf : (σ v).flip = f) (h0 : (σ v).k0 = l.root) (h1 : (σ v).k1 = r.root) (hl : Rep σ l v) (hr : Rep σ r v) (nl : v ∉ l.nodes) (nr : v ∉ r.nodes) :
    Rep (refresh σ v) (.node f l v r) u := by
 have hlk := @refresh_links σ v v
 have hc : ∀ x, x ≠ v → refresh σ v x = σ x := fun x hx => refresh_other hx
 have key : (refresh σ v v).size = wrap64 (([v] ++ l.nodes) ++ r.nodes).length ∧ (refresh σ v v).total = wrap64 (tot σ (([v] ++ l.nodes) ++ r.nodes)) ∧ IsBest σ (([v] ++ l.nodes) ++ r.nodes) (refresh σ v v).first := by {
 have a := refKid_rep (σ := ref0 σ v) (i := v) (k := l) (l := [v]) nl (hl.congr (fun x hx => by rw [ref0, upd_other (by rintro rfl; exact nl hx)])) (by simp [ref0, upd_same, wrap64]) (by simp [ref0, upd_same, tot]) (by simp [ref0, upd_same, IsBest])
 have hk0 : ∀ x, (ref0 σ v x).light = (σ x).light ∧ (ref0 σ v x).key = (σ x).key := by {
 intro x; by_cases e : x = v
 · subst e; simp [ref0, upd_same]
 · simp [ref0, upd_other e]
 }
 have hk1 : ∀ x, (refKid (ref0 σ v) v l.root x).light = (σ x).light ∧ (refKid (ref0 σ v) v l.root x).key = (σ x).key := by {
 intro x; have := @refKid_links (ref0 σ v) v l.root x
 exact ⟨this.2.2.2.2.2.trans (hk0 x).1, this.2.2.2.2.1.trans (hk0 x).2⟩
 }
 have b := refKid_rep (σ := refKid (ref0 σ v) v l.root) (i := v) (k := r) (l := [v] ++ l.nodes) nr (hr.congr (fun x hx => by
   have : x ≠ v := by rintro rfl; exact nr hx
   rw [refKid_other this, ref0, upd_other this])) a.1 (by rw [a.2.1, tot_congr (fun x _ => (hk0 x).1), tot_congr (σ' := refKid (ref0 σ v) v l.root) (fun x _ => (hk1 x).1)]) (best_congr (fun x _ => by rw [(hk1 x).2, (hk0 x).2]) a.2.2)
 have e : refresh σ v = refKid (refKid (ref0 σ v) v l.root) v r.root := by {
 show refKid (refKid (ref0 σ v) v (σ v).k0) v (σ v).k1 = _
 rw [h0, h1]
 }
 rw [e]
 refine ⟨b.1, ?_, ?_⟩
 · rw [b.2.1, tot_congr (fun x _ => (hk1 x).1)]
 · exact best_congr (fun x _ => ((hk1 x).2).symm) b.2.2
 }
 have hp : (([v] ++ l.nodes) ++ r.nodes).Perm (l.nodes ++ v :: r.nodes) := by {
 simp only [List.cons_append]
 exact List.perm_middle.symm
 }
 refine ⟨⟨hv, by rw [hlk.2.2.1]; exact hup, by rw [hlk.2.2.2.1]; exact hf, by rw [hlk.1]; exact h0, by rw [hlk.2.1]; exact h1⟩, hl.congr (fun x hx => hc x (by rintro rfl; exact nl hx)), hr.congr (fun x hx => hc x (by rintro rfl; exact nr hx)), ?_, ?_, ?_⟩
 · rw [key.1, hp.length_eq]; rfl
 · rw [key.2.1, tot_congr (σ := σ) (σ' := refresh σ v) (fun x _ => refresh_links.2.2.2.2.2), tot_perm hp]; rfl
 · exact best_congr (fun x _ => refresh_links.2.2.2.2.1) (best_perm hp key.2.2)
end Go.Proofs.YtgmnemndjjmgkaaGreat

namespace Go.Proofs.YtgmnemndjjmgkaaGreat
open Go.RowKit
theorem hang_at {σ : Tbl} {i s k x : Nat} (hik : k ≠ i) : hang σ i s k x = if x = i then setKid (σ i) s k else if x = k ∧ k ≠ 0 then { σ k with up := i } else σ x := by
 unfold hang
 by_cases hk : k = 0
 {
 simp only [if_pos hk]
 by_cases e : x = i
 · subst e; rw [upd_same, if_pos rfl]
 · rw [upd_other e, if_neg e, if_neg (by simp [hk])]
 }
 {
 simp only [if_neg hk]
 by_cases e : x = k
 · subst e; rw [upd_same, if_neg hik, if_pos ⟨rfl, hk⟩, upd_other hik]
 {
 rw [upd_other e]
 by_cases e' : x = i
 · subst e'; rw [upd_same, if_pos rfl]
 · rw [upd_other e', if_neg e', if_neg (by simp [e])]
 }
 }
theorem kid_setKid (n : Nd) (s k : Nat) : kid (setKid n s k) s = k := by unfold kid setKid; split <;> rfl
theorem kid_setKid_ne {n : Nd} {s s' k : Nat} (hs : s < 2) (hs' : s' < 2) (h : s' ≠ s) : kid (setKid n s k) s' = kid n s' := by
 unfold kid setKid
 rcases (show s = 0 ∨ s = 1 by omega) with rfl | rfl
 · rw [if_neg h, if_neg h]; simp
 {
 obtain rfl : s' = 0 := by omega
 simp
 }
theorem setKid_rest (n : Nd) (s k : Nat) : (setKid n s k).up = n.up ∧ (setKid n s k).flip = n.flip ∧ (setKid n s k).key = n.key ∧ (setKid n s k).size = n.size ∧ (setKid n s k).first = n.first ∧ (setKid n s k).light = n.light ∧ (setKid n s k).total = n.total := by
 unfold setKid; split <;> simp
theorem kid_up (n : Nd) (s u : Nat) : kid { n with up := u } s = kid n s := rfl
theorem rot3_in {σ : Tbl} {i p g s s' : Nat} (_hs : s < 2) (hp : (σ i).up = p) (hg : (σ p).up = g) (h1 : sideOf σ i = (s, true)) (h2 : sideOf σ p = (s', true)) (hpi : p ≠ i) (hgi : g ≠ i) (hgp : g ≠ p) (hi0 : i ≠ 0) (hp0 : p ≠ 0)
    (hki : kid (σ i) (1 - s) ≠ i) (hkp : kid (σ i) (1 - s) ≠ p) (hkg : kid (σ i) (1 - s) ≠ g ∨ kid (σ i) (1 - s) = 0) (x : Nat) :
    rot3 σ i x = if x = i then { setKid (σ i) (1 - s) p with up := g } else if x = p then { setKid (σ p) s (kid (σ i) (1 - s)) with up := i } else if x = g then setKid (σ g) s' i else if x = kid (σ i) (1 - s) ∧ kid (σ i) (1 - s) ≠ 0 then { σ x with up := p } else σ x := by
 have a1 : ∀ x, rot1 σ i x = if x = g then setKid (σ g) s' i else if x = i then { σ i with up := g } else σ x := by {
 intro x
 unfold rot1
 rw [hp, h2, hg, if_pos rfl, hang_at (fun e => hgi e.symm)]
 by_cases e : x = g
 · rw [if_pos e, if_pos e]
 {
 rw [if_neg e, if_neg e]
 by_cases e' : x = i
 · rw [if_pos ⟨e', hi0⟩, if_pos e']
 · rw [if_neg (fun h => e' h.1), if_neg e']
 }
 }
 have hk1 : kid (rot1 σ i i) (1 - s) = kid (σ i) (1 - s) := by rw [a1, if_neg (fun e => hgi e.symm), if_pos rfl, kid_up]
 generalize hk : kid (σ i) (1 - s) = k at *
 have a2 : ∀ x, rot2 σ i x = if x = p then setKid (σ p) s k else if x = k ∧ k ≠ 0 then { rot1 σ i k with up := p } else rot1 σ i x := by {
 intro x
 unfold rot2
 rw [hp, h1, hk1, hang_at hkp]
 have e : rot1 σ i p = σ p := by rw [a1 p, if_neg (fun e => hgp e.symm), if_neg hpi]
 rw [e]
 }
 unfold rot3
 rw [hp, h1, hang_at hpi]
 by_cases e1 : x = i
 {
 subst e1
 rw [if_pos rfl, if_pos rfl, a2, if_neg (fun e => hpi e.symm), if_neg (fun h => hki h.1.symm), a1, if_neg (fun e => hgi e.symm), if_pos rfl]
 dsimp only; unfold setKid; split <;> rfl
 }
 {
 rw [if_neg e1, if_neg e1]
 by_cases e2 : x = p
 {
 subst e2
 rw [if_pos ⟨rfl, hp0⟩, if_pos rfl, a2, if_pos rfl]
 }
 {
 rw [if_neg (fun h => e2 h.1), if_neg e2, a2, if_neg e2]
 by_cases e3 : x = k ∧ k ≠ 0
 {
 have hxg : x ≠ g := by {
 intro e; rcases hkg with h | h
 · exact h (e3.1.symm.trans e)
 · exact e3.2 h
 }
 rw [if_pos e3, if_neg hxg, if_pos e3, ← e3.1, a1, if_neg hxg, if_neg e1]
 }
 {
 rw [if_neg e3, a1]
 by_cases e4 : x = g
 · rw [if_pos e4, if_pos e4]
 · rw [if_neg e4, if_neg e4, if_neg e1, if_neg e3]
 }
 }
 }
theorem rot3_top {σ : Tbl} {i p g s s' : Nat} (_hs : s < 2) (hp : (σ i).up = p) (hg : (σ p).up = g) (h1 : sideOf σ i = (s, true)) (h2 : sideOf σ p = (s', false)) (hpi : p ≠ i) (hi0 : i ≠ 0) (hp0 : p ≠ 0)
    (hki : kid (σ i) (1 - s) ≠ i) (hkp : kid (σ i) (1 - s) ≠ p) (x : Nat) :
    rot3 σ i x = if x = i then { setKid (σ i) (1 - s) p with up := g } else if x = p then { setKid (σ p) s (kid (σ i) (1 - s)) with up := i } else if x = kid (σ i) (1 - s) ∧ kid (σ i) (1 - s) ≠ 0 then { σ x with up := p } else σ x := by
 have a1 : ∀ x, rot1 σ i x = if x = i then { σ i with up := g } else σ x := by {
 intro x
 unfold rot1
 rw [hp, h2, hg, if_neg (by simp)]
 rfl
 }
 have hk1 : kid (rot1 σ i i) (1 - s) = kid (σ i) (1 - s) := by rw [a1, if_pos rfl, kid_up]
 generalize hk : kid (σ i) (1 - s) = k at *
 have a2 : ∀ x, rot2 σ i x = if x = p then setKid (σ p) s k else if x = k ∧ k ≠ 0 then { rot1 σ i k with up := p } else rot1 σ i x := by {
 intro x
 unfold rot2
 rw [hp, h1, hk1, hang_at hkp]
 have e : rot1 σ i p = σ p := by rw [a1 p, if_neg hpi]
 rw [e]
 }
 unfold rot3
 rw [hp, h1, hang_at hpi]
 by_cases e1 : x = i
 {
 subst e1
 rw [if_pos rfl, if_pos rfl, a2, if_neg (fun e => hpi e.symm), if_neg (fun h => hki h.1.symm), a1, if_pos rfl]
 dsimp only; unfold setKid; split <;> rfl
 }
 {
 rw [if_neg e1, if_neg e1]
 by_cases e2 : x = p
 {
 subst e2
 rw [if_pos ⟨rfl, hp0⟩, if_pos rfl, a2, if_pos rfl]
 }
 {
 rw [if_neg (fun h => e2 h.1), if_neg e2, a2, if_neg e2]
 by_cases e3 : x = k ∧ k ≠ 0
 · rw [if_pos e3, if_pos e3, ← e3.1, a1, if_neg e1]
 · rw [if_neg e3, a1, if_neg e1, if_neg e3]
 }
 }
structure Fm where
  s : Bool
  f : Bool
  p : Nat
  o : BT
def Fm.fill (a : Fm) (t : BT) : BT := if a.s then .node a.f a.o a.p t else .node a.f t a.p a.o
def plug : List Fm → BT → BT
  | [], t => t
  | a :: c, t => plug c (a.fill t)
def upOf : List Fm → Nat → Nat
  | [], u => u
  | a :: _, _ => a.p
def sd (b : Bool) : Nat := if b then 1 else 0
def RepC (σ : Tbl) : List Fm → Nat → List Nat → Nat → Prop
  | [], _, _, _ => True
  | a :: c, x, ns, u => (a.p ≠ 0 ∧ (σ a.p).up = upOf c u ∧ (σ a.p).flip = a.f ∧ kid (σ a.p) (sd a.s) = x ∧ kid (σ a.p) (sd !a.s) = a.o.root) ∧ Rep σ a.o a.p ∧
      ((σ a.p).size = wrap64 (ns ++ a.p :: a.o.nodes).length ∧ (σ a.p).total = wrap64 (tot σ (ns ++ a.p :: a.o.nodes)) ∧ IsBest σ (ns ++ a.p :: a.o.nodes) (σ a.p).first) ∧ RepC σ c a.p (ns ++ a.p :: a.o.nodes) u
theorem fill_perm (a : Fm) (t : BT) : (a.fill t).nodes.Perm (t.nodes ++ a.p :: a.o.nodes) := by
 unfold Fm.fill
 cases a.s with
 | false => exact .refl _
 | true => {
 simp only [if_true, BT.nodes]
 refine List.perm_middle.trans (((List.perm_append_comm).cons a.p).trans List.perm_middle.symm)
 }
theorem fill_root (a : Fm) (t : BT) : (a.fill t).root = a.p := by unfold Fm.fill; split <;> rfl
theorem RepC.perm {σ : Tbl} : ∀ {c : List Fm} {x : Nat} {ns ms : List Nat} {u : Nat}, ns.Perm ms → RepC σ c x ns u → RepC σ c x ms u
  | [], _, _, _, _, _, _ => trivial
  | a :: c, x, ns, ms, u, hp, ⟨h1, h2, ⟨h3, h4, h5⟩, h6⟩ => by
    have hq : (ns ++ a.p :: a.o.nodes).Perm (ms ++ a.p :: a.o.nodes) := hp.append_right _
    exact ⟨h1, h2, ⟨by rw [h3, hq.length_eq], by rw [h4, tot_perm hq], best_perm hq h5⟩, h6.perm hq⟩
theorem rep_fill {σ : Tbl} {a : Fm} {t : BT} {u : Nat} : Rep σ (a.fill t) u ↔ Rep σ t a.p ∧ (a.p ≠ 0 ∧ (σ a.p).up = u ∧ (σ a.p).flip = a.f ∧ kid (σ a.p) (sd a.s) = t.root ∧ kid (σ a.p) (sd !a.s) = a.o.root) ∧ Rep σ a.o a.p ∧
      ((σ a.p).size = wrap64 (t.nodes ++ a.p :: a.o.nodes).length ∧ (σ a.p).total = wrap64 (tot σ (t.nodes ++ a.p :: a.o.nodes)) ∧ IsBest σ (t.nodes ++ a.p :: a.o.nodes) (σ a.p).first) := by
 have hp := fill_perm a t
 obtain ⟨s, f, p, o⟩ := a
 cases s with
 | false => {
 simp only [Fm.fill, Rep, kid, sd, Bool.not_false, if_true, Bool.false_eq_true, if_false, BT.nodes, Nat.one_ne_zero]
 constructor
 · rintro ⟨⟨a1, a2, a3, a4, a5⟩, b, c, d⟩; exact ⟨b, ⟨a1, a2, a3, a4, a5⟩, c, d⟩
 · rintro ⟨b, ⟨a1, a2, a3, a4, a5⟩, c, d⟩; exact ⟨⟨a1, a2, a3, a4, a5⟩, b, c, d⟩
 }
 | true => {
 simp only [Fm.fill, if_true, BT.nodes] at hp
 simp only [Fm.fill, Rep, kid, sd, Bool.not_true, if_true, Bool.false_eq_true, if_false, BT.nodes, Nat.one_ne_zero]
 rw [hp.length_eq, tot_perm hp]
 constructor
 · rintro ⟨⟨a1, a2, a3, a4, a5⟩, b, c, d, e, g⟩; exact ⟨c, ⟨a1, a2, a3, a5, a4⟩, b, d, e, best_perm hp g⟩
 · rintro ⟨c, ⟨a1, a2, a3, a5, a4⟩, b, d, e, g⟩; exact ⟨⟨a1, a2, a3, a4, a5⟩, b, c, d, e, best_perm hp.symm g⟩
 }
theorem rep_plug {σ : Tbl} : ∀ {c : List Fm} {t : BT} {u : Nat}, Rep σ (plug c t) u ↔ Rep σ t (upOf c u) ∧ RepC σ c t.root t.nodes u
  | [], t, u => by simp [plug, upOf, RepC]
  | a :: c, t, u => by
    simp only [plug, upOf, RepC]
    rw [rep_plug, rep_fill, fill_root]
    constructor
    · rintro ⟨⟨h1, h2, h3, h4⟩, h5⟩; exact ⟨h1, h2, h3, h4, h5.perm (fill_perm a t)⟩
    · rintro ⟨h1, h2, h3, h4, h5⟩; exact ⟨⟨h1, h2, h3, h4⟩, h5.perm (fill_perm a t).symm⟩
end Go.Proofs.YtgmnemndjjmgkaaGreat
