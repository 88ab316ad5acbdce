/- ForestNews: the walk. -/
import Derived.Test.YthkkelkgfkehlaaGreatForestPlaysZ1
import Derived.Test.YthkkelkgfkehlaaGreatB14
/- ForestLate: the walk. -/
namespace Go.Proofs.YthkkelkgfkehlaaGreat
open Go.RowKit Classical
set_option maxRecDepth 10000
set_option maxHeartbeats 1600000

theorem small_true {n : Int} {len : Nat} (h : smallF n len = true) : ∃ m : Nat, n = m ∧ m ≤ 30 ∧ len ≤ 80 := by
  unfold smallF at h
  simp only [Bool.and_eq_true, decide_eq_true_eq] at h
  exact ⟨n.toNat, by omega, by omega, h.2.2⟩
/-- What the walk of a law carries: the forest, and the row of what is there. -/
def LK (W wr : World) (pf S V : Nat) (G : EMap) (tb : Nat) (f : Nat → Bool) : Prop := ∃ L, FO W wr pf S V G L ∧ Blk wr tb 4 (bRow S f) ∧ W.heap.size ≤ tb ∧ tb ∉ L
/-- All its blocks are below m. -/
def LKm (W wr : World) (pf S V : Nat) (G : EMap) (tb : Nat) (f : Nat → Bool) (m : Nat) : Prop := ∃ L, FO W wr pf S V G L ∧ Blk wr tb 4 (bRow S f) ∧ W.heap.size ≤ tb ∧ tb ∉ L ∧ (∀ q ∈ L, q < m) ∧ tb < m
section
variable {W wr w' : World} {pf S V tb m : Nat} {G G' : EMap} {f : Nat → Bool} {L : List Nat}
theorem LK.now (h : LK W wr pf S V G tb f) : LKm W wr pf S V G tb f wr.heap.size := by
  obtain ⟨L, h1, h2, h3, h4⟩ := h
  exact ⟨L, h1, h2, h3, h4, h1.lt, h2.lt⟩
theorem LKm.lk (h : LKm W wr pf S V G tb f m) : LK W wr pf S V G tb f := by
  obtain ⟨L, h1, h2, h3, h4, _⟩ := h
  exact ⟨L, h1, h2, h3, h4⟩
theorem LKm.keep (h : LKm W wr pf S V G tb f m) {X : List Nat} (hf : Fr X wr w') (hx : ∀ q ∈ X, m ≤ q) (hw : ∀ q ∈ X, W.heap.size ≤ q) : LKm W w' pf S V G tb f m := by
  obtain ⟨L, h1, h2, h3, h4, h5, h6⟩ := h
  exact ⟨L, h1.keep hf (fun q hq hm => by have := hx q hm; have := h5 q hq; omega) hw, hf.blk h2 (fun hm => by have := hx _ hm; omega), h3, h4, h5, h6⟩
theorem LKm.keep0 (h : LKm W wr pf S V G tb f m) (hf : Fr [] wr w') : LKm W w' pf S V G tb f m := h.keep hf (by simp) (by simp)
theorem LKm.fr (h : LKm W wr pf S V G tb f m) : Fr [] W wr := by obtain ⟨L, h1, _⟩ := h; exact h1.fr
theorem LKm.blk (h : LKm W wr pf S V G tb f m) : Blk wr tb 4 (bRow S f) := by obtain ⟨L, _, h2, _⟩ := h; exact h2
theorem LKm.tree (h : LKm W wr pf S V G tb f m) {s : Int} (hs : -9223372036854775808 ≤ s ∧ s ≤ 9223372036854775807) : Calls Tryz.prog 18 #[fptr pf, .int .i64 s] wr fun e w' => e = .returned (.bool (treeG G s)) ∧ LKm W w' pf S V G tb f m ∧ Fr [] wr w' := by
  obtain ⟨L, h1, h2, h3, h4⟩ := h
  refine (fo_tree h1 hs).mono ?_
  rintro e w' ⟨rfl, h5, h6⟩
  exact ⟨rfl, ⟨L, h5, h6.blk h2 (by simp), h3, h4⟩, h6⟩
theorem LK.keep (h : LK W wr pf S V G tb f) (hf : Fr [] wr w') : LK W w' pf S V G tb f := by
  obtain ⟨L, h1, h2, h3, h4⟩ := h
  exact ⟨L, h1.keep0 hf, hf.blk h2 (by simp), h3, h4⟩
theorem LK.fr (h : LK W wr pf S V G tb f) : Fr [] W wr := by obtain ⟨L, h1, _⟩ := h; exact h1.fr
theorem LK.blk (h : LK W wr pf S V G tb f) : Blk wr tb 4 (bRow S f) := by obtain ⟨L, _, h2, _⟩ := h; exact h2
theorem LK.tree (h : LK W wr pf S V G tb f) {s : Int} (hs : -9223372036854775808 ≤ s ∧ s ≤ 9223372036854775807) : Calls Tryz.prog 18 #[fptr pf, .int .i64 s] wr fun e w' => e = .returned (.bool (treeG G s)) ∧ LK W w' pf S V G tb f ∧ Fr [] wr w' := by
  obtain ⟨L, h1, h2, h3, h4⟩ := h
  refine (fo_tree h1 hs).mono ?_
  rintro e w' ⟨rfl, h5, h6⟩
  exact ⟨rfl, ⟨L, h5, h6.blk h2 (by simp), h3, h4⟩, h6⟩
end

end Go.Proofs.YthkkelkgfkehlaaGreat

/- ForestUntil: the walk. -/
namespace Go.Proofs.YthkkelkgfkehlaaGreat
open Go.RowKit Classical
set_option maxRecDepth 10000
set_option maxHeartbeats 1600000

section
variable {S V : Nat} {z : Nat → Int × Int × Int} {P : Nat → Prop} {a b : Nat} {T : Int}
theorem eg_cx : Cx (EG S V z P) (fun _ => True) a b ↔ Cx (EG S V z fun _ => True) P a b := by
  constructor
  · intro h
    refine h.mono' fun u f _ hg => ?_
    obtain ⟨a, b, x⟩ := f
    obtain ⟨⟨h1, h2, h3⟩, rfl, rfl, rfl⟩ := eg_some.1 hg
    exact ⟨h1, eg_at ⟨trivial, h2, h3⟩⟩
  · intro h
    refine h.mono' fun u f hp hg => ?_
    obtain ⟨a, b, x⟩ := f
    obtain ⟨⟨h1, h2, h3⟩, rfl, rfl, rfl⟩ := eg_some.1 hg
    exact ⟨trivial, eg_at ⟨hp, h2, h3⟩⟩
theorem until_early (h : IsUntil (EG S V z fun _ => True) a b T) : Cx (EG S V z fun t => ¬ (z t).2.2 < T) (fun _ => True) a b :=
  eg_cx.2 (h.1.mono fun u f hu hg => by
    obtain ⟨_, _, x, h1, h2⟩ := hu
    obtain ⟨_, _, _, rfl⟩ := eg_some.1 h1
    omega)
theorem until_upto (h : IsUntil (EG S V z fun _ => True) a b T) : ¬ Cx (EG S V z fun t => ¬ (z t).2.2 ≤ T) (fun _ => True) a b := fun hc =>
  h.2 ((eg_cx.1 hc).mono fun u f hu hg => by
    obtain ⟨a, b, x⟩ := f
    obtain ⟨_, rfl, rfl, rfl⟩ := eg_some.1 hg
    exact ⟨_, _, _, hg, by omega⟩)
theorem until_some (h : IsUntil (EG S V z fun _ => True) a b T) : cntT S (fun t => okE V (z t) = true ∧ (z t).2.2 < T) < cntT S fun t => okE V (z t) = true ∧ (z t).2.2 ≤ T := by
  apply Classical.byContradiction
  intro hn
  refine until_upto h ?_
  have e : EG S V z (fun t => ¬ (z t).2.2 < T) = EG S V z (fun t => ¬ (z t).2.2 ≤ T) := by
    funext t
    unfold EG
    by_cases hp : ¬ (z t).2.2 ≤ T ∧ t < S ∧ okE V (z t) = true
    · rw [if_pos hp, if_pos ⟨by omega, hp.2⟩]
    · rw [if_neg hp]
      rw [if_neg]
      rintro ⟨h1, h2, h3⟩
      refine hn (cnt_lt_of (fun s hs => ⟨hs.1, by omega⟩) h2 ⟨h3, ?_⟩ (fun h => h1 h.2))
      apply Classical.byContradiction
      intro h4
      exact hp ⟨h4, h2, h3⟩
  rw [← e]; exact until_early h
theorem connG_iff {G : EMap} {x y : Int} (h : inV V x = true ∧ inV V y = true) : connG V G x y = decide (Cx G (fun _ => True) x.toNat y.toNat) := by
  unfold connG; rw [h.1, h.2]; rfl
/-- What Until says where it says something. -/
theorem until_true {x y : Int} (_hG : GW S V (EG S V z fun _ => True)) (hu : ∀ x y : Int, untilB V (EG S V z fun _ => True) x y = true → ∃ T, IsUntil (EG S V z fun _ => True) x.toNat y.toNat T) (h : untilB V (EG S V z fun _ => True) x y = true) :
    inV V x = true ∧ inV V y = true ∧ IsUntil (EG S V z fun _ => True) x.toNat y.toNat (untilV V (EG S V z fun _ => True) x y) := by
  obtain ⟨T, hT⟩ := hu x y h
  have e : untilV V (EG S V z fun _ => True) x y = T := by unfold untilV; rw [if_pos h]; exact untilI_eq hT
  have h' := h
  unfold untilB connG at h'
  simp only [Bool.and_eq_true] at h'
  rw [e]
  exact ⟨h'.2.1.1, h'.2.1.2, hT⟩
end

/-- Where two vertices are connected, the first edge of their path says until when. -/
theorem until_ex {G : EMap} {S V : Nat} (hG : GW S V G) {a b : Nat} (hab : a ≠ b) (h : Cx G (fun _ => True) a b) : ∃ T, IsUntil G a b T := by
  -- the latest time with which they are connected
  have key : ∀ (k : Nat) (U : Nat → Prop), cntT S U ≤ k → (∀ t, U t → ∃ e, G t = some e) → Upw G U → Cx G U a b → ∃ T, IsUntil G a b T := by
    intro k
    induction k with
    | zero =>
      intro U hk hU _ hc
      exfalso
      have h0 : ∀ s, ¬ U s := fun s hs => by obtain ⟨e, he⟩ := hU s hs; exact cnt_zero (by omega) s (hG.slot s e he) hs
      cases hc with
      | refl => exact hab rfl
      | step s x _ h1 _ => exact h0 s h1
    | succ k ih =>
      intro U hk hU hup hc
      by_cases hex : ∃ s, U s
      · obtain ⟨s, c, d, x, hs, hgs, hall⟩ := first_ex hG.slot (k + 1) U hk hU hex
        by_cases hb : Cx G (Beyond G x) a b
        · -- what is beyond x is fewer
          have hd := cntT_drop (T := U) (hG.slot s _ hgs) hs
          have hsub : ∀ t, Beyond G x t ∧ U t → U t ∧ t ≠ s := fun t ⟨⟨_, _, y, h1, h2⟩, h3⟩ => ⟨h3, by rintro rfl; rw [hgs] at h1; simp at h1; omega⟩
          refine ih (fun t => Beyond G x t ∧ U t) (by have := cnt_le_of S hsub; omega) (fun t ht => hU t ht.2) ?_ ?_
          · rintro t c' d' y u ⟨⟨_, _, y', h1, h2⟩, h3⟩ h4 h5
            refine ⟨?_, hup t c' d' y u h3 h4 h5⟩
            rw [h4] at h1; simp only [Option.some.injEq, Prod.mk.injEq] at h1
            obtain ⟨_, _, v, h6, h7⟩ := h5
            exact ⟨_, _, v, h6, by unfold bef at h7; omega⟩
          · exact hb.mono fun t f ht hg => ⟨ht, by
              obtain ⟨_, _, y, h1, h2⟩ := ht
              by_cases e : t = s
              · rw [e]; exact hs
              · exact hup s c d x t hs hgs ⟨_, _, y, h1, by unfold bef; omega⟩⟩
        · refine ⟨x, hc.mono fun t f ht hg => ?_, hb⟩
          by_cases e : t = s
          · subst e; exact ⟨_, _, _, hgs, Int.le_refl _⟩
          · obtain ⟨_, _, y, h1, h2⟩ := hall t ht e
            exact ⟨_, _, y, h1, by unfold bef at h2; omega⟩
      · exfalso
        cases hc with
        | refl => exact hab rfl
        | step s x _ h1 _ => exact hex ⟨s, h1⟩
  refine key _ (fun t => ∃ e, G t = some e) (Nat.le_refl _) (fun t h => h) (fun _ _ _ _ _ _ _ ⟨_, _, _, h, _⟩ => ⟨_, h⟩) (h.mono fun t f _ hg => ⟨f, hg⟩)
theorem until_exB {G : EMap} {S V : Nat} (hG : GW S V G) {x y : Int} (h : untilB V G x y = true) : ∃ T, IsUntil G x.toNat y.toNat T := by
  unfold untilB connG at h
  simp only [Bool.and_eq_true, decide_eq_true_eq] at h
  obtain ⟨h1, ⟨h2, h3⟩, h4⟩ := h
  obtain ⟨a, rfl, _⟩ := inV_nat h2
  obtain ⟨b, rfl, _⟩ := inV_nat h3
  exact until_ex hG (by omega) h4

/-- A forest that was made since the call began; its blocks are not told. -/
def FX (W wr : World) (pf S V : Nat) (G : EMap) : Prop := ∃ L, FO W wr pf S V G L
theorem FX.fr {W wr : World} {pf S V : Nat} {G : EMap} (h : FX W wr pf S V G) : Fr [] W wr := by obtain ⟨L, h⟩ := h; exact h.fr
theorem FX.exp {W wr : World} {pf S V : Nat} {G : EMap} (h : FX W wr pf S V G) : Calls Tryz.prog 9 #[fptr pf] wr fun e w' => e = .returned (.tuple #[.int .i64 ((fstG G).getD 0 : Nat), .bool (fstG G).isSome]) ∧ FX W w' pf S V (popG G) := by
  obtain ⟨L, h⟩ := h
  refine (fo_exp h).mono ?_
  rintro e w' ⟨rfl, L', h1, _⟩
  exact ⟨rfl, L', h1⟩
theorem FX.conn {W wr : World} {pf S V : Nat} {G : EMap} (h : FX W wr pf S V G) (x y : Int) : Calls Tryz.prog 38 #[fptr pf, .int .i64 x, .int .i64 y] wr fun e w' => e = .returned (.bool (connG V G x y)) ∧ FX W w' pf S V G := by
  obtain ⟨L, h⟩ := h
  refine (fo_conn h x y).mono ?_
  rintro e w' ⟨rfl, L', h1, _⟩
  exact ⟨rfl, L', h1⟩
end Go.Proofs.YthkkelkgfkehlaaGreat

/- The document's forest: Until. -/
namespace Go.Proofs.YthkkelkgfkehlaaGreat
open Go.RowKit Classical
set_option maxRecDepth 10000
set_option maxHeartbeats 1600000

def lT (l : List RE) (i : Nat) : Int := (l.getD i (0, 0, 0, 0)).2.2.2
def lateL (l : List RE) (t : Int) : List RE := l.filter fun e => decide (t ≤ e.2.2.2)
noncomputable def bestR (V : Nat) (l : List RE) (a b : Nat) : Nat → Int
  | 0 => -9223372036854775808
  | k + 1 => if rchL V (lateL l (lT l k)) a b && decide (bestR V l a b k < lT l k) then lT l k else bestR V l a b k
noncomputable def untilR (V : Nat) (l : List RE) (a b : Int) : Int := if (decide (a ≠ b) && connL V l a b) = true then bestR V l a.toNat b.toNat l.length else 0

theorem late_ok' {n : Nat} {l : List RE} (h : REok n l) (t : Int) : REok n (lateL l t) := fun x hx => h x (List.mem_filter.1 hx).1
theorem bestR_eq {S V : Nat} {G : EMap} {l : List RE} (hG : GW S V G) (hok : REok V l) (h : Reps G l) {a b : Nat} (ha : a < V) {T : Int} (hT : IsUntil G a b T) : bestR V l a b l.length = T := by
  have hr : ∀ i, i < l.length → (rchL V (lateL l (lT l i)) a b = true ↔ lT l i ≤ T) := by
    intro i hi
    rw [rchL_iff (late_ok' hok _) ha b, cx_sub (AtLeast G (lT l i)) (G := G) (fun s c d y => by
      unfold lateL
      rw [List.mem_filter, ← h.iff]
      refine and_congr_right fun hs => ?_
      rw [decide_eq_true_iff]
      constructor
      · rintro ⟨_, _, y', e1, e2⟩
        rw [hs] at e1; simp only [Option.some.injEq, Prod.mk.injEq] at e1
        obtain ⟨_, _, rfl⟩ := e1
        exact e2
      · intro e2; exact ⟨c, d, y, hs, e2⟩)]
    constructor
    · intro hc
      apply Classical.byContradiction
      intro hn
      exact hT.2 (hc.mono fun t _ ⟨c, d, x, h1, h2⟩ _ => ⟨c, d, x, h1, by omega⟩)
    · intro hle
      exact hT.1.mono fun t _ ⟨c, d, x, h1, h2⟩ _ => ⟨c, d, x, h1, by omega⟩
  have hex : ∃ i, i < l.length ∧ lT l i = T := by
    apply Classical.byContradiction
    intro hn
    refine hT.2 (hT.1.mono fun t f ⟨c, d, x, h1, h2⟩ _ => ⟨c, d, x, h1, ?_⟩)
    obtain ⟨i, hi, he⟩ := List.mem_iff_getElem.1 ((h.iff _ _ _ _).1 h1)
    have : lT l i ≠ T := fun e => hn ⟨i, hi, e⟩
    have e2 : lT l i = x := by simp [lT, hi, he]
    omega
  have hlow : -9223372036854775808 ≤ T := by
    obtain ⟨i, hi, e⟩ := hex
    have hm : l[i] ∈ l := List.getElem_mem hi
    have := hG.rng l[i].1 l[i].2.1 l[i].2.2.1 l[i].2.2.2 ((h.iff _ _ _ _).2 hm)
    have e2 : lT l i = l[i].2.2.2 := by simp [lT, hi]
    omega
  have key : ∀ k, k ≤ l.length → bestR V l a b k ≤ T ∧ ∀ i, i < k → lT l i ≤ T → lT l i ≤ bestR V l a b k := by
    intro k
    induction k with
    | zero => intro _; exact ⟨hlow, fun i hi => absurd hi (Nat.not_lt_zero _)⟩
    | succ k ih =>
      intro hk
      obtain ⟨h1, h2⟩ := ih (by omega)
      have hrk := hr k (by omega)
      unfold bestR
      by_cases hc : (rchL V (lateL l (lT l k)) a b && decide (bestR V l a b k < lT l k)) = true
      · rw [if_pos hc]
        simp only [Bool.and_eq_true, decide_eq_true_eq] at hc
        refine ⟨hrk.1 hc.1, fun i hi hle => ?_⟩
        by_cases e : i = k
        · rw [e]; exact Int.le_refl _
        · have := h2 i (by omega) hle; omega
      · rw [if_neg hc]
        simp only [Bool.and_eq_true, decide_eq_true_eq, not_and] at hc
        refine ⟨h1, fun i hi hle => ?_⟩
        by_cases e : i = k
        · subst e
          have := hc (hrk.2 hle)
          omega
        · exact h2 i (by omega) hle
  obtain ⟨i, hi, e⟩ := hex
  have h1 := (key l.length (Nat.le_refl _)).1
  have h2 := (key l.length (Nat.le_refl _)).2 i hi (by omega)
  omega
theorem untilR_eq {S V : Nat} {G : EMap} {l : List RE} (hG : GW S V G) (hok : REok V l) (h : Reps G l) (a b : Int) : untilR V l a b = untilV V G a b ∧ (decide (a ≠ b) && connL V l a b) = untilB V G a b := by
  have e : (decide (a ≠ b) && connL V l a b) = untilB V G a b := by unfold untilB; rw [connL_eq hok h]
  refine ⟨?_, e⟩
  unfold untilR untilV
  rw [e]
  by_cases hu : untilB V G a b = true
  · rw [if_pos hu, if_pos hu]
    obtain ⟨T, hT⟩ := until_exB hG hu
    rw [untilI_eq hT]
    have hu' := hu
    unfold untilB connG at hu'
    simp only [Bool.and_eq_true] at hu'
    obtain ⟨x, rfl, hx⟩ := inV_nat hu'.2.1.1
    exact bestR_eq hG hok h (by rw [Int.toNat_natCast]; exact hx) hT
  · rw [if_neg hu, if_neg hu]
end Go.Proofs.YthkkelkgfkehlaaGreat

/- The document's forest: Until, the walk. -/
namespace Go.Proofs.YthkkelkgfkehlaaGreat
open Go.RowKit Classical
set_option maxRecDepth 10000
set_option maxHeartbeats 1600000

section
variable {w w' : World} {pr V S : Nat} {v : Value} {l : List RE}
theorem runtil (h : RA w pr V S v l) (a b : Int) : Calls Tryz.prog 37 #[fptr pr, .int .i64 a, .int .i64 b] w fun e w' => e = .returned (.tuple #[.int .i64 (untilR V l a b), .bool (decide (a ≠ b) && connL V l a b)]) ∧ Fr [] w w' := by
  have hV := h.leV
  have hS := h.leS
  have hl := h.len
  by_cases hab : a = b
  · have e1 : (decide (a ≠ b) && connL V l a b) = false := by simp [hab]
    have e2 : untilR V l a b = 0 := by unfold untilR; rw [e1]; rfl
    rw [e1, e2]
    subst hab
    clear h e1 e2
    go_enter Tryz.func37, Tryz.ntmps37
    go_wp2_with fail
    go_ret2
    exact ⟨rfl, Fr.refl _ _⟩
  · have d1 : (a == b) = false := by simp [hab]
    have HC := rconn h a b
    cases hc : connL V l a b with
    | false =>
      have e2 : untilR V l a b = 0 := by unfold untilR; rw [hc]; simp
      rw [hc] at HC
      rw [e2, show (decide (a ≠ b) && false) = false by simp]
      have HC := Lib.hid HC
      clear h e2 hc hab
      go_enter Tryz.func37, Tryz.ntmps37
      go_wp2_with fail
      refine HC.out.mono ?_
      rintro _ w1 ⟨rfl, hf⟩
      have HF := Lib.hid hf; clear hf
      go_wp2_with fail
      go_ret2
      exact ⟨rfl, HF.out⟩
    | true =>
      rw [hc] at HC
      obtain ⟨a, rfl, ha⟩ := inV_nat (show inV V a = true by unfold connL at hc; simp only [Bool.and_eq_true] at hc; exact hc.1.1)
      obtain ⟨b, rfl, hb⟩ := inV_nat (show inV V b = true by unfold connL at hc; simp only [Bool.and_eq_true] at hc; exact hc.1.2)
      have e2 : untilR V l a b = bestR V l a b l.length := by unfold untilR; rw [hc, if_pos (by simp [hab]), Int.toNat_natCast, Int.toNat_natCast]
      obtain ⟨ur, hur⟩ : ∃ ur, ur = untilR V l a b := ⟨_, rfl⟩
      rw [← hur, show (decide ((a : Int) ≠ b) && true) = true by simp [hab]]
      have HE := Lib.hid (hur.trans e2)
      have HC := Lib.hid HC
      have hbV : (b : Int) < V := by omega
      obtain ⟨av, cv, rfl⟩ := h.row.slice
      have H := Lib.hid h
      have hlS : l.length ≤ 16384 := Nat.le_trans hl hS
      clear h e2 hc hab hur
      go_enter Tryz.func37, Tryz.ntmps37
      go_wp2_with fail
      refine HC.out.mono ?_
      rintro _ w1 ⟨rfl, hf⟩
      have HF1 := Lib.hid hf; clear hf HC
      go_wp2_with fail
      go_loopw [8, 9] (fun x y wr => ∃ k : Nat, k ≤ l.length ∧ y = .int .i64 k ∧ x = .int .i64 (bestR V l a b k) ∧ Hid (Fr [] w wr)) (fun _ y _ => l.length - (intOf y).toNat)
      case atStart => exact ⟨0, Nat.zero_le _, rfl, rfl, HF1⟩
      case round =>
        clear HF1
        obtain ⟨k, hk, rfl, rfl, HF⟩ := hrel
        have hRA := H.out.fr0 HF.out
        have c3 := hRA.hd.cell 3
        simp only [List.getElem?_cons_zero, List.getElem?_cons_succ] at c3
        by_cases hlt : k < l.length
        · have hlt' : (k : Int) < l.length := by omega
          have hw1 : IntKind.i64.wrap ((k : Int) + 1) = ((k + 1 : Nat) : Int) := by rw [show (k : Int) + 1 = ((k + 1 : Nat) : Int) by omega]; exact IntWalk.i64_in _ (by omega)
          obtain ⟨bb, cap, ev, hbb, _, _, _, q3⟩ := hRA.row.at hlt
          simp only [Value.slice.injEq, true_and] at ev
          obtain ⟨rfl, rfl⟩ := ev
          rw [show l[k].2.2.2 = lT l k by simp [lT, hlt]] at q3
          have hbs : bestR V l a b (k + 1) = if rchL V (lateL l (lT l k)) a b && decide (bestR V l a b k < lT l k) then lT l k else bestR V l a b k := rfl
          have HBS := Lib.hid hbs; clear hbs
          generalize hbe : bestR V l a b (k + 1) = bn at *
          have HBE := Lib.hid hbe; clear hbe
          generalize bestR V l a b k = bo at *
          generalize lT l k = t at *
          clear hRA
          rename World => wo
          go_wp2_with fail
          go_loopw [11, 12] (fun u y wr => ∃ j : Nat, j ≤ l.length ∧ y = .int .i64 j ∧ Hid (Fr [] wo wr ∧ ∀ q, u.ownBlock = some q → wo.heap.size ≤ q) ∧ RowE wr u (lateL (l.take j) t)) (fun _ y _ => l.length - (intOf y).toNat)
          case atStart => exact ⟨0, Nat.zero_le _, rfl, Lib.hid ⟨Fr.refl _ _, fun q e => by cases e⟩, ⟨rfl, .inl ⟨rfl, rfl⟩⟩⟩
          case round =>
            obtain ⟨j, hj, rfl, HK, hown⟩ := hrel
            have hfl : (lateL (l.take j) t).length ≤ (l.take j).length := List.length_filter_le _ _
            have htk := List.length_take_le j l
            have hRA := H.out.fr0 (HF.out.trans' HK.out.1)
            have c3 := hRA.hd.cell 3
            have c1 := hRA.hd.cell 1
            simp only [List.getElem?_cons_zero, List.getElem?_cons_succ] at c1 c3
            by_cases hlt : j < l.length
            · have hlt2 : (j : Int) < l.length := by omega
              have hw2 : IntKind.i64.wrap ((j : Int) + 1) = ((j + 1 : Nat) : Int) := by rw [show (j : Int) + 1 = ((j + 1 : Nat) : Int) by omega]; exact IntWalk.i64_in _ (by omega)
              obtain ⟨a8, c8, rfl⟩ := hown.slice
              obtain ⟨b', cap, ev, hb', p0, p1, p2, p3⟩ := hRA.row.at hlt
              simp only [Value.slice.injEq, Option.some.injEq, Addr.mk.injEq, and_true, true_and] at ev
              obtain ⟨rfl, rfl⟩ := ev
              have hst : lateL (l.take (j + 1)) t = lateL (l.take j) t ++ if t ≤ l[j].2.2.2 then [l[j]] else [] := by
                unfold lateL
                rw [List.take_add_one, List.getElem?_eq_getElem hlt, List.filter_append]
                congr 1
                by_cases e' : t ≤ l[j].2.2.2 <;> simp [e']
              obtain ⟨e', he'⟩ : ∃ e', e' = l[j] := ⟨_, rfl⟩
              rw [← he'] at hst p0 p1 p2 p3
              have HO := Lib.hid hown
              clear hown he' hRA
              by_cases hte : t ≤ e'.2.2.2
              · rw [if_pos hte] at hst
                have HST := Lib.hid hst; clear hst
                generalize lateL (l.take j) t = us at *
                have HBn := Lib.hid (Blk.new wr (reC e') 69)
                have HO6 := Lib.hid (HO.out.fr ((Fr.refl [] wr).alloc (.cells (reC e').toArray 69)) (by simp))
                clear HO
                go_wp2_with (first | (at_builtin; refine wpList_appE rfl _ _ rfl (.slice a8 us.length c8) us rfl HO6.out wr.heap.size e' rfl HBn.out (by omega) ?_; intro g' cap' w6 hown6 hgrow6 hg6; have hF6 : Fr (Value.slice a8 us.length c8).ownBlock.toList wr w6 := ((Fr.refl _ _).alloc _).grown hgrow6 (fun q e => .inl (by simp [e]))) | fail)
                go_roundw
                case rel =>
                  have hb : ∀ q ∈ (Value.slice a8 us.length c8).ownBlock.toList, wo.heap.size ≤ q := fun q hq => HK.out.2 q (by simpa using hq)
                  have hs1 := HK.out.1.size
                  refine ⟨j + 1, by omega, rfl, Lib.hid ⟨HK.out.1.trans hF6 (fun q hq => .inr (hb q hq)), fun q e => ?_⟩, ?_⟩
                  · simp only [Value.ownBlock, Option.some.injEq] at e
                    subst e
                    simp only [World.size_alloc] at hg6
                    rcases hg6 with e | e
                    · exact HK.out.2 _ e
                    · omega
                  · rw [HST.out]; exact hown6
                case measure => simp [intOf]; omega
              · rw [if_neg hte, List.append_nil] at hst
                have HST := Lib.hid hst; clear hst
                go_wp2_with fail
                go_roundw
                case rel => exact ⟨j + 1, by omega, rfl, HK, by rw [HST.out]; exact HO.out⟩
                case measure => simp [intOf]; omega
            · obtain rfl : j = l.length := by omega
              rw [List.take_of_length_le (Nat.le_refl _)] at hown
              rw [List.take_of_length_le (Nat.le_refl _)] at *
              have hll : (lateL l t).length ≤ l.length := List.length_filter_le _ _
              have HQ := Lib.hid (reached_r hown V hV (by omega) (late_ok' H.out.ok t) a ha)
              clear hown hRA
              go_wp2_with fail
              refine HQ.out.mono ?_
              rintro _ w6 ⟨sb, rfl, hB, _, hf⟩
              have t0 := hB.cell b
              rw [bRow_at _ (by omega)] at t0
              have HF6 := Lib.hid ((HF.out.trans' HK.out.1).trans' hf)
              clear hB hf HQ c1 c3
              cases hrb : rchL V (lateL l t) a b with
              | false =>
                rw [hrb] at t0
                have HBn := Lib.hid (show bn = bo by rw [HBS.out, hrb]; rfl)
                clear hrb
                go_wp2_with fail
                go_roundw
                case rel => exact ⟨k + 1, by omega, rfl, by rw [HBE.out, HBn.out], HF6⟩
                case measure => simp [intOf]; omega
              | true =>
                rw [hrb] at t0
                by_cases hlt3 : bo < t
                · have HBn := Lib.hid (show bn = t by rw [HBS.out, hrb, decide_eq_true hlt3]; rfl)
                  clear hrb
                  go_wp2_with fail
                  go_roundw
                  case rel => exact ⟨k + 1, by omega, rfl, by rw [HBE.out, HBn.out], HF6⟩
                  case measure => simp [intOf]; omega
                · have HBn := Lib.hid (show bn = bo by rw [HBS.out, hrb, decide_eq_false hlt3]; rfl)
                  have d2 : decide (bo < t) = false := decide_eq_false hlt3
                  clear hrb
                  go_wp2_with fail
                  go_roundw
                  case rel => exact ⟨k + 1, by omega, rfl, by rw [HBE.out, HBn.out], HF6⟩
                  case measure => simp [intOf]; omega
        · obtain rfl : k = l.length := by omega
          rw [← HE.out]
          clear hRA
          go_wp2_with fail
          go_ret2
          exact ⟨rfl, HF.out⟩
end
end Go.Proofs.YthkkelkgfkehlaaGreat

/- ForestNil: the walk. -/
namespace Go.Proofs.YthkkelkgfkehlaaGreat
open Go.RowKit
set_option maxRecDepth 10000
set_option maxHeartbeats 800000

@[go_sem] theorem eq_for_nil (a : Addr) (w : World) : (binOp .eql 24 (.pointer none) (.pointer (some a))).run Tryz.prog w = .ok (.bool false) w := by
  have h : ∀ d : Nat, (Op.equalIn (d + 1) 24 (.pointer none) (.pointer (some a))).run Tryz.prog w = .ok false w := fun d => by
    simp [Op.equalIn, run_underlying Tryz.underlying24]
  simp only [binOp]
  simp [Op.equal, Op.maxDepth, h 9999]

/-- A nil forest, or one that was not made by New. -/
def BadF (w : World) (q : Option Addr) : Prop := q = none ∨ ∃ p, q = some ⟨p, 0, none⟩ ∧ p < w.heap.size ∧ w.cell? ⟨p, 4, none⟩ = some (.map none)
theorem BadF.fr {w w' : World} {q : Option Addr} (h : BadF w q) (hf : Below w.heap.size w w') : BadF w' q := by
  rcases h with h | ⟨p, h1, h2, h3⟩
  · exact .inl h
  · exact .inr ⟨p, h1, Nat.lt_of_lt_of_le h2 hf.size, (hf.cell (p := ⟨p, 4, none⟩) h2).trans h3⟩

section
variable {w : World} {q : Option Addr} (h : BadF w q)
include h
theorem bad_valid : Calls Tryz.prog 24 #[.pointer q] w fun e w' => e = .returned (.bool false) ∧ w' = w := by
  rcases h with rfl | ⟨pt, rfl, _, hc⟩
  · go_enter Tryz.func24, Tryz.ntmps24
    go_wp2
    go_ret
    exact ⟨rfl, rfl⟩
  · go_enter Tryz.func24, Tryz.ntmps24
    go_wp2
    go_ret
    exact ⟨rfl, rfl⟩
theorem bad_has (a : Int) : Calls Tryz.prog 25 #[.pointer q, .int .i64 a] w fun e w' => e = .returned (.bool false) ∧ w' = w := by
  have H := Lib.hid (bad_valid h); clear h
  go_enter Tryz.func25, Tryz.ntmps25
  go_wp2_with (go_at_call 24; refine H.out.mono ?_; rintro e w' ⟨rfl, rfl⟩)
  go_ret
  exact ⟨rfl, rfl⟩
theorem bad_exp : Calls Tryz.prog 9 #[.pointer q] w fun e w' => e = .returned (.tuple #[.int .i64 0, .bool false]) ∧ w' = w := by
  have H := Lib.hid (bad_valid h); clear h
  go_enter Tryz.func9, Tryz.ntmps9
  go_wp2_with (go_at_call 24; refine H.out.mono ?_; rintro e w' ⟨rfl, rfl⟩)
  go_ret2
  exact ⟨rfl, rfl⟩
theorem bad_until (a b : Int) : Calls Tryz.prog 17 #[.pointer q, .int .i64 a, .int .i64 b] w fun e w' => e = .returned (.tuple #[.int .i64 0, .bool false]) ∧ w' = w := by
  have H := Lib.hid (bad_has h a); clear h
  go_enter Tryz.func17, Tryz.ntmps17
  go_wp2_with (go_at_call 25; refine H.out.mono ?_; rintro e w' ⟨rfl, rfl⟩)
  go_ret2
  exact ⟨rfl, rfl⟩
theorem bad_add (s a b x : Int) : Calls Tryz.prog 7 #[.pointer q, .int .i64 s, .int .i64 a, .int .i64 b, .int .i64 x] w fun e w' => e = .returned (.int .i64 1) ∧ w' = w := by
  have H := Lib.hid (bad_valid h); clear h
  go_enter Tryz.func7, Tryz.ntmps7
  go_wp2_with (go_at_call 24; refine H.out.mono ?_; rintro e w' ⟨rfl, rfl⟩)
  go_ret
  exact ⟨rfl, rfl⟩
theorem bad_size (a : Int) : Calls Tryz.prog 20 #[.pointer q, .int .i64 a] w fun e w' => e = .returned (.int .i64 0) ∧ w' = w := by
  have H := Lib.hid (bad_has h a); clear h
  go_enter Tryz.func20, Tryz.ntmps20
  go_wp2_with (go_at_call 25; refine H.out.mono ?_; rintro e w' ⟨rfl, rfl⟩)
  go_ret
  exact ⟨rfl, rfl⟩
theorem bad_conn (a b : Int) : Calls Tryz.prog 38 #[.pointer q, .int .i64 a, .int .i64 b] w fun e w' => e = .returned (.bool false) ∧ Below w.heap.size w w' := by
  have HH := Lib.hid (fun (w' : World) (hb : Below w.heap.size w w') => bad_has (h.fr hb) a); clear h
  go_enter Tryz.func38, Tryz.ntmps38
  go_wp2_with fail
  refine region_cw (fun w' => Below w.heap.size w w') (by kernel_rfl) (by kernel_rfl) (Fr.below ((Fr.refl [] w).drew) (by simp)) ?_
  iterate 2 (refine cw_pure (by kernel_rfl) (fun KK hK => ?_); go_simp; refine hK.out _ ?_; clear hK KK)
  refine cw_val (by kernel_rfl) (.bool false) (fun w' hw' => ?_) ?_
  · go_simp
    refine (HH.out _ hw').mono ?_
    rintro _ w2 ⟨rfl, rfl⟩
    exact ⟨rfl, hw'⟩
  (refine cw_pure (by kernel_rfl) (fun KK hK => ?_); go_simp; refine hK.out _ ?_; clear hK KK)
  iterate 3 (refine cw_skip (by kernel_rfl) ?_; go_frame)
  iterate 2 (refine cw_pure (by kernel_rfl) (fun KK hK => ?_); go_simp; refine hK.out _ ?_; clear hK KK)
  iterate 18 (refine cw_skip (by kernel_rfl) ?_; go_frame)
  iterate 2 (refine cw_pure (by kernel_rfl) (fun KK hK => ?_); go_simp; refine hK.out _ ?_; clear hK KK)
  refine cw_nil ?_
  intro w2 h2
  have H2 := Lib.hid h2; clear h2
  go_wp2
  go_ret
  exact ⟨rfl, H2.out⟩
theorem bad_count : Calls Tryz.prog 19 #[.pointer q] w fun e w' => e = .returned (.int .i64 0) ∧ w' = w := by
  have H := Lib.hid (bad_valid h); clear h
  go_enter Tryz.func19, Tryz.ntmps19
  go_wp2_with (go_at_call 24; refine H.out.mono ?_; rintro e w' ⟨rfl, rfl⟩)
  go_ret
  exact ⟨rfl, rfl⟩
theorem bad_tree (s : Int) : Calls Tryz.prog 18 #[.pointer q, .int .i64 s] w fun e w' => e = .returned (.bool false) ∧ w' = w := by
  have H := Lib.hid (bad_valid h); clear h
  go_enter Tryz.func18, Tryz.ntmps18
  go_wp2_with (go_at_call 24; refine H.out.mono ?_; rintro e w' ⟨rfl, rfl⟩)
  go_ret
  exact ⟨rfl, rfl⟩
theorem bad_edges : Calls Tryz.prog 15 #[.pointer q] w fun e w' => e = .returned (.slice none 0 0) ∧ w' = w := by
  have H := Lib.hid (bad_valid h); clear h
  go_enter Tryz.func15, Tryz.ntmps15
  go_wp2_with (go_at_call 24; refine H.out.mono ?_; rintro e w' ⟨rfl, rfl⟩)
  go_ret
  exact ⟨rfl, rfl⟩
theorem bad_len : Calls Tryz.prog 42 #[.pointer q] w fun e w' => e = .returned (.int .i64 0) ∧ w' = w := by
  have H := Lib.hid (bad_valid h); clear h
  go_enter Tryz.func42, Tryz.ntmps42
  go_wp2_with (go_at_call 24; refine H.out.mono ?_; rintro e w' ⟨rfl, rfl⟩)
  go_ret
  exact ⟨rfl, rfl⟩
theorem bad_copy : Calls Tryz.prog 11 #[.pointer q] w fun e w' => e = .returned (.pointer none) ∧ w' = w := by
  have H := Lib.hid (bad_valid h); clear h
  go_enter Tryz.func11, Tryz.ntmps11
  go_wp2_with (go_at_call 24; refine H.out.mono ?_; rintro e w' ⟨rfl, rfl⟩)
  go_ret
  exact ⟨rfl, rfl⟩
end

end Go.Proofs.YthkkelkgfkehlaaGreat

/- A forest and the document's beside it: agree, New. -/
namespace Go.Proofs.YthkkelkgfkehlaaGreat
open Go.RowKit Classical
set_option maxRecDepth 10000
set_option maxHeartbeats 1600000

/-- Both, with the same edges; and blocks Z apart from both. -/
def BF (Z : List (Nat × TypeId × List Value)) (W wr : World) (pf pr S V : Nat) (G : EMap) (v : Value) (l : List RE) : Prop :=
  ∃ L, FO W wr pf S V G L ∧ RA wr pr V S v l ∧ Reps G l ∧ pr ∉ L ∧ (∀ q, v.ownBlock = some q → q ∉ L) ∧ W.heap.size ≤ pr ∧ (∀ q, v.ownBlock = some q → W.heap.size ≤ q) ∧ ∀ z ∈ Z, Blk wr z.1 z.2.1 z.2.2 ∧ z.1 ∉ L ∧ z.1 ≠ pr ∧ v.ownBlock ≠ some z.1
section
variable {Z : List (Nat × TypeId × List Value)}
variable {W wr w' : World} {pf pr S V : Nat} {G G' : EMap} {v : Value} {l : List RE}
theorem BF.keep (h : BF Z W wr pf pr S V G v l) (hf : Fr [] wr w') : BF Z W w' pf pr S V G v l := by
  obtain ⟨L, h1, h2, h3, h4, h5, h6, h7, h8⟩ := h
  exact ⟨L, h1.keep0 hf, h2.fr0 hf, h3, h4, h5, h6, h7, fun z hz => ⟨hf.blk (h8 z hz).1 (by simp), (h8 z hz).2⟩⟩
theorem BF.fr (h : BF Z W wr pf pr S V G v l) : Fr [] W wr := by obtain ⟨L, h1, _⟩ := h; exact h1.fr
theorem BF.moved {L : List Nat} (_h1 : FO W wr pf S V G L) (h2 : RA wr pr V S v l) (h3 : Reps G l) (h4 : pr ∉ L) (h5 : ∀ q, v.ownBlock = some q → q ∉ L) (h6 : W.heap.size ≤ pr) (h7 : ∀ q, v.ownBlock = some q → W.heap.size ≤ q) (h8 : ∀ z ∈ Z, Blk wr z.1 z.2.1 z.2.2 ∧ z.1 ∉ L ∧ z.1 ≠ pr ∧ v.ownBlock ≠ some z.1) (hm : FM W wr w' pf S V G L) : BF Z W w' pf pr S V G v l := by
  obtain ⟨L', m1, m2, m3⟩ := hm
  refine ⟨L', m1, h2.fr m2 h4 h5, h3, fun e => (m3 _ e).elim h4 (fun e => by have := h2.hd.lt; omega), fun q hq e => (m3 _ e).elim (h5 q hq) (fun e => by have := ownsRow_lt h2.row hq; omega), h6, h7, fun z hz => ⟨m2.blk (h8 z hz).1 (h8 z hz).2.1, fun e => (m3 _ e).elim (h8 z hz).2.1 (fun e => by have := (h8 z hz).1.lt; omega), (h8 z hz).2.2⟩⟩
theorem BF.until (h : BF Z W wr pf pr S V G v l) (a b : Int) : Calls Tryz.prog 17 #[fptr pf, .int .i64 a, .int .i64 b] wr fun e w' => e = .returned (.tuple #[.int .i64 (untilV V G a b), .bool (untilB V G a b)]) ∧ BF Z W w' pf pr S V G v l := by
  obtain ⟨L, h1, h2, h3, h4, h5, h6, h7, h8⟩ := h
  refine (fo_until h1 a b).mono ?_
  rintro e w' ⟨rfl, hm⟩
  exact ⟨rfl, BF.moved h1 h2 h3 h4 h5 h6 h7 h8 hm⟩
theorem BF.conn (h : BF Z W wr pf pr S V G v l) (a b : Int) : Calls Tryz.prog 38 #[fptr pf, .int .i64 a, .int .i64 b] wr fun e w' => e = .returned (.bool (connG V G a b)) ∧ BF Z W w' pf pr S V G v l := by
  obtain ⟨L, h1, h2, h3, h4, h5, h6, h7, h8⟩ := h
  refine (fo_conn h1 a b).mono ?_
  rintro e w' ⟨rfl, hm⟩
  exact ⟨rfl, BF.moved h1 h2 h3 h4 h5 h6 h7 h8 hm⟩
theorem BF.size (h : BF Z W wr pf pr S V G v l) (a : Int) : Calls Tryz.prog 20 #[fptr pf, .int .i64 a] wr fun e w' => e = .returned (.int .i64 (sizeG V G a)) ∧ BF Z W w' pf pr S V G v l := by
  obtain ⟨L, h1, h2, h3, h4, h5, h6, h7, h8⟩ := h
  refine (fo_size h1 a).mono ?_
  rintro e w' ⟨rfl, hm⟩
  exact ⟨rfl, BF.moved h1 h2 h3 h4 h5 h6 h7 h8 hm⟩
theorem BF.count (h : BF Z W wr pf pr S V G v l) : Calls Tryz.prog 19 #[fptr pf] wr fun e w' => e = .returned (.int .i64 (compG V G)) ∧ BF Z W w' pf pr S V G v l := by
  obtain ⟨L, h1, h2⟩ := id h
  refine (fo_count h1).mono ?_
  rintro e w' ⟨rfl, _, hf⟩
  exact ⟨rfl, h.keep hf⟩
theorem BF.len (h : BF Z W wr pf pr S V G v l) : Calls Tryz.prog 42 #[fptr pf] wr fun e w' => e = .returned (.int .i64 (lenG S G)) ∧ BF Z W w' pf pr S V G v l := by
  obtain ⟨L, h1, h2⟩ := id h
  refine (fo_len h1).mono ?_
  rintro e w' ⟨rfl, _, hf⟩
  exact ⟨rfl, h.keep hf⟩
theorem BF.tree (h : BF Z W wr pf pr S V G v l) {s : Int} (hs : -9223372036854775808 ≤ s ∧ s ≤ 9223372036854775807) : Calls Tryz.prog 18 #[fptr pf, .int .i64 s] wr fun e w' => e = .returned (.bool (treeG G s)) ∧ BF Z W w' pf pr S V G v l := by
  obtain ⟨L, h1, h2⟩ := id h
  refine (fo_tree h1 hs).mono ?_
  rintro e w' ⟨rfl, _, hf⟩
  exact ⟨rfl, h.keep hf⟩
theorem len_reps {S : Nat} {G : EMap} {l : List RE} (hS : ∀ s e, G s = some e → s < S) (h : Reps G l) : lenG S G = l.length := by
  unfold lenG cntT
  have hp : ((List.range S).filter fun s => decide ((G s).isSome = true)).Perm (l.map fun e => e.1) := by
    refine (List.perm_ext_iff_of_nodup (List.nodup_range.filter _) h.one).2 fun s => ?_
    simp only [List.mem_filter, List.mem_range, decide_eq_true_eq, List.mem_map]
    constructor
    · rintro ⟨_, hs⟩
      obtain ⟨⟨a, b, x⟩, he⟩ := Option.isSome_iff_exists.1 hs
      exact ⟨_, (h.iff s a b x).1 he, rfl⟩
    · rintro ⟨⟨t, a, b, x⟩, hm, rfl⟩
      have := (h.iff t a b x).2 hm
      exact ⟨hS _ _ this, by rw [this]; rfl⟩
  have h2 := hp.length_eq
  rw [List.length_map] at h2
  rw [← h2]
  congr 1
  exact List.filter_congr fun s _ => decide_eq_decide.2 Iff.rfl
-- the document's side, in the words of the forest
theorem BF.until' (h : BF Z W wr pf pr S V G v l) (a b : Int) : Calls Tryz.prog 37 #[fptr pr, .int .i64 a, .int .i64 b] wr fun e w' => e = .returned (.tuple #[.int .i64 (untilV V G a b), .bool (untilB V G a b)]) ∧ BF Z W w' pf pr S V G v l := by
  obtain ⟨L, h1, h2, h3, _⟩ := id h
  have e := untilR_eq h1.f.gw.1 h2.ok h3 a b
  refine (runtil h2 a b).mono ?_
  rintro _ w' ⟨rfl, hf⟩
  exact ⟨by rw [e.1, e.2], h.keep hf⟩
theorem BF.conn' (h : BF Z W wr pf pr S V G v l) (a b : Int) : Calls Tryz.prog 39 #[fptr pr, .int .i64 a, .int .i64 b] wr fun e w' => e = .returned (.bool (connG V G a b)) ∧ BF Z W w' pf pr S V G v l := by
  obtain ⟨L, h1, h2, h3, _⟩ := id h
  refine (rconn h2 a b).mono ?_
  rintro _ w' ⟨rfl, hf⟩
  exact ⟨by rw [connL_eq h2.ok h3], h.keep hf⟩
theorem BF.size' (h : BF Z W wr pf pr S V G v l) (a : Int) : Calls Tryz.prog 40 #[fptr pr, .int .i64 a] wr fun e w' => e = .returned (.int .i64 (sizeG V G a)) ∧ BF Z W w' pf pr S V G v l := by
  obtain ⟨L, h1, h2, h3, _⟩ := id h
  refine (rsize h2 a).mono ?_
  rintro _ w' ⟨rfl, hf⟩
  exact ⟨by rw [sizeL_eq h2.ok h3], h.keep hf⟩
theorem BF.count' (h : BF Z W wr pf pr S V G v l) : Calls Tryz.prog 41 #[fptr pr] wr fun e w' => e = .returned (.int .i64 (compG V G)) ∧ BF Z W w' pf pr S V G v l := by
  obtain ⟨L, h1, h2, h3, _⟩ := id h
  refine (rcount h2).mono ?_
  rintro _ w' ⟨rfl, hf⟩
  exact ⟨by rw [compL_eq h2.ok h3], h.keep hf⟩
theorem BF.len' (h : BF Z W wr pf pr S V G v l) : Calls Tryz.prog 43 #[fptr pr] wr fun e w' => e = .returned (.int .i64 (lenG S G)) ∧ BF Z W w' pf pr S V G v l := by
  obtain ⟨L, h1, h2, h3, _⟩ := id h
  refine (rlen h2).mono ?_
  rintro _ w' ⟨rfl, hf⟩
  exact ⟨by rw [len_reps h1.f.gw.1.slot h3], h.keep hf⟩
theorem BF.tree' (h : BF Z W wr pf pr S V G v l) (s : Int) : Calls Tryz.prog 44 #[fptr pr, .int .i64 s] wr fun e w' => e = .returned (.bool (treeG G s)) ∧ BF Z W w' pf pr S V G v l := by
  obtain ⟨L, h1, h2, h3, _⟩ := id h
  refine (rtree h2 s).mono ?_
  rintro _ w' ⟨rfl, hf⟩
  exact ⟨by rw [treeR_eq h2.ok h3], h.keep hf⟩

theorem agree_w (h : BF Z W wr pf pr S V G v l) (a b s : Int) (hs : -9223372036854775808 ≤ s ∧ s ≤ 9223372036854775807) :
    Calls Tryz.prog 13 #[fptr pf, fptr pr, .int .i64 a, .int .i64 b, .int .i64 s] wr fun e w' => e = .returned (.bool true) ∧ BF Z W w' pf pr S V G v l := by
  have A1 := Lib.hid (fun (w' : World) (h : BF Z W w' pf pr S V G v l) => h.until a b)
  have A2 := Lib.hid (fun (w' : World) (h : BF Z W w' pf pr S V G v l) => h.until' a b)
  have A3 := Lib.hid (fun (w' : World) (h : BF Z W w' pf pr S V G v l) => h.conn a b)
  have A4 := Lib.hid (fun (w' : World) (h : BF Z W w' pf pr S V G v l) => h.conn' a b)
  have A5 := Lib.hid (fun (w' : World) (h : BF Z W w' pf pr S V G v l) => h.size a)
  have A6 := Lib.hid (fun (w' : World) (h : BF Z W w' pf pr S V G v l) => h.size' a)
  have A7 := Lib.hid (fun (w' : World) (h : BF Z W w' pf pr S V G v l) => h.count)
  have A8 := Lib.hid (fun (w' : World) (h : BF Z W w' pf pr S V G v l) => h.count')
  have A9 := Lib.hid (fun (w' : World) (h : BF Z W w' pf pr S V G v l) => h.len)
  have B1 := Lib.hid (fun (w' : World) (h : BF Z W w' pf pr S V G v l) => h.len')
  have B2 := Lib.hid (fun (w' : World) (h : BF Z W w' pf pr S V G v l) => h.tree hs)
  have B3 := Lib.hid (fun (w' : World) (h : BF Z W w' pf pr S V G v l) => h.tree' s)
  generalize untilV V G a b = t at *
  generalize untilB V G a b = tb at *
  generalize connG V G a b = c at *
  generalize sizeG V G a = z at *
  generalize compG V G = q at *
  generalize lenG S G = n at *
  generalize treeG G s = d at *
  have H := Lib.hid h
  clear h
  go_enter Tryz.func13, Tryz.ntmps13
  go_wp2_with fail
  refine (A1.out _ H.out).mono ?_
  rintro _ w1 ⟨rfl, h1⟩
  have H := Lib.hid h1; clear h1
  go_wp2_with fail
  refine (A2.out _ H.out).mono ?_
  rintro _ w2 ⟨rfl, h1⟩
  have H := Lib.hid h1; clear h1
  go_wp2_with fail
  refine (A3.out _ H.out).mono ?_
  rintro _ w3 ⟨rfl, h1⟩
  have H := Lib.hid h1; clear h1
  go_wp2_with fail
  refine (A4.out _ H.out).mono ?_
  rintro _ w4 ⟨rfl, h1⟩
  have H := Lib.hid h1; clear h1
  go_wp2_with fail
  refine (A5.out _ H.out).mono ?_
  rintro _ w5 ⟨rfl, h1⟩
  have H := Lib.hid h1; clear h1
  go_wp2_with fail
  refine (A6.out _ H.out).mono ?_
  rintro _ w6 ⟨rfl, h1⟩
  have H := Lib.hid h1; clear h1
  go_wp2_with fail
  refine (A7.out _ H.out).mono ?_
  rintro _ w7 ⟨rfl, h1⟩
  have H := Lib.hid h1; clear h1
  go_wp2_with fail
  refine (A8.out _ H.out).mono ?_
  rintro _ w8 ⟨rfl, h1⟩
  have H := Lib.hid h1; clear h1
  go_wp2_with fail
  refine (A9.out _ H.out).mono ?_
  rintro _ w9 ⟨rfl, h1⟩
  have H := Lib.hid h1; clear h1
  go_wp2_with fail
  refine (B1.out _ H.out).mono ?_
  rintro _ wa ⟨rfl, h1⟩
  have H := Lib.hid h1; clear h1
  go_wp2_with fail
  refine (B2.out _ H.out).mono ?_
  rintro _ wb ⟨rfl, h1⟩
  have H := Lib.hid h1; clear h1
  go_wp2_with fail
  refine (B3.out _ H.out).mono ?_
  rintro _ wc ⟨rfl, h1⟩
  have H := Lib.hid h1; clear h1
  go_wp2_with fail
  go_ret
  exact ⟨rfl, H.out⟩
end
end Go.Proofs.YthkkelkgfkehlaaGreat

/- ForestUntil: the walk. -/
namespace Go.Proofs.YthkkelkgfkehlaaGreat
open Go.RowKit Classical
set_option maxRecDepth 10000
set_option maxHeartbeats 1600000

section
variable {W wr w' : World} {pf S V tb : Nat} {G G' : EMap} {f : Nat → Bool} {L : List Nat}
theorem LK.moved (_hO : FO W wr pf S V G L) (hB : Blk wr tb 4 (bRow S f)) (ht : W.heap.size ≤ tb) (hn : tb ∉ L) (hm : FM W wr w' pf S V G' L) : LK W w' pf S V G' tb f := by
  obtain ⟨L', h1, h2, h3⟩ := hm
  exact ⟨L', h1, h2.blk hB hn, ht, fun e => (h3 tb e).elim hn (fun e => by have := hB.lt; omega)⟩
theorem LK.conn (h : LK W wr pf S V G tb f) (x y : Int) : Calls Tryz.prog 38 #[fptr pf, .int .i64 x, .int .i64 y] wr fun e w' => e = .returned (.bool (connG V G x y)) ∧ LK W w' pf S V G tb f := by
  obtain ⟨L, h1, h2, h3, h4⟩ := h
  refine (fo_conn h1 x y).mono ?_
  rintro e w' ⟨rfl, hm⟩
  exact ⟨rfl, LK.moved h1 h2 h3 h4 hm⟩
theorem LK.until (h : LK W wr pf S V G tb f) (x y : Int) : Calls Tryz.prog 17 #[fptr pf, .int .i64 x, .int .i64 y] wr fun e w' => e = .returned (.tuple #[.int .i64 (untilV V G x y), .bool (untilB V G x y)]) ∧ LK W w' pf S V G tb f := by
  obtain ⟨L, h1, h2, h3, h4⟩ := h
  refine (fo_until h1 x y).mono ?_
  rintro e w' ⟨rfl, hm⟩
  exact ⟨rfl, LK.moved h1 h2 h3 h4 hm⟩
theorem LK.size (h : LK W wr pf S V G tb f) (x : Int) : Calls Tryz.prog 20 #[fptr pf, .int .i64 x] wr fun e w' => e = .returned (.int .i64 (sizeG V G x)) ∧ LK W w' pf S V G tb f := by
  obtain ⟨L, h1, h2, h3, h4⟩ := h
  refine (fo_size h1 x).mono ?_
  rintro e w' ⟨rfl, hm⟩
  exact ⟨rfl, LK.moved h1 h2 h3 h4 hm⟩
theorem LK.exp (h : LK W wr pf S V G tb f) : Calls Tryz.prog 9 #[fptr pf] wr fun e w' => e = .returned (.tuple #[.int .i64 ((fstG G).getD 0 : Nat), .bool (fstG G).isSome]) ∧ LK W w' pf S V (popG G) tb f := by
  obtain ⟨L, h1, h2, h3, h4⟩ := h
  refine (fo_exp h1).mono ?_
  rintro e w' ⟨rfl, hm⟩
  exact ⟨rfl, LK.moved h1 h2 h3 h4 hm⟩
theorem LK.gw (h : LK W wr pf S V G tb f) : GW S V G := by obtain ⟨L, h1, _⟩ := h; exact h1.f.gw.1
end

end Go.Proofs.YthkkelkgfkehlaaGreat

/- ForestExpires: the walk. -/
namespace Go.Proofs.YthkkelkgfkehlaaGreat
open Go.RowKit Classical
set_option maxRecDepth 10000
set_option maxHeartbeats 1600000

section
variable {S V : Nat} {z : Nat → Int × Int × Int} {P : Nat → Prop} {m : Nat}
theorem tree_pop (h1 : m < S) (h2 : okE V (z m) = true) (h3 : P m) (hf : ∀ t, t < S → okE V (z t) = true → P t → ¬ bef (z t).2.2 t (z m).2.2 m) :
    treeL S (EG S V z fun t => P t ∧ t ≠ m) = (treeL S (EG S V z P)).filter fun t => decide (t ≠ m) := by
  have hd := del_first (G := EG S V z P) (eg_at ⟨h3, h1, h2⟩) (fun t a b x h => by
    obtain ⟨⟨p1, p2, p3⟩, _, _, rfl⟩ := eg_some.1 h
    exact hf t p2 p3 p1)
  rw [eg_pop] at hd
  unfold treeL
  rw [List.filter_filter]
  refine List.filter_congr fun t _ => ?_
  rw [← Bool.decide_and]
  exact decide_eq_decide.2 ((hd t).trans ⟨fun h => ⟨h.2, h.1⟩, fun h => ⟨h.2, h.1⟩⟩)
theorem len_eg : lenG S (EG S V z P) + cntT S (fun t => okE V (z t) = true ∧ ¬ P t) = cntT S fun t => okE V (z t) = true := by
  have e : lenG S (EG S V z P) = cntT S fun t => okE V (z t) = true ∧ P t := by
    unfold lenG
    refine Nat.le_antisymm (cnt_le_on S fun t ht h => ?_) (cnt_le_on S fun t ht h => ?_)
    · unfold EG at h
      by_cases hp : P t ∧ t < S ∧ okE V (z t) = true
      · exact ⟨hp.2.2, hp.1⟩
      · rw [if_neg hp] at h; cases h
    · rw [eg_at ⟨h.2, ht, h.1⟩]; rfl
  rw [e]
  refine (cnt_split S (fun t => ⟨fun h => ?_, fun h => ?_⟩) (fun t h => h.2.2 h.1.2)).symm
  · by_cases hp : P t
    · exact .inl ⟨h, hp⟩
    · exact .inr ⟨h, hp⟩
  · exact h.elim (fun h => h.1) (fun h => h.1)
theorem pop_none (h : cntT S (fun t => okE V (z t) = true ∧ ¬ P t) = cntT S fun t => okE V (z t) = true) : EG S V z P = fun _ => none := by
  have h' : cntT S (fun t => okE V (z t) = true ∧ ¬ P t) = cntT S fun t => okE V (z t) = true ∧ True := by
    rw [h]; exact cntT_congr fun t => by simp
  rw [pop_done (D := fun _ => True) (fun _ _ _ _ => trivial) h']
  exact EG_none fun t h => h trivial
end
theorem treeL_le (S : Nat) (G : EMap) : (treeL S G).length ≤ S := cntT_le S (isTree G)
noncomputable def pB (P : Nat → Prop) (t : Nat) : Bool := decide (P t)
theorem pB_iff {P : Nat → Prop} {t : Nat} : pB P t = true ↔ P t := by unfold pB; exact decide_eq_true_iff
theorem comp_none (V S : Nat) : compG V (fun _ => none) = V := by
  have h := comp_tree (GW.no S V)
  have : cntT S (isTree fun _ => none) = 0 := by
    rw [cntT_congr (T' := fun _ => False) (fun t => ⟨fun ⟨_, _, _, e, _⟩ => (by cases e), False.elim⟩), cntT_none]
  omega
section
variable {W wr w' : World} {pf S V tb : Nat} {G G' : EMap} {f : Nat → Bool} {L : List Nat}
theorem LK.edges (h : LK W wr pf S V G tb f) : Calls Tryz.prog 15 #[fptr pf] wr fun e w' => ∃ v, e = .returned v ∧ RowN w' v (treeL S G) ∧ (∀ q, v.ownBlock = some q → wr.heap.size ≤ q) ∧ LKm W w' pf S V G tb f wr.heap.size ∧ Fr [] wr w' := by
  obtain ⟨L, h1, h2, h3, h4, h5, h6⟩ := h.now
  refine (fo_edges h1).mono ?_
  rintro e w' ⟨v, rfl, r1, r2, r3, r4⟩
  exact ⟨v, rfl, r1, r2, ⟨L, r3, r4.blk h2 (by simp), h3, h4, h5, h6⟩, r4⟩
theorem LK.len (h : LK W wr pf S V G tb f) : Calls Tryz.prog 42 #[fptr pf] wr fun e w' => e = .returned (.int .i64 (lenG S G)) ∧ LK W w' pf S V G tb f ∧ Fr [] wr w' := by
  obtain ⟨L, h1, h2, h3, h4⟩ := h
  refine (fo_len h1).mono ?_
  rintro e w' ⟨rfl, r3, r4⟩
  exact ⟨rfl, ⟨L, r3, r4.blk h2 (by simp), h3, h4⟩, r4⟩
theorem LK.count (h : LK W wr pf S V G tb f) : Calls Tryz.prog 19 #[fptr pf] wr fun e w' => e = .returned (.int .i64 (compG V G)) ∧ LK W w' pf S V G tb f ∧ Fr [] wr w' := by
  obtain ⟨L, h1, h2, h3, h4⟩ := h
  refine (fo_count h1).mono ?_
  rintro e w' ⟨rfl, r3, r4⟩
  exact ⟨rfl, ⟨L, r3, r4.blk h2 (by simp), h3, h4⟩, r4⟩
/-- Expire, with a row that was made. -/
theorem LKm.exp {m : Nat} (h : LKm W wr pf S V G tb f m) {v : Value} {p : List Nat} (hv : RowN wr v p) (hd : ∀ q, v.ownBlock = some q → m ≤ q) : Calls Tryz.prog 9 #[fptr pf] wr fun e w' => e = .returned (.tuple #[.int .i64 ((fstG G).getD 0 : Nat), .bool (fstG G).isSome]) ∧ LK W w' pf S V (popG G) tb f ∧ RowN w' v p := by
  obtain ⟨L, h1, h2, h3, h4, h5, h6⟩ := h
  refine (fo_exp h1).mono ?_
  rintro e w' ⟨rfl, hm⟩
  obtain ⟨L', m1, m2, m3⟩ := id hm
  exact ⟨rfl, LK.moved h1 h2 h3 h4 hm, hv.fr m2 (fun q hq hq' => by have := hd q hq; have := h5 q hq'; omega)⟩
/-- A cell of the row of what is there is set. -/
theorem LK.set (h : LK W wr pf S V G tb f) (i : Nat) (x : Bool) : LK W (wr.setCell ⟨tb, i, none⟩ (.bool x)) pf S V G tb (updT f i x) := by
  obtain ⟨L, h1, h2, h3, h4⟩ := h
  have hf : Fr [tb] wr (wr.setCell ⟨tb, i, none⟩ (.bool x)) := (Fr.refl _ _).setCell _ _ (.inl (by simp))
  refine ⟨L, h1.keep hf (fun q hq hm => by simp at hm; subst hm; exact h4 hq) (fun q hq => by simp at hq; omega), ?_, h3, h4⟩
  have := h2.set i (.bool x)
  rwa [bRow_set] at this
end
end Go.Proofs.YthkkelkgfkehlaaGreat

namespace Go.Proofs.YthkkelkgfkehlaaGreat
open Go.RowKit Classical
set_option maxRecDepth 10000
set_option maxHeartbeats 1600000

@[go_sem] theorem eq_ref_nil (a : Addr) (w : World) : (binOp .eql 28 (.pointer none) (.pointer (some a))).run Tryz.prog w = .ok (.bool false) w := by
  have h : ∀ d : Nat, (Op.equalIn (d + 1) 28 (.pointer none) (.pointer (some a))).run Tryz.prog w = .ok false w := fun d => by
    simp [Op.equalIn, run_underlying Tryz.underlying28]
  simp only [binOp]
  simp [Op.equal, Op.maxDepth, h 9999]

section
variable (w : World)
theorem rn_valid : Calls Tryz.prog 30 #[.pointer none] w fun e w' => e = .returned (.bool false) ∧ w' = w := by
  go_enter Tryz.func30, Tryz.ntmps30
  go_wp2
  go_ret
  exact ⟨rfl, rfl⟩
theorem rn_has (a : Int) : Calls Tryz.prog 31 #[.pointer none, .int .i64 a] w fun e w' => e = .returned (.bool false) ∧ w' = w := by
  go_enter Tryz.func31, Tryz.ntmps31
  go_wp2_with (go_at_call 30; refine (rn_valid w).mono ?_; rintro e w' ⟨rfl, rfl⟩)
  go_ret
  exact ⟨rfl, rfl⟩
theorem rn_conn (a b : Int) : Calls Tryz.prog 39 #[.pointer none, .int .i64 a, .int .i64 b] w fun e w' => e = .returned (.bool false) ∧ w' = w := by
  go_enter Tryz.func39, Tryz.ntmps39
  go_wp2_with (go_at_call 31; refine (rn_has w a).mono ?_; rintro e w' ⟨rfl, rfl⟩)
  go_ret
  exact ⟨rfl, rfl⟩
theorem rn_until (a b : Int) : Calls Tryz.prog 37 #[.pointer none, .int .i64 a, .int .i64 b] w fun e w' => e = .returned (.tuple #[.int .i64 0, .bool false]) ∧ w' = w := by
  by_cases hab : a = b
  · subst hab
    go_enter Tryz.func37, Tryz.ntmps37
    go_wp2_with fail
    go_ret2
    exact ⟨rfl, rfl⟩
  · have d1 : (a == b) = false := by simp [hab]
    go_enter Tryz.func37, Tryz.ntmps37
    go_wp2_with (go_at_call 39; refine (rn_conn w a b).mono ?_; rintro e w' ⟨rfl, rfl⟩)
    go_ret2
    exact ⟨rfl, rfl⟩
theorem rn_size (a : Int) : Calls Tryz.prog 40 #[.pointer none, .int .i64 a] w fun e w' => e = .returned (.int .i64 0) ∧ w' = w := by
  go_enter Tryz.func40, Tryz.ntmps40
  go_wp2_with (go_at_call 31; refine (rn_has w a).mono ?_; rintro e w' ⟨rfl, rfl⟩)
  go_ret
  exact ⟨rfl, rfl⟩
theorem rn_count : Calls Tryz.prog 41 #[.pointer none] w fun e w' => e = .returned (.int .i64 0) ∧ w' = w := by
  go_enter Tryz.func41, Tryz.ntmps41
  go_wp2_with (go_at_call 30; refine (rn_valid w).mono ?_; rintro e w' ⟨rfl, rfl⟩)
  go_ret
  exact ⟨rfl, rfl⟩
theorem rn_len : Calls Tryz.prog 43 #[.pointer none] w fun e w' => e = .returned (.int .i64 0) ∧ w' = w := by
  go_enter Tryz.func43, Tryz.ntmps43
  go_wp2_with (go_at_call 30; refine (rn_valid w).mono ?_; rintro e w' ⟨rfl, rfl⟩)
  go_ret
  exact ⟨rfl, rfl⟩
theorem rn_tree (s : Int) : Calls Tryz.prog 44 #[.pointer none, .int .i64 s] w fun e w' => e = .returned (.bool false) ∧ w' = w := by
  go_enter Tryz.func44, Tryz.ntmps44
  go_wp2_with (go_at_call 30; refine (rn_valid w).mono ?_; rintro e w' ⟨rfl, rfl⟩)
  go_ret
  exact ⟨rfl, rfl⟩
theorem agree_nil (a b s : Int) : Calls Tryz.prog 13 #[.pointer none, .pointer none, .int .i64 a, .int .i64 b, .int .i64 s] w fun e w' => e = .returned (.bool true) ∧ Below w.heap.size w w' := by
  have hb : ∀ w : World, BadF w none := fun _ => .inl rfl
  have HB := Lib.hid hb; clear hb
  go_enter Tryz.func13, Tryz.ntmps13
  go_wp2_with (first | (go_at_call 17; refine (bad_until (HB.out _) a b).mono ?_; rintro e w' ⟨rfl, rfl⟩) | (go_at_call 37; refine (rn_until _ a b).mono ?_; rintro e w' ⟨rfl, rfl⟩) | fail)
  refine (bad_conn (HB.out _) a b).mono ?_
  rintro _ w2 ⟨rfl, h2⟩
  have H2 := Lib.hid h2; clear h2
  go_wp2_with (first | (go_at_call 39; refine (rn_conn _ a b).mono ?_; rintro e w' ⟨rfl, rfl⟩) | (go_at_call 20; refine (bad_size (HB.out _) a).mono ?_; rintro e w' ⟨rfl, rfl⟩) | (go_at_call 40; refine (rn_size _ a).mono ?_; rintro e w' ⟨rfl, rfl⟩) | (go_at_call 19; refine (bad_count (HB.out _)).mono ?_; rintro e w' ⟨rfl, rfl⟩) | (go_at_call 41; refine (rn_count _).mono ?_; rintro e w' ⟨rfl, rfl⟩) | (go_at_call 42; refine (bad_len (HB.out _)).mono ?_; rintro e w' ⟨rfl, rfl⟩) | (go_at_call 43; refine (rn_len _).mono ?_; rintro e w' ⟨rfl, rfl⟩) | (go_at_call 18; refine (bad_tree (HB.out _) s).mono ?_; rintro e w' ⟨rfl, rfl⟩) | (go_at_call 44; refine (rn_tree _ s).mono ?_; rintro e w' ⟨rfl, rfl⟩) | fail)
  go_ret
  exact ⟨rfl, H2.out⟩
end

theorem rnew_bad (v e : Int) (w : World) (hn : ¬ (0 ≤ v ∧ v ≤ 4096 ∧ 0 ≤ e ∧ e ≤ 16384)) :
    Calls Tryz.prog 6 #[.int .i64 v, .int .i64 e] w fun r w' => r = .returned (.tuple #[.pointer none, .int .i64 2]) ∧ w' = w := by
  by_cases h1 : v < 0
  · clear hn
    go_enter Tryz.func6, Tryz.ntmps6
    go_wp2
    go_ret2
    exact ⟨rfl, rfl⟩
  · have d1 : decide (v < 0) = false := decide_eq_false h1
    by_cases h2 : v > 4096
    · clear hn
      go_enter Tryz.func6, Tryz.ntmps6
      go_wp2
      go_ret2
      exact ⟨rfl, rfl⟩
    · have d2 : decide (v > 4096) = false := decide_eq_false h2
      by_cases h3 : e < 0
      · clear hn
        go_enter Tryz.func6, Tryz.ntmps6
        go_wp2
        go_ret2
        exact ⟨rfl, rfl⟩
      · have d3 : decide (e < 0) = false := decide_eq_false h3
        have h4 : e > 16384 := by omega
        clear hn
        go_enter Tryz.func6, Tryz.ntmps6
        go_wp2
        go_ret2
        exact ⟨rfl, rfl⟩
theorem rnew_w (V S : Nat) (w : World) (hV : V ≤ 4096) (hS : S ≤ 16384) :
    Calls Tryz.prog 6 #[.int .i64 V, .int .i64 S] w fun r w' => r = .returned (.tuple #[fptr w.heap.size, .int .i64 0]) ∧ RA w' w.heap.size V S (.slice none 0 0) [] ∧ Fr [] w w' := by
  have d1 : decide ((V : Int) < 0) = false := decide_eq_false (by omega)
  have d2 : decide ((V : Int) > 4096) = false := decide_eq_false (by omega)
  have d3 : decide ((S : Int) < 0) = false := decide_eq_false (by omega)
  have d4 : decide ((S : Int) > 16384) = false := decide_eq_false (by omega)
  have d2' : ¬ 4096 < V := by omega
  have d4' : ¬ 16384 < S := by omega
  go_enter Tryz.func6, Tryz.ntmps6
  go_wp2
  go_ret2
  refine ⟨rfl, ⟨Blk.new w [.bool true, .int .i64 V, .int .i64 S, .slice none 0 0] _, ⟨rfl, .inl ⟨rfl, rfl⟩⟩, (fun e => by cases e), (fun e he => by cases he), hV, hS, Nat.zero_le _⟩, (Fr.refl _ _).alloc _⟩
theorem reps_nil : Reps (fun _ => none) [] := ⟨fun s a b x => by simp, by simp⟩
theorem bf_new (W : World) (V S : Nat) (hV : V ≤ 4096) (hS : S ≤ 16384) : Calls Tryz.prog 5 #[.int .i64 V, .int .i64 S] W fun e w1 => ∃ pf, e = .returned (.tuple #[fptr pf, .int .i64 0]) ∧
    Calls Tryz.prog 6 #[.int .i64 V, .int .i64 S] w1 fun e w2 => ∃ pr, e = .returned (.tuple #[fptr pr, .int .i64 0]) ∧ BF [] W w2 pf pr S V (fun _ => none) (.slice none 0 0) [] := by
  refine (fo_new V S W W hV hS (Fr.refl _ _)).mono ?_
  rintro _ w1 ⟨pf, rfl, L, h1, h2, h3⟩
  refine ⟨pf, rfl, ?_⟩
  refine (rnew_w V S w1 hV hS).mono ?_
  rintro _ w2 ⟨rfl, r1, r2⟩
  exact ⟨_, rfl, L, h1.keep0 r2, r1, reps_nil, fun e => Nat.lt_irrefl _ (h1.lt _ e), fun q hq => (by cases hq), h2.size, fun q hq => (by cases hq), fun z hz => (by cases hz)⟩

end Go.Proofs.YthkkelkgfkehlaaGreat
