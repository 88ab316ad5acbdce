/- lct: rooted forests given by parents; their edges; another root; paths. -/
import Derived.Test.YtoppjjgecgbbkaaLctForest
namespace Go.Proofs.Ytoppjjgecgbbkaa
open Go.RowKit

def Adj (par : Nat → Nat) (x y : Nat) : Prop := x ≠ 0 ∧ y ≠ 0 ∧ (par x = y ∨ par y = x)
theorem Adj.symm {par : Nat → Nat} {x y : Nat} (h : Adj par x y) : Adj par y x := ⟨h.2.1, h.1, h.2.2.symm⟩

/-- Parents, with depths and roots. -/
structure Rtd (par d rt : Nat → Nat) : Prop where
  dep : ∀ x, par x ≠ 0 → d (par x) < d x
  rt0 : ∀ x, par x = 0 → rt x = x
  rt1 : ∀ x, par x ≠ 0 → rt x = rt (par x)

theorem LF.rtd {N : Nat} {σ : Tbl} {F : Fst} {par d rt : Nat → Nat} (h : LF N σ F par d rt) : Rtd par d rt := ⟨h.dep, h.rt0, h.rt1⟩

def rtF (par : Nat → Nat) : Nat → Nat → Nat
  | 0, x => x
  | k + 1, x => if par x = 0 then x else rtF par k (par x)
theorem rtF_le {par d : Nat → Nat} (dep : ∀ x, par x ≠ 0 → d (par x) < d x) : ∀ (k : Nat) (x m : Nat), d x ≤ k → d x ≤ m → rtF par k x = rtF par m x := by
  intro k
  induction k with
  | zero =>
    intro x m hk hm
    have h0 : par x = 0 := by
      apply Classical.byContradiction; intro h; have := dep x h; omega
    cases m with
    | zero => rfl
    | succ m => simp [rtF, h0]
  | succ k ih =>
    intro x m hk hm
    by_cases h0 : par x = 0
    · cases m with
      | zero => simp [rtF, h0]
      | succ m => simp [rtF, h0]
    · have := dep x h0
      cases m with
      | zero => omega
      | succ m => simp only [rtF, if_neg h0]; exact ih _ _ (by omega) (by omega)
theorem rt_ex {par d : Nat → Nat} (dep : ∀ x, par x ≠ 0 → d (par x) < d x) : ∃ rt, Rtd par d rt := by
  refine ⟨fun x => rtF par (d x) x, dep, fun x h => ?_, fun x h => ?_⟩
  · cases e : d x with
    | zero => simp [rtF]
    | succ k => simp [rtF, h]
  · have := dep x h
    show rtF par (d x) x = rtF par (d (par x)) (par x)
    obtain ⟨k, hk⟩ : ∃ k, d x = k + 1 := ⟨d x - 1, by omega⟩
    rw [hk]; simp only [rtF, if_neg h]
    exact rtF_le dep _ _ _ (by omega) (by omega)

section
variable {par d rt : Nat → Nat}
theorem Rtd.root (h : Rtd par d rt) : ∀ (k x : Nat), d x ≤ k → par (rt x) = 0 := by
  intro k
  induction k with
  | zero =>
    intro x hk
    have h0 : par x = 0 := by
      apply Classical.byContradiction; intro e; have := h.dep x e; omega
    rw [h.rt0 x h0]; exact h0
  | succ k ih =>
    intro x hk
    by_cases h0 : par x = 0
    · rw [h.rt0 x h0]; exact h0
    · rw [h.rt1 x h0]; have := h.dep x h0; exact ih _ (by omega)
theorem Rtd.par_rt (h : Rtd par d rt) (x : Nat) : par (rt x) = 0 := h.root _ x (Nat.le_refl _)
theorem Rtd.idem (h : Rtd par d rt) (x : Nat) : rt (rt x) = rt x := h.rt0 _ (h.par_rt x)
theorem Rtd.adj (h : Rtd par d rt) {x y : Nat} (ha : Adj par x y) : rt x = rt y := by
  rcases ha with ⟨hx, hy, e | e⟩
  · rw [h.rt1 x (by rw [e]; exact hy), e]
  · rw [h.rt1 y (by rw [e]; exact hx), e]
theorem Rtd.irrefl (h : Rtd par d rt) (x : Nat) : ¬ Adj par x x := by
  rintro ⟨hx, _, e | e⟩ <;> · have := h.dep x (by rw [e]; exact hx); rw [e] at this; omega

/-- From every vertex the chain of its ancestors leads up to a root. -/
theorem Rtd.chain (h : Rtd par d rt) : ∀ (k x : Nat), d x ≤ k → x ≠ 0 → ∃ S, Ch par 0 (S ++ [x]) ∧ (S ++ [x]).Nodup ∧ (∀ y ∈ S ++ [x], y ≠ 0) ∧ (∀ y ∈ S, d y < d x) := by
  intro k
  induction k with
  | zero =>
    intro x hk hx
    have h0 : par x = 0 := by
      apply Classical.byContradiction; intro e; have := h.dep x e; omega
    exact ⟨[], ⟨h0, trivial⟩, by simp, by simpa using hx, by simp⟩
  | succ k ih =>
    intro x hk hx
    by_cases h0 : par x = 0
    · exact ⟨[], ⟨h0, trivial⟩, by simp, by simpa using hx, by simp⟩
    · have hd := h.dep x h0
      obtain ⟨S, h1, h2, h3, h4⟩ := ih (par x) (by omega) h0
      have hlt : ∀ y ∈ S ++ [par x], d y < d x := by
        intro y hy
        rcases List.mem_append.1 hy with hy | hy
        · have := h4 y hy; omega
        · simp at hy; rw [hy]; exact hd
      refine ⟨S ++ [par x], ?_, ?_, ?_, hlt⟩
      · rw [List.append_assoc]; exact ch_mid.2 ⟨h1, rfl, trivial⟩
      · rw [List.nodup_append]
        exact ⟨h2, by simp, fun a ha b hb => by simp at hb; subst hb; rintro rfl; have := hlt a ha; omega⟩
      · intro y hy
        rcases List.mem_append.1 hy with hy | hy
        · exact h3 y hy
        · simp at hy; rw [hy]; exact hx
end

def pv : Nat → List Nat → Nat → Nat
  | _, [], _ => 0
  | u, y :: l, x => if x = y then u else pv y l x
theorem ch_pv : ∀ {u : Nat} {L : List Nat}, L.Nodup → Ch (pv u L) u L
  | _, [], _ => trivial
  | u, y :: l, h => by
    have hy : y ∉ l := (List.nodup_cons.1 h).1
    refine ⟨by simp [pv], ch_congr (fun x hx => ?_) (ch_pv (u := y) (List.nodup_cons.1 h).2)⟩
    simp only [pv]; rw [if_neg (by rintro rfl; exact hy hx)]
theorem ch_split {par : Nat → Nat} {x : Nat} : ∀ {u : Nat} {L : List Nat}, Ch par u L → x ∈ L → (∃ B, L = x :: B ∧ par x = u) ∨ ∃ A B, L = A ++ par x :: x :: B
  | u, y :: l, ⟨e, hc⟩, hx => by
    rcases List.mem_cons.1 hx with rfl | hx
    · exact .inl ⟨l, rfl, e⟩
    · rcases ch_split hc hx with ⟨B, hB, hp⟩ | ⟨A, B, hA⟩
      · exact .inr ⟨[], B, by rw [hB, hp]; rfl⟩
      · exact .inr ⟨y :: A, B, by rw [hA]; rfl⟩
theorem ch_at {par : Nat → Nat} {u x y : Nat} {A B : List Nat} (h : Ch par u (A ++ y :: x :: B)) : par x = y := (ch_mid.1 h).2.1

/-- Another root: the path down to i is turned. -/
theorem reroot {par d rt : Nat → Nat} (h : Rtd par d rt) {S : List Nat} {i : Nat} (hn : (S ++ [i]).Nodup) (hz : ∀ x ∈ S ++ [i], x ≠ 0) (hc : Ch par 0 (S ++ [i])) :
    ∃ par' d' rt', Rtd par' d' rt' ∧ (∀ x, x ∉ S ++ [i] → par' x = par x) ∧ Ch par' 0 (S ++ [i]).reverse ∧ (∀ x y, Adj par' x y ↔ Adj par x y) ∧ (∀ x y, rt' x = rt' y ↔ rt x = rt y) ∧ rt' i = i ∧ par' i = 0 := by
  generalize hL : S ++ [i] = L at *
  have hrev : L.reverse = i :: S.reverse := by rw [← hL]; simp
  have hiL : i ∈ L := by rw [← hL]; simp
  obtain ⟨par', hp'⟩ : ∃ par' : Nat → Nat, par' = fun x => if x ∈ L then pv 0 L.reverse x else par x := ⟨_, rfl⟩
  have hout : ∀ x, x ∉ L → par' x = par x := fun x hx => by rw [hp']; simp [hx]
  have hc' : Ch par' 0 L.reverse := ch_congr (fun x hx => by rw [hp']; simp only [List.mem_reverse] at hx; simp [hx]) (ch_pv (u := 0) (((List.reverse_perm L).nodup_iff.2 hn)))
  have hpi : par' i = 0 := by rw [hrev] at hc'; exact hc'.1
  -- within the path the pointers are turned
  have turn1 : ∀ x ∈ L, par x ≠ 0 → par x ∈ L ∧ par' (par x) = x := by
    intro x hx h0
    rcases ch_split hc hx with ⟨B, _, e⟩ | ⟨A, B, e⟩
    · exact absurd e h0
    · refine ⟨by rw [e]; simp, ?_⟩
      have e2 : L.reverse = B.reverse ++ x :: par x :: A.reverse := by rw [e]; simp
      rw [e2] at hc'; exact ch_at hc'
  have turn2 : ∀ x ∈ L, par' x ≠ 0 → par' x ∈ L ∧ par (par' x) = x := by
    intro x hx h0
    rcases ch_split hc' (List.mem_reverse.2 hx) with ⟨B, _, e⟩ | ⟨A, B, e⟩
    · exact absurd e h0
    · have e2 : L = B.reverse ++ x :: par' x :: A.reverse := by
        have := congrArg List.reverse e; simpa using this
      exact ⟨by rw [e2]; simp, by rw [e2] at hc; exact ch_at hc⟩
  have hrtL : ∀ x ∈ L, rt x = rt i := by
    cases hL0 : L with
    | nil => rw [hL0] at hiL; cases hiL
    | cons y l =>
      rw [hL0] at hc hz hiL
      intro x hx
      rw [ch_rt_head h.rt0 h.rt1 hc hz x hx, ch_rt_head h.rt0 h.rt1 hc hz i hiL]
  have hroot : ∀ x, par x = 0 → rt x = rt i → x ∈ L := by
    intro x hx he
    cases hL0 : L with
    | nil => rw [hL0] at hiL; cases hiL
    | cons y l =>
      rw [hL0] at hc hz hiL
      have := ch_rt_head h.rt0 h.rt1 hc hz i hiL
      rw [h.rt0 x hx] at he
      rw [he, this]; simp
  refine ⟨par', fun x => if x ∈ L then L.reverse.idxOf x else d x + L.length, fun x => if rt x = rt i then i else rt x, ⟨fun x h0 => ?_, fun x h0 => ?_, fun x h0 => ?_⟩, hout, hc', ?_, ?_, by simp, hpi⟩
  · by_cases hx : x ∈ L
    · rcases ch_split hc' (List.mem_reverse.2 hx) with ⟨B, _, e⟩ | ⟨A, B, e⟩
      · exact absurd e h0
      · have hm := (turn2 x hx h0).1
        simp only [if_pos hx, if_pos hm]
        have hnr := ((List.reverse_perm L).nodup_iff.2 hn)
        rw [e] at hnr ⊢
        generalize par' x = y at *
        have n1 : y ∉ A := fun ha => (List.nodup_append.1 hnr).2.2 y ha y (by simp) rfl
        have n2 : x ∉ A := fun ha => (List.nodup_append.1 hnr).2.2 x ha x (by simp) rfl
        have n3 : x ≠ y := by
          have := (List.nodup_cons.1 (List.nodup_append.1 hnr).2.1).1
          rintro rfl; exact this (by simp)
        have n4 : ¬ y = x := fun e => n3 e.symm
        rw [List.idxOf_append, if_neg n1, List.idxOf_append, if_neg n2]
        have n5 : (y == x) = false := beq_eq_false_iff_ne.2 n4
        simp [List.idxOf_cons, n5]
    · rw [hout x hx] at h0 ⊢
      have hd := h.dep x h0
      simp only [if_neg hx]
      by_cases hm : par x ∈ L
      · simp only [if_pos hm]
        have := List.idxOf_lt_length_of_mem (List.mem_reverse.2 hm)
        rw [List.length_reverse] at this; omega
      · simp only [if_neg hm]; omega
  · show (if rt x = rt i then i else rt x) = x
    by_cases hx : x ∈ L
    · rw [if_pos (hrtL x hx)]
      rcases ch_split hc' (List.mem_reverse.2 hx) with ⟨B, e, _⟩ | ⟨A, B, e⟩
      · rw [hrev] at e; exact (List.cons.inj e).1
      · exfalso
        have : par' x ∈ L := by rw [← List.mem_reverse, e]; simp
        exact hz _ this h0
    · rw [hout x hx] at h0
      rw [if_neg (fun e => hx (hroot x h0 e)), h.rt0 x h0]
  · show (if rt x = rt i then i else rt x) = if rt (par' x) = rt i then i else rt (par' x)
    by_cases hx : x ∈ L
    · rw [if_pos (hrtL x hx), if_pos (hrtL _ (turn2 x hx h0).1)]
    · rw [hout x hx] at h0 ⊢
      rw [h.rt1 x h0]
  · intro x y
    constructor
    · rintro ⟨hx, hy, e⟩
      refine ⟨hx, hy, ?_⟩
      have key : ∀ x y, y ≠ 0 → par' x = y → par x = y ∨ par y = x := by
        intro x y hy e
        by_cases hxL : x ∈ L
        · right; have := (turn2 x hxL (by rw [e]; exact hy)).2; rwa [e] at this
        · left; rw [← hout x hxL]; exact e
      rcases e with e | e
      · exact key x y hy e
      · exact (key y x hx e).symm
    · rintro ⟨hx, hy, e⟩
      refine ⟨hx, hy, ?_⟩
      have key : ∀ x y, y ≠ 0 → par x = y → par' x = y ∨ par' y = x := by
        intro x y hy e
        by_cases hxL : x ∈ L
        · right; have := (turn1 x hxL (by rw [e]; exact hy)).2; rwa [e] at this
        · left; rw [hout x hxL]; exact e
      rcases e with e | e
      · exact key x y hy e
      · exact (key y x hx e).symm
  · intro x y
    show (if rt x = rt i then i else rt x) = (if rt y = rt i then i else rt y) ↔ _
    have hne : ∀ z, rt z ≠ rt i → i ≠ rt z := by
      rintro z hz rfl
      exact hz (h.idem z).symm
    by_cases h1 : rt x = rt i
    · by_cases h2 : rt y = rt i
      · rw [if_pos h1, if_pos h2, h1, h2]; simp
      · rw [if_pos h1, if_neg h2, h1]
        exact ⟨fun e => absurd e (hne y h2), fun e => absurd e.symm h2⟩
    · by_cases h2 : rt y = rt i
      · rw [if_neg h1, if_pos h2, h2]
        exact ⟨fun e => absurd e.symm (hne x h1), fun e => absurd e h1⟩
      · rw [if_neg h1, if_neg h2]

end Go.Proofs.Ytoppjjgecgbbkaa
