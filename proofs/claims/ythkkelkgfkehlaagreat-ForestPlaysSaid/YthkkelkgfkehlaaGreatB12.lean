/- forest: Add, where the edge is taken. -/
import Derived.Test.YthkkelkgfkehlaaGreatB8
import Derived.Test.YthkkelkgfkehlaaGreatB11
/- forest: how many vertices, slots and classes the tree edges have. -/
namespace Go.Proofs.YthkkelkgfkehlaaGreat
open Classical

/-- No slot's ends are connected by the others. -/
def Indep (G : EMap) (T : Nat → Prop) : Prop := ∀ m c d x, T m → G m = some (c, d, x) → ¬ Cx G (fun t => T t ∧ t ≠ m) c d

section
variable {S V : Nat} {G : EMap} {T T' U : Nat → Prop} {a b c d m : Nat} {x y : Int}
theorem Indep.sub (h : Indep G T) (hs : ∀ t, T' t → T t) : Indep G T' := fun m c d x h1 h2 h3 =>
  h m c d x (hs m h1) h2 (h3.mono fun t _ ht _ => ⟨hs t ht.1, ht.2⟩)

theorem cnt_le_of {P Q : Nat → Prop} (S : Nat) (h : ∀ s, P s → Q s) : cntT S P ≤ cntT S Q := by
  unfold cntT
  generalize List.range S = l
  induction l with
  | nil => simp
  | cons v l ih =>
    by_cases h1 : P v
    · have h2 := h v h1
      simp [h1, h2]; exact ih
    · by_cases h2 : Q v
      · simp [h1, h2]; omega
      · simp [h1, h2]; exact ih
theorem cnt_zero {P : Nat → Prop} {S : Nat} (h : cntT S P = 0) : ∀ s, s < S → ¬ P s := by
  intro s hs hp
  unfold cntT at h
  have h1 : s ∈ (List.range S).filter fun s => decide (P s) := List.mem_filter.2 ⟨List.mem_range.2 hs, by simp [hp]⟩
  rw [List.length_eq_zero_iff.1 h] at h1
  simp at h1

/-- The first of some slots. -/
theorem first_ex (hS : ∀ s e, G s = some e → s < S) : ∀ (k : Nat) (P : Nat → Prop), cntT S P ≤ k → (∀ s, P s → ∃ e, G s = some e) → (∃ s, P s) → ∃ s a b x, P s ∧ G s = some (a, b, x) ∧ ∀ t, P t → t ≠ s → Aft G s x t := by
  intro k
  induction k with
  | zero =>
    rintro P hk hg ⟨s, hs⟩
    obtain ⟨e, he⟩ := hg s hs
    exact absurd hs (cnt_zero (by omega) s (hS s e he))
  | succ k ih =>
    rintro P hk hg ⟨s, hs⟩
    obtain ⟨⟨a, b, x⟩, he⟩ := hg s hs
    by_cases hne : ∃ t, P t ∧ t ≠ s
    · have hd := cntT_drop (T := P) (hS s _ he) hs
      obtain ⟨u, c, d, y, ⟨hu, hus⟩, hgu, hall⟩ := ih (fun t => P t ∧ t ≠ s) (by omega) (fun t ht => hg t ht.1) hne
      by_cases hb : bef x s y u
      · refine ⟨s, a, b, x, hs, he, fun t ht hts => ?_⟩
        by_cases htu : t = u
        · subst htu; exact ⟨c, d, y, hgu, hb⟩
        · obtain ⟨e1, e2, z, h1, h2⟩ := hall t ⟨ht, hts⟩ htu
          exact ⟨e1, e2, z, h1, bef_trans hb h2⟩
      · refine ⟨u, c, d, y, hu, hgu, fun t ht htu => ?_⟩
        by_cases hts : t = s
        · subst hts; exact ⟨a, b, x, he, bef_tri (fun e => htu e) hb⟩
        · exact hall t ⟨ht, hts⟩ htu
    · refine ⟨s, a, b, x, hs, he, fun t ht hts => absurd ⟨t, ht, hts⟩ hne⟩

theorem indep_sub (hS : ∀ s e, G s = some e → s < S) : ∀ (k : Nat) (T : Nat → Prop), cntT S T ≤ k → (∀ t, T t → isTree G t) → Indep G T := by
  intro k
  induction k with
  | zero =>
    intro T hk hT m c d x hm hg _
    exact cnt_zero (by omega) m (hS m _ hg) hm
  | succ k ih =>
    intro T hk hT m c d x hm hg hc
    obtain ⟨s, a, b, z, hs, hgs, hall⟩ := first_ex hS (k + 1) T hk (fun t ht => by obtain ⟨_, _, _, h, _⟩ := hT t ht; exact ⟨_, h⟩) ⟨m, hm⟩
    have hd := cntT_drop (T := T) (hS s _ hgs) hs
    have I := ih (fun t => T t ∧ t ≠ s) (by omega) (fun t ht => hT t ht.1)
    obtain ⟨a', b', z', hgs', hnc⟩ := hT s hs
    rw [hgs] at hgs'; simp only [Option.some.injEq, Prod.mk.injEq] at hgs'
    obtain ⟨rfl, rfl, rfl⟩ := hgs'
    have lift : ∀ {p q : Nat}, Cx G (fun t => T t ∧ t ≠ s) p q → Cx G (Aft G s z) p q := fun h => h.mono fun t _ ht _ => hall t ht.1 ht.2
    by_cases hms : m = s
    · subst hms
      rw [hg] at hgs; simp only [Option.some.injEq, Prod.mk.injEq] at hgs
      obtain ⟨rfl, rfl, rfl⟩ := hgs
      exact hnc (lift hc)
    · have ed : Cx G (fun t => T t ∧ t ≠ s) c d := Cx.edge (s := m) ⟨hm, hms⟩ hg
      have wk : ∀ {p q : Nat}, Cx G (fun t => (T t ∧ t ≠ s) ∧ t ≠ m) p q → Cx G (fun t => T t ∧ t ≠ s) p q := fun h => h.mono fun t _ ht _ => ht.1
      rcases hc.more (U' := fun t => (T t ∧ t ≠ s) ∧ t ≠ m) (s := s) (fun u hu => if e : u = s then .inr e else .inl ⟨⟨hu.1, e⟩, hu.2⟩) hgs with h | ⟨h1, h2⟩ | ⟨h1, h2⟩
      · exact I m c d x ⟨hm, hms⟩ hg h
      · exact hnc (lift (((wk h1).symm.trans ed).trans (wk h2).symm))
      · exact hnc (lift (((wk h2).trans ed.symm).trans (wk h1)))
theorem indep_tree (hS : ∀ s e, G s = some e → s < S) : Indep G (isTree G) := indep_sub hS _ _ (Nat.le_refl _) (fun _ h => h)

/-- How many vertices are connected with one. -/
noncomputable def cxs (V : Nat) (G : EMap) (T : Nat → Prop) (a : Nat) : Nat := cntT V fun v => Cx G T a v
/-- Slots of the tree edges that are connected with a vertex. -/
def SlOf (G : EMap) (T : Nat → Prop) (a : Nat) (s : Nat) : Prop := T s ∧ ∃ c d x, G s = some (c, d, x) ∧ Cx G T a c
noncomputable def sls (S : Nat) (G : EMap) (T : Nat → Prop) (a : Nat) : Nat := cntT S (SlOf G T a)

theorem cnt_split {P Q R : Nat → Prop} (n : Nat) (h1 : ∀ s, P s ↔ Q s ∨ R s) (h2 : ∀ s, ¬ (Q s ∧ R s)) : cntT n P = cntT n Q + cntT n R := by
  unfold cntT
  generalize List.range n = l
  induction l with
  | nil => simp
  | cons v l ih =>
    by_cases hq : Q v
    · have hr : ¬ R v := fun h => h2 v ⟨hq, h⟩
      have hp : P v := (h1 v).2 (.inl hq)
      simp only [List.filter_cons, hp, hq, hr, decide_true, decide_false, if_true, Bool.false_eq_true, if_false, List.length_cons]; omega
    · by_cases hr : R v
      · have hp : P v := (h1 v).2 (.inr hr)
        simp only [List.filter_cons, hp, hq, hr, decide_true, decide_false, if_true, Bool.false_eq_true, if_false, List.length_cons]; omega
      · have hp : ¬ P v := fun h => ((h1 v).1 h).elim hq hr
        simp only [List.filter_cons, hp, hq, hr, decide_false, Bool.false_eq_true, if_false]; exact ih
theorem cnt_one {n m : Nat} (hm : m < n) : cntT n (fun s => s = m) = 1 := by
  have := cntT_put (S := n) (T := fun _ => False) (m := m) hm (fun h => h)
  rw [cntT_none] at this
  rw [show cntT n (fun s => s = m) = cntT n (fun t => False ∨ t = m) from cntT_congr fun s => by simp, this]

/-- One tree edge is taken away: what is connected. -/
theorem cx_drop (hg : G m = some (c, d, x)) (hm : T m) (p q : Nat) : Cx G T p q ↔ Cx G (fun t => T t ∧ t ≠ m) p q ∨ (Cx G (fun t => T t ∧ t ≠ m) p c ∧ Cx G (fun t => T t ∧ t ≠ m) d q) ∨ (Cx G (fun t => T t ∧ t ≠ m) p d ∧ Cx G (fun t => T t ∧ t ≠ m) c q) := by
  constructor
  · intro h
    exact h.more (fun u hu => if e : u = m then .inr e else .inl ⟨hu, e⟩) hg
  · have wk : ∀ {p q : Nat}, Cx G (fun t => T t ∧ t ≠ m) p q → Cx G T p q := fun h => h.mono fun t _ ht _ => ht.1
    have ed : Cx G T c d := Cx.edge (s := m) hm hg
    rintro (h | ⟨h1, h2⟩ | ⟨h1, h2⟩)
    · exact wk h
    · exact ((wk h1).trans ed).trans (wk h2)
    · exact ((wk h1).trans ed.symm).trans (wk h2)

/-- A tree of k vertices has k-1 slots. -/
theorem sls_cxs (hG : GW S V G) : ∀ (k : Nat) (T : Nat → Prop), cntT S T ≤ k → (∀ t, T t → ∃ e, G t = some e) → Indep G T → ∀ a, a < V → sls S G T a + 1 = cxs V G T a := by
  intro k
  induction k with
  | zero =>
    intro T hk hT hI a ha
    have h0 : ∀ s, ¬ T s := fun s hs => by obtain ⟨e, he⟩ := hT s hs; exact cnt_zero (by omega) s (hG.slot s e he) hs
    have e1 : sls S G T a = 0 := by
      unfold sls
      rw [cntT_congr (T' := fun _ => False) (fun s => ⟨fun h => h0 s h.1, fun h => h.elim⟩), cntT_none]
    have e2 : cxs V G T a = 1 := by
      unfold cxs
      rw [cntT_congr (T' := fun s => s = a) (fun s => ⟨fun h => ?_, fun h => by rw [h]; exact .refl a⟩), cnt_one ha]
      cases h with
      | refl => rfl
      | step s x _ h1 _ => exact absurd h1 (h0 s)
    omega
  | succ k ih =>
    intro T hk hT hI a ha
    by_cases hm : ∃ m, T m
    · obtain ⟨m, hm⟩ := hm
      obtain ⟨⟨c, d, x⟩, hg⟩ := hT m hm
      have hms := hG.slot m _ hg
      have hen := hG.ends m c d x hg
      have hd := cntT_drop (T := T) hms hm
      have I := ih (fun t => T t ∧ t ≠ m) (by omega) (fun t ht => hT t ht.1) (hI.sub fun t ht => ht.1)
      have hn := hI m c d x hm hg
      have hcx := fun p q => cx_drop hg hm p q
      have key : ∀ (p q : Nat), q < V → Cx G (fun t => T t ∧ t ≠ m) a p → (∀ v, Cx G T a v ↔ Cx G (fun t => T t ∧ t ≠ m) a v ∨ Cx G (fun t => T t ∧ t ≠ m) q v) → ¬ Cx G (fun t => T t ∧ t ≠ m) p q → Cx G T a c → sls S G T a + 1 = cxs V G T a := by
        intro p q hq hap hv hpq hac
        have e1 : cxs V G T a = cxs V G (fun t => T t ∧ t ≠ m) a + cxs V G (fun t => T t ∧ t ≠ m) q := cnt_split V hv fun v h => hpq ((hap.symm.trans h.1).trans h.2.symm)
        have e2 : sls S G T a = cntT S (fun s => s = m) + cntT S (fun s => SlOf G (fun t => T t ∧ t ≠ m) a s ∨ SlOf G (fun t => T t ∧ t ≠ m) q s) := by
          refine cnt_split S (fun s => ⟨fun h => ?_, fun h => ?_⟩) (fun s h => ?_)
          · by_cases e : s = m
            · exact .inl e
            · obtain ⟨h1, e1, e2, z, h2, h3⟩ := h
              rcases (hv e1).1 h3 with h4 | h4
              · exact .inr (.inl ⟨⟨h1, e⟩, e1, e2, z, h2, h4⟩)
              · exact .inr (.inr ⟨⟨h1, e⟩, e1, e2, z, h2, h4⟩)
          · rcases h with rfl | ⟨h1, e1, e2, z, h2, h3⟩ | ⟨h1, e1, e2, z, h2, h3⟩
            · exact ⟨hm, c, d, x, hg, hac⟩
            · exact ⟨h1.1, e1, e2, z, h2, (hv e1).2 (.inl h3)⟩
            · exact ⟨h1.1, e1, e2, z, h2, (hv e1).2 (.inr h3)⟩
          · obtain ⟨rfl, h⟩ := h
            rcases h with h | h
            · exact h.1.2 rfl
            · exact h.1.2 rfl
        have e3 : cntT S (fun s => SlOf G (fun t => T t ∧ t ≠ m) a s ∨ SlOf G (fun t => T t ∧ t ≠ m) q s) = sls S G (fun t => T t ∧ t ≠ m) a + sls S G (fun t => T t ∧ t ≠ m) q := by
          refine cnt_split S (fun s => Iff.rfl) (fun s h => ?_)
          obtain ⟨⟨_, e1, e2, z, h1, h2⟩, ⟨_, e1', e2', z', h1', h2'⟩⟩ := h
          rw [h1] at h1'; simp only [Option.some.injEq, Prod.mk.injEq] at h1'
          obtain ⟨rfl, rfl, rfl⟩ := h1'
          exact hpq ((hap.symm.trans h2).trans h2'.symm)
        rw [cnt_one hms] at e2
        have i1 := I a ha
        have i2 := I q hq
        omega
      by_cases h1 : Cx G (fun t => T t ∧ t ≠ m) a c
      · refine key c d hen.2.1 h1 (fun v => ⟨fun h => ?_, fun h => ?_⟩) hn ((hcx a c).2 (.inl h1))
        · rcases (hcx a v).1 h with h | ⟨_, h⟩ | ⟨h2, _⟩
          · exact .inl h
          · exact .inr h
          · exact absurd (h1.symm.trans h2) hn
        · rcases h with h | h
          · exact (hcx a v).2 (.inl h)
          · exact (hcx a v).2 (.inr (.inl ⟨h1, h⟩))
      · by_cases h2 : Cx G (fun t => T t ∧ t ≠ m) a d
        · refine key d c hen.1 h2 (fun v => ⟨fun h => ?_, fun h => ?_⟩) (fun h => hn h.symm) ((hcx a c).2 (.inr (.inr ⟨h2, .refl c⟩)))
          · rcases (hcx a v).1 h with h | ⟨h3, _⟩ | ⟨_, h⟩
            · exact .inl h
            · exact absurd h3 h1
            · exact .inr h
          · rcases h with h | h
            · exact (hcx a v).2 (.inl h)
            · exact (hcx a v).2 (.inr (.inr ⟨h2, h⟩))
        · have hv : ∀ v, Cx G T a v ↔ Cx G (fun t => T t ∧ t ≠ m) a v := fun v => by
            rw [hcx a v]
            exact ⟨fun h => h.elim id (fun h => h.elim (fun h => absurd h.1 h1) (fun h => absurd h.1 h2)), .inl⟩
          have e1 : cxs V G T a = cxs V G (fun t => T t ∧ t ≠ m) a := cntT_congr hv
          have e2 : sls S G T a = sls S G (fun t => T t ∧ t ≠ m) a := cntT_congr fun s => ⟨fun h => by
              obtain ⟨h3, e1, e2, z, h4, h5⟩ := h
              have e : s ≠ m := by
                rintro rfl
                rw [hg] at h4; simp only [Option.some.injEq, Prod.mk.injEq] at h4
                obtain ⟨rfl, rfl, rfl⟩ := h4
                exact h1 ((hv c).1 h5)
              exact ⟨⟨h3, e⟩, e1, e2, z, h4, (hv e1).1 h5⟩,
            fun ⟨h3, e1, e2, z, h4, h5⟩ => ⟨h3.1, e1, e2, z, h4, (hv e1).2 h5⟩⟩
          rw [e1, e2]; exact I a ha
    · exact (by
        have h0 : ∀ s, ¬ T s := fun s hs => hm ⟨s, hs⟩
        exact ih T (by rw [cntT_congr (T' := fun _ => False) (fun s => ⟨fun h => h0 s h, fun h => h.elim⟩), cntT_none]; omega) hT hI a ha)

/-- The vertices that are first in their class. -/
def Lead (G : EMap) (T : Nat → Prop) (v : Nat) : Prop := ∀ u, u < v → ¬ Cx G T v u
theorem lead_drop (hc : c < V) (hd : d < V) (hg : G m = some (c, d, x)) (hm : T m) (hn : ¬ Cx G (fun t => T t ∧ t ≠ m) c d) : cntT V (Lead G T) + 1 = cntT V (Lead G fun t => T t ∧ t ≠ m) := by
  have hcx := fun p q => cx_drop hg hm p q
  generalize hR : (fun p q => Cx G (fun t => T t ∧ t ≠ m) p q) = R at *
  have tr : ∀ {p q r}, R p q → R q r → R p r := by rw [← hR]; intro p q r h1 h2; exact Cx.trans h1 h2
  have sy : ∀ {p q}, R p q → R q p := by rw [← hR]; intro p q h1; exact Cx.symm h1
  have rf : ∀ p, R p p := by rw [← hR]; intro p; exact .refl p
  have eR : ∀ p q, Cx G (fun t => T t ∧ t ≠ m) p q ↔ R p q := by rw [← hR]; intro p q; exact Iff.rfl
  simp only [eR] at hcx hn
  have eL : cntT V (Lead G fun t => T t ∧ t ≠ m) = cntT V (fun v => ∀ u, u < v → ¬ R v u) := cntT_congr fun v => by unfold Lead; simp only [eR]
  have eL' : cntT V (Lead G T) = cntT V (fun v => ∀ u, u < v → ¬ (R v u ∨ (R v c ∧ R d u) ∨ (R v d ∧ R c u))) := cntT_congr fun v => by unfold Lead; simp only [hcx]
  rw [eL, eL']
  clear eL eL' eR hcx hR
  have key : ∀ {a b fa fb : Nat}, fa < fb → R a fa → R b fb → (∀ u, u < fa → ¬ R fa u) → (∀ u, u < fb → ¬ R fb u) → b < V → fb ≤ b → cntT V (fun v => ∀ u, u < v → ¬ (R v u ∨ (R v a ∧ R b u) ∨ (R v b ∧ R a u))) + 1 = cntT V (fun v => ∀ u, u < v → ¬ R v u) := by
    intro a b fa fb hlt hca hcb hfa hfb hbn hfbb
    refine cntT_one (m := fb) (by omega) hfb ?_ ?_
    · intro hf
      exact hf fa hlt (.inr (.inr ⟨sy hcb, hca⟩))
    · intro v hv
      refine ⟨fun hf u hu hc => hf u hu (.inl hc), fun hf u hu hc => ?_⟩
      rcases hc with e | ⟨e1, e2⟩ | ⟨e1, e2⟩
      · exact hf u hu e
      · have hxfa : R v fa := tr e1 hca
        have h1 : v = fa := by
          rcases Nat.lt_trichotomy v fa with q | q | q
          · exact absurd (sy hxfa) (hfa v q)
          · exact q
          · exact absurd hxfa (hf fa q)
        have : ¬ u < fb := fun q => hfb u q (tr (sy hcb) e2)
        omega
      · have hxfb : R v fb := tr e1 hcb
        rcases Nat.lt_trichotomy v fb with q | q | q
        · exact absurd (sy hxfb) (hfb v q)
        · exact absurd q hv
        · exact absurd hxfb (hf fb q)
  obtain ⟨fa, ha1, ha2, ha3⟩ := least_ex (P := fun k => R c k) (rf c)
  obtain ⟨fb, hb1, hb2, hb3⟩ := least_ex (P := fun k => R d k) (rf d)
  have hne : fa ≠ fb := by rintro rfl; exact hn (tr ha2 (sy hb2))
  have hfa : ∀ u, u < fa → ¬ R fa u := fun k hk hc => ha3 k hk (tr ha2 hc)
  have hfb : ∀ u, u < fb → ¬ R fb u := fun k hk hc => hb3 k hk (tr hb2 hc)
  rcases Nat.lt_or_gt_of_ne hne with q | q
  · exact key q ha2 hb2 hfa hfb hd hb1
  · rw [← key q hb2 ha2 hfb hfa hc ha1]
    congr 1
    exact cntT_congr fun v => ⟨fun h u hu e => h u hu (e.elim .inl (fun e => e.elim (fun e => .inr (.inr e)) (fun e => .inr (.inl e)))), fun h u hu e => h u hu (e.elim .inl (fun e => e.elim (fun e => .inr (.inr e)) (fun e => .inr (.inl e))))⟩
/-- There are as many classes as vertices less tree edges. -/
theorem lead_cnt (hG : GW S V G) : ∀ (k : Nat) (T : Nat → Prop), cntT S T ≤ k → (∀ t, T t → ∃ e, G t = some e) → Indep G T → cntT V (Lead G T) + cntT S T = V := by
  have all : cntT V (fun _ => True) = V := by
    unfold cntT
    rw [List.filter_eq_self.2 (fun _ _ => by simp), List.length_range]
  intro k
  induction k with
  | zero =>
    intro T hk hT hI
    have h0 : ∀ s, ¬ T s := fun s hs => by obtain ⟨e, he⟩ := hT s hs; exact cnt_zero (by omega) s (hG.slot s e he) hs
    have : cntT V (Lead G T) = V := by
      refine (cntT_congr (T' := fun _ => True) (fun v => ⟨fun _ => trivial, fun _ u hu hc => ?_⟩)).trans all
      cases hc with
      | refl => exact absurd hu (Nat.lt_irrefl _)
      | step s x _ h1 _ => exact h0 s h1
    omega
  | succ k ih =>
    intro T hk hT hI
    by_cases hm : ∃ m, T m
    · obtain ⟨m, hm⟩ := hm
      obtain ⟨⟨c, d, x⟩, hg⟩ := hT m hm
      have hd := cntT_drop (T := T) (hG.slot m _ hg) hm
      have hen := hG.ends m c d x hg
      have := lead_drop hen.1 hen.2.1 hg hm (hI m c d x hm hg)
      have := ih (fun t => T t ∧ t ≠ m) (by omega) (fun t ht => hT t ht.1) (hI.sub fun t ht => ht.1)
      omega
    · have h0 : ∀ s, ¬ T s := fun s hs => hm ⟨s, hs⟩
      exact ih T (by rw [cntT_congr (T' := fun _ => False) (fun s => ⟨fun h => h0 s h, fun h => h.elim⟩), cntT_none]; omega) hT hI
theorem lead_tree (hG : GW S V G) : cntT V (Lead G (isTree G)) + cntT S (isTree G) = V :=
  lead_cnt hG _ _ (Nat.le_refl _) (fun _t ⟨_a, _b, _x, h, _⟩ => ⟨_, h⟩) (indep_tree hG.slot)

theorem Frs.sub {E E' : Nat → Nat → Prop} (h : Frs E) (hs : ∀ v u, E' v u → E v u) (sy : ∀ v u, E' v u → E' u v) : Frs E' := by
  obtain ⟨par, d, rt, hR, hE⟩ := h
  have hp : ∀ x, (if x ≠ 0 ∧ par x ≠ 0 ∧ E' (x - 1) (par x - 1) then par x else 0) ≠ 0 → (if x ≠ 0 ∧ par x ≠ 0 ∧ E' (x - 1) (par x - 1) then par x else 0) = par x ∧ par x ≠ 0 ∧ E' (x - 1) (par x - 1) := by
    intro x hx
    by_cases h : x ≠ 0 ∧ par x ≠ 0 ∧ E' (x - 1) (par x - 1)
    · exact ⟨if_pos h, h.2.1, h.2.2⟩
    · exact absurd (if_neg h) hx
  obtain ⟨rt', hR'⟩ := rt_ex (par := fun x => if x ≠ 0 ∧ par x ≠ 0 ∧ E' (x - 1) (par x - 1) then par x else 0) (d := d) (fun x hx => by
    have := hp x hx
    show d (if x ≠ 0 ∧ par x ≠ 0 ∧ E' (x - 1) (par x - 1) then par x else 0) < d x
    rw [this.1]; exact hR.dep x this.2.1)
  refine ⟨_, d, rt', hR', fun v u => ⟨fun e => ?_, fun e => ?_⟩⟩
  · obtain ⟨h1, h2, h3⟩ := (hE v u).1 (hs v u e)
    refine ⟨h1, h2, h3.imp (fun q => ?_) (fun q => ?_)⟩
    · show (if v + 1 ≠ 0 ∧ par (v + 1) ≠ 0 ∧ E' (v + 1 - 1) (par (v + 1) - 1) then par (v + 1) else 0) = u + 1
      rw [q, if_pos ⟨by omega, by omega, by simpa using e⟩]
    · show (if u + 1 ≠ 0 ∧ par (u + 1) ≠ 0 ∧ E' (u + 1 - 1) (par (u + 1) - 1) then par (u + 1) else 0) = v + 1
      rw [q, if_pos ⟨by omega, by omega, by simpa using sy _ _ e⟩]
  · obtain ⟨h1, h2, h3⟩ := e
    rcases h3 with q | q
    · have := hp (v + 1) (by show (if v + 1 ≠ 0 ∧ par (v + 1) ≠ 0 ∧ E' (v + 1 - 1) (par (v + 1) - 1) then par (v + 1) else 0) ≠ 0; rw [show (if v + 1 ≠ 0 ∧ par (v + 1) ≠ 0 ∧ E' (v + 1 - 1) (par (v + 1) - 1) then par (v + 1) else 0) = u + 1 from q]; omega)
      have e1 : par (v + 1) = u + 1 := this.1.symm.trans q
      have := this.2.2
      rw [e1] at this; simpa using this
    · have := hp (u + 1) (by show (if u + 1 ≠ 0 ∧ par (u + 1) ≠ 0 ∧ E' (u + 1 - 1) (par (u + 1) - 1) then par (u + 1) else 0) ≠ 0; rw [show (if u + 1 ≠ 0 ∧ par (u + 1) ≠ 0 ∧ E' (u + 1 - 1) (par (u + 1) - 1) then par (u + 1) else 0) = v + 1 from q]; omega)
      have e1 : par (u + 1) = v + 1 := this.1.symm.trans q
      have := this.2.2
      rw [e1] at this; exact sy _ _ (by simpa using this)
theorem te_sub (h : Frs (TE S G T)) (hs : ∀ t, T' t → T t) : Frs (TE S G T') := h.sub (fun _ _ => te_mono hs) (fun _ _ => te_symm)

/-- The edges that expire at a time or later; or later. -/
def AtLeast (G : EMap) (r : Int) (t : Nat) : Prop := ∃ a b x, G t = some (a, b, x) ∧ r ≤ x
def Beyond (G : EMap) (r : Int) (t : Nat) : Prop := ∃ a b x, G t = some (a, b, x) ∧ r < x
def IsUntil (G : EMap) (a b : Nat) (r : Int) : Prop := Cx G (AtLeast G r) a b ∧ ¬ Cx G (Beyond G r) a b
theorem until_one {r r' : Int} (h : IsUntil G a b r) (h' : IsUntil G a b r') : r = r' := by
  have key : ∀ {r r' : Int}, IsUntil G a b r → IsUntil G a b r' → ¬ r < r' := fun h h' hlt =>
    h.2 (h'.1.mono fun t _ ⟨c, d, x, h1, h2⟩ _ => ⟨c, d, x, h1, by omega⟩)
  have := key h h'
  have := key h' h
  omega
/-- The first edge of the path says until when. -/
theorem until_first {ma mb : Nat} (hS : ∀ s e, G s = some e → s < S) (hm : G m = some (ma, mb, y)) (hc : Cx G (fun t => isTree G t ∧ (t = m ∨ Aft G m y t)) a b) (hn : ¬ Cx G (fun t => isTree G t ∧ t ≠ m) a b) : IsUntil G a b y := by
  refine ⟨hc.mono fun t _ ht _ => ?_, fun h => ?_⟩
  · rcases ht.2 with rfl | ⟨c, d, z, h1, h2⟩
    · exact ⟨ma, mb, y, hm, Int.le_refl _⟩
    · exact ⟨c, d, z, h1, by unfold bef at h2; omega⟩
  · have hu : Upw G (Beyond G y) := by
      rintro t c d z u ⟨c', d', z', h1, h2⟩ h3 ⟨e, f, v, h4, h5⟩
      rw [h3] at h1; simp only [Option.some.injEq, Prod.mk.injEq] at h1
      obtain ⟨_, _, rfl⟩ := h1
      exact ⟨e, f, v, h4, by unfold bef at h5; omega⟩
    refine hn ((kru hS hu h).mono fun t _ ht _ => ⟨ht.2, ?_⟩)
    rintro rfl
    obtain ⟨_, _, z, h1, h2⟩ := ht.1
    rw [hm] at h1; simp only [Option.some.injEq, Prod.mk.injEq] at h1
    omega
noncomputable def untilI (G : EMap) (a b : Nat) : Int := if h : ∃ r, IsUntil G a b r then Classical.choose h else 0
theorem untilI_eq {r : Int} (h : IsUntil G a b r) : untilI G a b = r := by
  have hx : ∃ r, IsUntil G a b r := ⟨r, h⟩
  unfold untilI; rw [dif_pos hx]
  exact until_one (Classical.choose_spec hx) h

/-- The slot whose edge expires first. -/
def IsFst (G : EMap) (m : Nat) : Prop := ∃ a b x, G m = some (a, b, x) ∧ ∀ t c d z, G t = some (c, d, z) → ¬ bef z t x m
theorem fst_one {m' : Nat} (h : IsFst G m) (h' : IsFst G m') : m = m' := by
  obtain ⟨a, b, x, h1, h2⟩ := h
  obtain ⟨a', b', x', h1', h2'⟩ := h'
  have := h2 m' a' b' x' h1'
  have := h2' m a b x h1
  unfold bef at *
  omega
noncomputable def fstG (G : EMap) : Option Nat := if h : ∃ m, IsFst G m then some (Classical.choose h) else none
theorem fstG_eq (h : IsFst G m) : fstG G = some m := by
  have hx : ∃ m, IsFst G m := ⟨m, h⟩
  unfold fstG; rw [dif_pos hx]
  exact congrArg some (fst_one (Classical.choose_spec hx) h)
theorem fstG_none (h : ∀ s, G s = none) : fstG G = none := by
  unfold fstG
  rw [dif_neg]
  rintro ⟨m, a, b, x, h1, _⟩
  rw [h m] at h1; cases h1
noncomputable def popG (G : EMap) : EMap := match fstG G with
  | none => G
  | some m => updG G m none

/-- How many vertices and slots the forest of the tree edges has in a tree. -/
theorem csize_te (hG : GW S V G) (hf : Frs (TE S G (isTree G))) (ha : a < V) : csize (S + V) (TE S G (isTree G)) (S + a) + 1 = 2 * cxs V G (isTree G) a := by
  have h1 := sls_cxs hG _ _ (Nat.le_refl _) (fun t ⟨a, b, x, h, _⟩ => ⟨_, h⟩) (indep_tree hG.slot) a ha
  have h2 : csize (S + V) (TE S G (isTree G)) (S + a) = sls S G (isTree G) a + cxs V G (isTree G) a := by
    unfold csize sls cxs cntT
    rw [show List.range (S + V) = List.range S ++ (List.range V).map (S + ·) from List.range_add, List.filter_append, List.length_append]
    congr 1
    · congr 1
      refine List.filter_congr fun s hs => decide_eq_decide.2 ?_
      have hs := List.mem_range.1 hs
      constructor
      · intro h
        have hx := conn_in (E := TE S G (isTree G)) h (by omega)
        obtain ⟨v, hx⟩ := hx
        obtain ⟨t, c, d, x, e1, e2, ⟨_, e3⟩ | ⟨rfl, e3⟩⟩ := hx
        · omega
        · refine ⟨e2, c, d, x, e1, (te_iff hG.slot hf).1 (hf.ctrans h (conn_of_edge hf ⟨s, c, d, x, e1, e2, .inl ⟨rfl, .inl rfl⟩⟩))⟩
      · rintro ⟨e2, c, d, x, e1, e3⟩
        exact hf.ctrans ((te_iff hG.slot hf).2 e3) (conn_of_edge hf ⟨s, c, d, x, e1, e2, .inr ⟨rfl, .inl rfl⟩⟩)
    · rw [List.filter_map, List.length_map]
      congr 1
      exact List.filter_congr fun v _ => decide_eq_decide.2 (te_iff hG.slot hf)
  omega
end
end Go.Proofs.YthkkelkgfkehlaaGreat

namespace Go.Proofs.YthkkelkgfkehlaaGreat
open Go.RowKit Classical
set_option maxRecDepth 10000
set_option maxHeartbeats 1600000

section
variable {w w' : World} {pf pl g ph mb S V n : Nat} {G : EMap} {T : Nat → Prop} {key : Nat → Int}
theorem FB.asked (h : FB w pf pl g ph mb S V G T key n) (hL : LM w' pl g (S + V) (TE S G T) key) (hF : Fr [g] w w') : FB w' pf pl g ph mb S V G T key n :=
  ⟨hF.blk h.hd (by have := h.ne2; simp; exact this), hL, h.edges.same (hF.keep mb h.edges.lt (by have := h.ne5; simp; exact fun e => this e.symm)), h.gw, h.keys, h.cn, h.leS, h.leV, h.ne1, h.ne2, h.ne3, h.ne4, h.ne5⟩
theorem te_new {s : Nat} (ht : ¬ T s) (e : Option (Nat × Nat × Int)) : TE S (updG G s e) T = TE S G T :=
  te_congr (fun _ => Iff.rfl) (fun t ht' => by rw [updG_other]; rintro rfl; exact ht ht')
theorem cx_upd {s a b : Nat} (ht : ¬ T s) (e : Option (Nat × Nat × Int)) : Cx (updG G s e) T a b ↔ Cx G T a b := by
  constructor
  · intro h
    exact h.mono' fun u f h1 h2 => ⟨h1, by rw [updG_other (by rintro rfl; exact ht h1)] at h2; exact h2⟩
  · intro h
    exact h.mono' fun u f h1 h2 => ⟨h1, by rw [updG_other (by rintro rfl; exact ht h1)]; exact h2⟩
end

/-- What Min says, by the two results. -/
def MinSays (n : Nat) (E : Nat → Nat → Prop) (key : Nat → Int) (a b r : Int) (ok : Bool) : Prop :=
  (ok = false ∧ r = 0 ∧ ¬ ConnI n E a b) ∨ (ok = true ∧ ∃ (v u : Nat) (p : List Nat) (m : Nat), a = v ∧ b = u ∧ v < n ∧ u < n ∧ IsPath E v u p ∧ (∀ x ∈ p, x < n) ∧ FirstOf key p m ∧ r = m)
theorem min_d {w : World} {pf g n : Nat} {E : Nat → Nat → Prop} {key : Nat → Int} {ed : Int} (h : LG w pf g n E key ed) (a b : Int) : Calls Tryz.prog 27 #[.pointer (some ⟨pf, 0, none⟩), .int .i64 a, .int .i64 b] w fun e w' => ∃ r ok, e = .returned (.tuple #[.int .i64 r, .bool ok]) ∧ MinSays n E key a b r ok ∧ LG w' pf g n E key ed ∧ Fr [g] w w' := by
  refine (min_w h a b).mono ?_
  rintro e w' ⟨⟨hn, rfl⟩ | ⟨v, u, p, m, h1, h2, h3, h4, h5, h6, h7, rfl⟩, hL, hF⟩
  · exact ⟨0, false, rfl, .inl ⟨rfl, rfl, hn⟩, hL, hF⟩
  · exact ⟨m, true, rfl, .inr ⟨rfl, v, u, p, m, h1, h2, h3, h4, h5, h6, h7, rfl⟩, hL, hF⟩

section
variable {w w' : World} {pf S V : Nat} {G : EMap} {L : List Nat}
theorem fadd_yes (h : FAt w pf S V G L) {s a b : Nat} (hs : s < S) (ha : a < V) (hb : b < V) (hab : a ≠ b) (h0 : G s = none) (x : Int) (hx : -9223372036854775808 ≤ x ∧ x ≤ 9223372036854775807) :
    Calls Tryz.prog 7 #[fptr pf, .int .i64 s, .int .i64 a, .int .i64 b, .int .i64 x] w fun e w' => e = .returned (.int .i64 0) ∧ ∃ L', FAt w' pf S V (updG G s (some (a, b, x))) L' ∧ Fr L w w' ∧ ∀ q ∈ L', q ∈ L ∨ w.heap.size ≤ q := by
  obtain ⟨pl, g, ph, mb, l, key, n, h1, hH, hD, rfl⟩ := h
  have ht : ¬ isTree G s := by rintro ⟨_, _, _, e, _⟩; rw [h0] at e; cases e
  have hlt := h1.lt
  have hllt := hH.lt
  have hS := h1.leS
  have hV := h1.leV
  have c1 := h1.hd.cell 1
  have c4 := h1.hd.cell 4
  have c3 := (h1.hd.alloc (.cells #[.int .i64 0, .int .i64 0, .int .i64 0, .bool false] 64)).cell 3
  simp only [List.getElem?_cons_zero, List.getElem?_cons_succ] at c1 c3 c4
  have HV := Lib.hid (fvalid_w h1)
  have HA := fhas_w h1 a
  rw [inV_lt ha] at HA
  have HA := Lib.hid HA
  have HB := fhas_w h1 b
  rw [inV_lt hb] at HB
  have HB := Lib.hid HB
  have s1 : (0 : Int) ≤ s := by omega
  have s2 : (s : Int) < S := by omega
  have s3 : decide (S ≤ s) = false := decide_eq_false (by omega)
  have t1 : ((a : Int) == (b : Int)) = false := by simp; omega
  have hl := h1.edges.run_ok (t := 57) (e := 64) (z := edZ) Tryz.underlying3 Tryz.underlying57 (by kernel_rfl) rfl (wf_nat (s := s) (by omega))
  rw [mapG_nat, h0] at hl
  simp only [Option.map_none, Option.getD_none, edZ, Option.isSome_none] at hl
  have hf0 : Fr [] w (w.alloc (.cells #[.int .i64 0, .int .i64 0, .int .i64 0, .bool false] 64)) := (Fr.refl _ _).alloc _
  have HP := Lib.hid (hpush_w (hH.fr hf0 (by simp)) hs (by simp [qOf, h0]) x)
  have H := Lib.hid h1
  have HH := Lib.hid (And.intro hD (And.intro hllt hlt))
  have HF0 := Lib.hid hf0
  clear h1 hH hD hllt hf0
  go_enter Tryz.func7, Tryz.ntmps7
  go_wp2_with fail
  refine HV.out.mono ?_
  rintro _ w ⟨rfl, rfl⟩
  go_wp2_with fail
  refine HA.out.mono ?_
  rintro _ w ⟨rfl, rfl⟩
  go_wp2_with fail
  refine HB.out.mono ?_
  rintro _ w ⟨rfl, rfl⟩
  go_wp2_with fail
  refine HP.out.mono ?_
  rintro _ w2 ⟨rfl, l', hH2, hF2, hN2⟩
  have hpf2 : Blk w2 pf _ _ := hF2.blk (HF0.out.blk H.out.hd (by simp)) (fun hm => (HH.out.1 _ hm).1 rfl)
  have hI2 : IMap Tryz.prog 3 .i64 okA w2 mb (mapG G (isTree G)) n := H.out.edges.same (by
    rw [hF2.keep mb (by have := HF0.out.size; omega) (fun hm => (HH.out.1 _ hm).2.2.2 rfl), HF0.out.keep mb (by omega) (by simp)])
  have d4 := hpf2.cell 4
  simp only [List.getElem?_cons_zero, List.getElem?_cons_succ] at d4
  have HF2 := Lib.hid (And.intro hH2 (And.intro hF2 (And.intro hN2 hpf2)))
  have HI2 := Lib.hid hI2
  clear hH2 hF2 hN2 hpf2 hI2 c1 c3 c4 hl HP
  go_wp2_with (refine wpList_imap_put rfl _ _ _ _ rfl HI2.out Tryz.underlying3 Tryz.underlying57 (by rw [H.out.cn]; unfold maxLen; have := cntT_le S (fun s => (G s).isSome = true); omega) rfl (s : Int) rfl (wf_nat (s := s) (by omega)) (.agg #[.int .i64 a, .int .i64 b, .int .i64 x, .bool false]) rfl rfl ?_; intro w3 hI3 hF3)
  rw [mapG_nat, h0] at hI3
  simp only [Option.map_none, Option.isSome_none, Bool.false_eq_true, if_false] at hI3
  have hI3' : IMap Tryz.prog 3 .i64 okA w3 mb (mapG (updG G s (some (a, b, x))) (isTree G)) (n + 1) := by rw [← mapG_new ht]; exact hI3
  have hF13 : Fr (mb :: l) w w3 := ((HF0.out.mono (S' := mb :: l) (by simp)).trans' (HF2.out.2.1.mono (fun q hq => .inl (by simp [hq])))).trans' (hF3.mono (fun q hq => .inl (by simp at hq; simp [hq])))
  have hx1 : pf ∉ mb :: l := by simp only [List.mem_cons, not_or]; exact ⟨H.out.ne3, fun hm => (HH.out.1 _ hm).1 rfl⟩
  have hx2 : pl ∉ mb :: l := by simp only [List.mem_cons, not_or]; exact ⟨H.out.ne4, fun hm => (HH.out.1 _ hm).2.1 rfl⟩
  have hx3 : g ∉ mb :: l := by simp only [List.mem_cons, not_or]; exact ⟨H.out.ne5, fun hm => (HH.out.1 _ hm).2.2.1 rfl⟩
  have hB3 := H.out.new h0 ht hs ha hb hab hx hF13 hx1 hx2 hx3 hI3'
  have hL3 : LM w3 pl g (S + V) (TE S G (isTree G)) key := H.out.lct.fr hF13 hx2 hx3
  have hH3 : HeapAt w3 ph S (qOf (updG G s (some (a, b, x)))) (n + 1) l' := by
    rw [← qOf_put (e := (a, b, x))]
    exact HF2.out.1.fr hF3 (fun q hq hm => by
      simp at hm; subst hm
      rcases HF2.out.2.2.1 _ hq with e | e
      · exact (HH.out.1 _ e).2.2.2 rfl
      · simp at e; omega)
  have e1 := hB3.hd.cell 1
  have e2 := hB3.hd.cell 2
  simp only [List.getElem?_cons_zero, List.getElem?_cons_succ] at e1 e2
  have hw1 : IntKind.i64.wrap ((S : Int) + a) = (S : Int) + a := IntWalk.i64_in _ (by omega)
  have hw2 : IntKind.i64.wrap ((S : Int) + b) = (S : Int) + b := IntWalk.i64_in _ (by omega)
  have HM := Lib.hid (min_d (show LG w3.drew pl g (S + V) (TE S G (isTree G)) key _ from LG.fr hL3 (Fr.refl [] _).drew (by simp) (by simp)) ((S : Int) + a) ((S : Int) + b))
  have H3 := Lib.hid (And.intro hB3 (And.intro hH3 hF13))
  clear hI3 hI3' hF3 hF13 hB3 hL3 hH3 d4
  have HN := Lib.hid (And.intro H.out.ne1 (And.intro H.out.ne2 hlt))
  go_region_held3 (fun w' => w'.cell? ⟨pf, 1, none⟩ = some (.int .i64 S) ∧ w'.cell? ⟨pf, 2, none⟩ = some (fptr pl))
    (first
      | go_keep
      | (have N := HN.out; exact ⟨hF4.cell (by simp_all) (by simp; omega), hF4.cell (by simp_all) (by simp; omega)⟩))
    (first
      | (go_at_call 27; refine HM.out.mono ?_; rintro e w4 ⟨r, ok, rfl, hsay, hL4, hF4⟩))
  have hB4 := H3.out.1.asked (show LM w4 pl g (S + V) (TE S (updG G s (some (a, b, x))) (isTree G)) key by rw [te_new ht]; exact hL4) (((Fr.refl [g] w3).drew).trans' hF4)
  have hlen4 := hF4.size
  have hH4 := H3.out.2.1.fr (((Fr.refl [g] w3).drew).trans' hF4) (fun q hq hm => by
    simp at hm; subst hm
    rcases HF2.out.2.2.1 _ hq with e | e
    · exact (HH.out.1 _ e).2.2.1 rfl
    · simp at e; omega)
  have hF04 : Fr (pf :: pl :: g :: mb :: l) w w4 := (H3.out.2.2.mono (S' := pf :: pl :: g :: mb :: l) (fun q hq => .inl (by simp at hq ⊢; grind))).trans' ((((Fr.refl [g] w3).drew).trans' hF4).mono (fun q hq => .inl (by simp at hq ⊢; grind)))
  have hdis : ∀ q ∈ l', q ≠ pf ∧ q ≠ pl ∧ q ≠ g ∧ q ≠ mb := by
    intro q hq
    rcases HF2.out.2.2.1 _ hq with e | e
    · exact HH.out.1 _ e
    · simp at e; omega
  have hnew : ∀ q ∈ pf :: pl :: g :: mb :: l', q ∈ pf :: pl :: g :: mb :: l ∨ w.heap.size ≤ q := by
    intro q hq
    simp only [List.mem_cons] at hq ⊢
    rcases hq with e | e | e | e | e
    · exact .inl (.inl e)
    · exact .inl (.inr (.inl e))
    · exact .inl (.inr (.inr (.inl e)))
    · exact .inl (.inr (.inr (.inr (.inl e))))
    · rcases HF2.out.2.2.1 _ e with e | e
      · exact .inl (.inr (.inr (.inr (.inr e))))
      · simp at e; exact .inr (by omega)
  have H4 := Lib.hid (And.intro hB4 (And.intro hH4 (And.intro hF04 (And.intro hdis hnew))))
  have HS := Lib.hid (And.intro hsay hL4)
  clear hB4 hH4 hF04 hdis hnew hsay hL4 hF4 HM e1 e2
  cases ok with
  | false =>
    have hc : ¬ Cx G (isTree G) a b := by
      rcases HS.out.1 with ⟨_, _, hn⟩ | ⟨e, _⟩
      · intro hc
        exact hn ⟨by simp [inV]; omega, by simp [inV]; omega, by
          rw [show ((S : Int) + a).toNat = S + a by omega, show ((S : Int) + b).toNat = S + b by omega]
          exact te_conn (LG.frs HS.out.2) hc⟩
      · cases e
    have HFa := Lib.hid (fasten_w H4.out.1 (updG_same _ _ _) ht (fun e => hc ((cx_upd ht _).1 e)))
    have HC := Lib.hid hc; clear hc
    go_wp2_with fail
    refine HFa.out.mono ?_
    rintro _ w5 ⟨rfl, hB5, hF5⟩
    have H5 := Lib.hid (And.intro hB5 hF5); clear hB5 hF5
    go_wp2
    go_ret
    exact ⟨rfl, _, ⟨pl, g, ph, mb, l', _, n + 1, H5.out.1.congrT (fun t => (add_new H.out.gw.slot h0 HC.out t).symm), H4.out.2.1.fr H5.out.2 (fun q hq hm => by have := H4.out.2.2.2.1 q hq; simp at hm; grind), H4.out.2.2.2.1, rfl⟩, H4.out.2.2.1.trans' (H5.out.2.mono (fun q hq => .inl (by simp at hq ⊢; grind))), H4.out.2.2.2.2⟩
  | true =>
    obtain ⟨m, ma, mz, y, hr, hms, hgm, htm, hcx, hcut⟩ : ∃ (m ma mz : Nat) (y : Int), r = m ∧ m < S ∧ G m = some (ma, mz, y) ∧ isTree G m ∧ Cx G (fun t => isTree G t ∧ (t = m ∨ Aft G m y t)) a b ∧ ¬ Cx G (fun t => isTree G t ∧ t ≠ m) a b := by
      rcases HS.out.1 with ⟨e, _⟩ | ⟨_, v, u, p, m, e1, e2, h3, h4, hp, hin, hf, hr⟩
      · cases e
      · obtain rfl : v = S + a := by omega
        obtain rfl : u = S + b := by omega
        obtain ⟨ma, mz, y, h5, h6, h7, h8⟩ := first_slot H.out.gw H.out.keys hp hab hf hin
        exact ⟨m, ma, mz, y, hr, h5, h6, h7, h8, te_cut H.out.frs (te_sub H.out.frs (fun _ h => h.1)) hp hf.1 h5⟩
    subst hr
    have hmne : m ≠ s := by rintro rfl; rw [h0] at hgm; cases hgm
    have hgm' : updG G s (some (a, b, x)) m = some (ma, mz, y) := by rw [updG_other hmne]; exact hgm
    have hl4 := H4.out.1.edges.run_get (t := 57) (e := 64) (z := edZ) Tryz.underlying3 Tryz.underlying57 (by kernel_rfl) rfl (wf_nat (s := m) (by omega))
    rw [mapG_nat, hgm'] at hl4
    simp only [Option.map_some, Option.getD_some, htm, decide_true, edV] at hl4
    have c4 := H4.out.1.hd.cell 4
    simp only [List.getElem?_cons_zero, List.getElem?_cons_succ] at c4
    have HG := Lib.hid (And.intro hgm (And.intro htm (And.intro hcx (And.intro hcut hgm'))))
    clear hgm htm hcx hcut hgm'
    have hf45 : Fr [] w4 (w4.alloc (.cells #[.int .i64 ma, .int .i64 mz, .int .i64 y, .bool true] 64)) := (Fr.refl _ _).alloc _
    have HF45 := Lib.hid hf45; clear hf45
    have HLo := Lib.hid (loosen_w (H4.out.1.fr0 HF45.out) HG.out.2.2.2.2 HG.out.2.1)
    by_cases hb : bef x s y m
    · have HB' := Lib.hid hb
      have late : ∀ t, isTree G t ↔ isTree (updG G s (some (a, b, x))) t := fun t => (add_late h0 (HG.out.2.2.1.mono fun t _ ht _ => by
        rcases ht.2 with rfl | ⟨c, d, z, h1, h2⟩
        · exact ⟨_, _, _, HG.out.1, HB'.out⟩
        · exact ⟨c, d, z, h1, bef_trans HB'.out h2⟩) t).symm
      have HE := Lib.hid (show ∃ L', FAt (w4.alloc (.cells #[.int .i64 ma, .int .i64 mz, .int .i64 y, .bool true] 64)) pf S V (updG G s (some (a, b, x))) L' ∧ Fr (pf :: pl :: g :: mb :: l) w (w4.alloc (.cells #[.int .i64 ma, .int .i64 mz, .int .i64 y, .bool true] 64)) ∧ ∀ q ∈ L', q ∈ pf :: pl :: g :: mb :: l ∨ w.heap.size ≤ q from
        ⟨_, ⟨pl, g, ph, mb, l', _, n + 1, (H4.out.1.fr0 HF45.out).congrT late, H4.out.2.1.fr HF45.out (by simp), H4.out.2.2.2.1, rfl⟩, H4.out.2.2.1.trans' (HF45.out.mono (by simp)), H4.out.2.2.2.2⟩)
      clear late HLo
      unfold bef at hb
      by_cases h1 : x < y
      · clear hb
        go_wp2_with fail
        go_ret
        exact ⟨rfl, HE.out⟩
      · have h2 : x = y := by omega
        have h3 : s < m := by omega
        subst h2
        clear hb h1
        go_wp2_with fail
        go_ret
        exact ⟨rfl, HE.out⟩
    · have hb' := bef_tri (show s ≠ m from hmne.symm) hb
      have HB' := Lib.hid hb'
      unfold bef at hb hb'
      have swp : ∀ t, (isTree G t ∧ t ≠ m) ∨ t = s ↔ isTree (updG G s (some (a, b, x))) t := fun t => (add_swap H.out.gw.slot h0 HG.out.1 HG.out.2.2.1 HG.out.2.2.2.1 HB'.out t).symm
      have HSw := Lib.hid swp
      have HNC := Lib.hid (show ¬ Cx (updG G s (some (a, b, x))) (fun t => isTree G t ∧ t ≠ m) a b from fun e => HG.out.2.2.2.1 ((cx_upd (fun h => ht h.1) _).1 e))
      have n1 : decide (x < y) = false := decide_eq_false (by omega)
      have n2 : ¬ (x < y) := by omega
      have hfa : Hid (∀ w5 : World, FB w5 pf pl g ph mb S V (updG G s (some (a, b, x))) (fun t => isTree G t ∧ t ≠ m) key (n + 1) → Calls Tryz.prog 29 #[fptr pf, .int .i64 s] w5 fun e w' => e = .returned (.tuple #[]) ∧ FB w' pf pl g ph mb S V (updG G s (some (a, b, x))) (fun t => (isTree G t ∧ t ≠ m) ∨ t = s) (setKey (S + V) key s x) (n + 1) ∧ Fr [pf, pl, g, mb] w5 w') :=
        Lib.hid (fun w5 hB5 => fasten_w hB5 (updG_same _ _ _) (fun h => ht h.1) HNC.out)
      have fin : Hid (∀ w5 w6 : World, Fr [pf, pl, g, mb] (w4.alloc (.cells #[.int .i64 ma, .int .i64 mz, .int .i64 y, .bool true] 64)) w5 → Fr [pf, pl, g, mb] w5 w6 → FB w6 pf pl g ph mb S V (updG G s (some (a, b, x))) (fun t => (isTree G t ∧ t ≠ m) ∨ t = s) (setKey (S + V) key s x) (n + 1) → 
          ∃ L', FAt w6 pf S V (updG G s (some (a, b, x))) L' ∧ Fr (pf :: pl :: g :: mb :: l) w w6 ∧ ∀ q ∈ L', q ∈ pf :: pl :: g :: mb :: l ∨ w.heap.size ≤ q) := Lib.hid (fun w5 w6 f5 f6 hB6 => by
        have f46 : Fr [pf, pl, g, mb] w4 w6 := ((HF45.out.mono (by simp)).trans' f5).trans' f6
        exact ⟨_, ⟨pl, g, ph, mb, l', _, n + 1, hB6.congrT HSw.out, H4.out.2.1.fr f46 (fun q hq hm => by have := H4.out.2.2.2.1 q hq; simp at hm; grind), H4.out.2.2.2.1, rfl⟩, H4.out.2.2.1.trans' (f46.mono (fun q hq => .inl (by simp at hq ⊢; grind))), H4.out.2.2.2.2⟩)
      clear swp hb'
      by_cases e : x = y
      · have n3 : decide (s < m) = false := decide_eq_false (by omega)
        subst e
        clear hb
        go_wp2_with fail
        refine HLo.out.mono ?_
        rintro _ w5 ⟨rfl, hB5, hF5⟩
        have HF5 := Lib.hid hF5
        have HFa := Lib.hid (hfa.out _ hB5)
        clear hB5 hF5
        go_wp2_with fail
        refine HFa.out.mono ?_
        rintro _ w6 ⟨rfl, hB6, hF6⟩
        have HF6 := Lib.hid (fin.out w5 w6 HF5.out hF6 hB6)
        clear hB6 hF6
        go_wp2_with fail
        go_ret
        exact ⟨rfl, HF6.out⟩
      · have n3 : (x == y) = false := by simp [e]
        have n4 : (y == x) = false := by simp; omega
        clear hb
        go_wp2_with fail
        refine HLo.out.mono ?_
        rintro _ w5 ⟨rfl, hB5, hF5⟩
        have HF5 := Lib.hid hF5
        have HFa := Lib.hid (hfa.out _ hB5)
        clear hB5 hF5
        go_wp2_with fail
        refine HFa.out.mono ?_
        rintro _ w6 ⟨rfl, hB6, hF6⟩
        have HF6 := Lib.hid (fin.out w5 w6 HF5.out hF6 hB6)
        clear hB6 hF6
        go_wp2_with fail
        go_ret
        exact ⟨rfl, HF6.out⟩
end
end Go.Proofs.YthkkelkgfkehlaaGreat
