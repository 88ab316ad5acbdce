/- The heap in memory; order, place, put. -/
import Derived.Test.YtgmnemndjjmgkaaGreatB13
import Derived.Test.YtgmnemndjjmgkaaGreatB7
import Derived.Test.YtgmnemndjjmgkaaGreatB1
import Derived.Deep.RegionHeld3
import Derived.Test.YtgmnemndjjmgkaaGreatB6
set_option linter.unusedSimpArgs false
set_option linter.unusedVariables false
/- forest: how many vertices, slots and classes the tree edges have. -/
namespace Go.Proofs.YtgmnemndjjmgkaaGreat
open Classical

/-- No slot's ends are connected by the others. -/
def Indep (G : EMap) (T : Nat → Prop) : Prop := ∀ m c d x, T m → G m = some (c, d, x) → ¬ Cx G (fun t => T t ∧ t ≠ m) c d

section
variable {S V : Nat} {G : EMap} {T T' U : Nat → Prop} {a b c d m : Nat} {x y : Int}
theorem Indep.sub (h : Indep G T) (hs : ∀ t, T' t → T t) : Indep G T' := fun m c d x h1 h2 h3 =>
  h m c d x (hs m h1) h2 (h3.mono fun t _ ht _ => ⟨hs t ht.1, ht.2⟩)

theorem cnt_le_of {P Q : Nat → Prop} (S : Nat) (h : ∀ s, P s → Q s) : cntT S P ≤ cntT S Q := by
  unfold cntT
  generalize List.range S = l
  induction l with
  | nil => simp
  | cons v l ih =>
    by_cases h1 : P v
    · have h2 := h v h1
      simp [h1, h2]; exact ih
    · by_cases h2 : Q v
      · simp [h1, h2]; omega
      · simp [h1, h2]; exact ih
theorem cnt_zero {P : Nat → Prop} {S : Nat} (h : cntT S P = 0) : ∀ s, s < S → ¬ P s := by
  intro s hs hp
  unfold cntT at h
  have h1 : s ∈ (List.range S).filter fun s => decide (P s) := List.mem_filter.2 ⟨List.mem_range.2 hs, by simp [hp]⟩
  rw [List.length_eq_zero_iff.1 h] at h1
  simp at h1

/-- The first of some slots. -/
theorem first_ex (hS : ∀ s e, G s = some e → s < S) : ∀ (k : Nat) (P : Nat → Prop), cntT S P ≤ k → (∀ s, P s → ∃ e, G s = some e) → (∃ s, P s) → ∃ s a b x, P s ∧ G s = some (a, b, x) ∧ ∀ t, P t → t ≠ s → Aft G s x t := by
  intro k
  induction k with
  | zero =>
    rintro P hk hg ⟨s, hs⟩
    obtain ⟨e, he⟩ := hg s hs
    exact absurd hs (cnt_zero (by omega) s (hS s e he))
  | succ k ih =>
    rintro P hk hg ⟨s, hs⟩
    obtain ⟨⟨a, b, x⟩, he⟩ := hg s hs
    by_cases hne : ∃ t, P t ∧ t ≠ s
    · have hd := cntT_drop (T := P) (hS s _ he) hs
      obtain ⟨u, c, d, y, ⟨hu, hus⟩, hgu, hall⟩ := ih (fun t => P t ∧ t ≠ s) (by omega) (fun t ht => hg t ht.1) hne
      by_cases hb : bef x s y u
      · refine ⟨s, a, b, x, hs, he, fun t ht hts => ?_⟩
        by_cases htu : t = u
        · subst htu; exact ⟨c, d, y, hgu, hb⟩
        · obtain ⟨e1, e2, z, h1, h2⟩ := hall t ⟨ht, hts⟩ htu
          exact ⟨e1, e2, z, h1, bef_trans hb h2⟩
      · refine ⟨u, c, d, y, hu, hgu, fun t ht htu => ?_⟩
        by_cases hts : t = s
        · subst hts; exact ⟨a, b, x, he, bef_tri (fun e => htu e) hb⟩
        · exact hall t ⟨ht, hts⟩ htu
    · refine ⟨s, a, b, x, hs, he, fun t ht hts => absurd ⟨t, ht, hts⟩ hne⟩

theorem indep_sub (hS : ∀ s e, G s = some e → s < S) : ∀ (k : Nat) (T : Nat → Prop), cntT S T ≤ k → (∀ t, T t → isTree G t) → Indep G T := by
  intro k
  induction k with
  | zero =>
    intro T hk hT m c d x hm hg _
    exact cnt_zero (by omega) m (hS m _ hg) hm
  | succ k ih =>
    intro T hk hT m c d x hm hg hc
    obtain ⟨s, a, b, z, hs, hgs, hall⟩ := first_ex hS (k + 1) T hk (fun t ht => by obtain ⟨_, _, _, h, _⟩ := hT t ht; exact ⟨_, h⟩) ⟨m, hm⟩
    have hd := cntT_drop (T := T) (hS s _ hgs) hs
    have I := ih (fun t => T t ∧ t ≠ s) (by omega) (fun t ht => hT t ht.1)
    obtain ⟨a', b', z', hgs', hnc⟩ := hT s hs
    rw [hgs] at hgs'; simp only [Option.some.injEq, Prod.mk.injEq] at hgs'
    obtain ⟨rfl, rfl, rfl⟩ := hgs'
    have lift : ∀ {p q : Nat}, Cx G (fun t => T t ∧ t ≠ s) p q → Cx G (Aft G s z) p q := fun h => h.mono fun t _ ht _ => hall t ht.1 ht.2
    by_cases hms : m = s
    · subst hms
      rw [hg] at hgs; simp only [Option.some.injEq, Prod.mk.injEq] at hgs
      obtain ⟨rfl, rfl, rfl⟩ := hgs
      exact hnc (lift hc)
    · have ed : Cx G (fun t => T t ∧ t ≠ s) c d := Cx.edge (s := m) ⟨hm, hms⟩ hg
      have wk : ∀ {p q : Nat}, Cx G (fun t => (T t ∧ t ≠ s) ∧ t ≠ m) p q → Cx G (fun t => T t ∧ t ≠ s) p q := fun h => h.mono fun t _ ht _ => ht.1
      rcases hc.more (U' := fun t => (T t ∧ t ≠ s) ∧ t ≠ m) (s := s) (fun u hu => if e : u = s then .inr e else .inl ⟨⟨hu.1, e⟩, hu.2⟩) hgs with h | ⟨h1, h2⟩ | ⟨h1, h2⟩
      · exact I m c d x ⟨hm, hms⟩ hg h
      · exact hnc (lift (((wk h1).symm.trans ed).trans (wk h2).symm))
      · exact hnc (lift (((wk h2).trans ed.symm).trans (wk h1)))
theorem indep_tree (hS : ∀ s e, G s = some e → s < S) : Indep G (isTree G) := indep_sub hS _ _ (Nat.le_refl _) (fun _ h => h)

/-- One tree edge is taken away: what is connected. -/
theorem cx_drop (hg : G m = some (c, d, x)) (hm : T m) (p q : Nat) : Cx G T p q ↔ Cx G (fun t => T t ∧ t ≠ m) p q ∨ (Cx G (fun t => T t ∧ t ≠ m) p c ∧ Cx G (fun t => T t ∧ t ≠ m) d q) ∨ (Cx G (fun t => T t ∧ t ≠ m) p d ∧ Cx G (fun t => T t ∧ t ≠ m) c q) := by
  constructor
  · intro h
    exact h.more (fun u hu => if e : u = m then .inr e else .inl ⟨hu, e⟩) hg
  · have wk : ∀ {p q : Nat}, Cx G (fun t => T t ∧ t ≠ m) p q → Cx G T p q := fun h => h.mono fun t _ ht _ => ht.1
    have ed : Cx G T c d := Cx.edge (s := m) hm hg
    rintro (h | ⟨h1, h2⟩ | ⟨h1, h2⟩)
    · exact wk h
    · exact ((wk h1).trans ed).trans (wk h2)
    · exact ((wk h1).trans ed.symm).trans (wk h2)

/-- The vertices that are first in their class. -/
def Lead (G : EMap) (T : Nat → Prop) (v : Nat) : Prop := ∀ u, u < v → ¬ Cx G T v u
theorem lead_drop (hc : c < V) (hd : d < V) (hg : G m = some (c, d, x)) (hm : T m) (hn : ¬ Cx G (fun t => T t ∧ t ≠ m) c d) : cntT V (Lead G T) + 1 = cntT V (Lead G fun t => T t ∧ t ≠ m) := by
  have hcx := fun p q => cx_drop hg hm p q
  generalize hR : (fun p q => Cx G (fun t => T t ∧ t ≠ m) p q) = R at *
  have tr : ∀ {p q r}, R p q → R q r → R p r := by rw [← hR]; intro p q r h1 h2; exact Cx.trans h1 h2
  have sy : ∀ {p q}, R p q → R q p := by rw [← hR]; intro p q h1; exact Cx.symm h1
  have rf : ∀ p, R p p := by rw [← hR]; intro p; exact .refl p
  have eR : ∀ p q, Cx G (fun t => T t ∧ t ≠ m) p q ↔ R p q := by rw [← hR]; intro p q; exact Iff.rfl
  simp only [eR] at hcx hn
  have eL : cntT V (Lead G fun t => T t ∧ t ≠ m) = cntT V (fun v => ∀ u, u < v → ¬ R v u) := cntT_congr fun v => by unfold Lead; simp only [eR]
  have eL' : cntT V (Lead G T) = cntT V (fun v => ∀ u, u < v → ¬ (R v u ∨ (R v c ∧ R d u) ∨ (R v d ∧ R c u))) := cntT_congr fun v => by unfold Lead; simp only [hcx]
  rw [eL, eL']
  clear eL eL' eR hcx hR
  have key : ∀ {a b fa fb : Nat}, fa < fb → R a fa → R b fb → (∀ u, u < fa → ¬ R fa u) → (∀ u, u < fb → ¬ R fb u) → b < V → fb ≤ b → cntT V (fun v => ∀ u, u < v → ¬ (R v u ∨ (R v a ∧ R b u) ∨ (R v b ∧ R a u))) + 1 = cntT V (fun v => ∀ u, u < v → ¬ R v u) := by
    intro a b fa fb hlt hca hcb hfa hfb hbn hfbb
    refine cntT_one (m := fb) (by omega) hfb ?_ ?_
    · intro hf
      exact hf fa hlt (.inr (.inr ⟨sy hcb, hca⟩))
    · intro v hv
      refine ⟨fun hf u hu hc => hf u hu (.inl hc), fun hf u hu hc => ?_⟩
      rcases hc with e | ⟨e1, e2⟩ | ⟨e1, e2⟩
      · exact hf u hu e
      · have hxfa : R v fa := tr e1 hca
        have h1 : v = fa := by
          rcases Nat.lt_trichotomy v fa with q | q | q
          · exact absurd (sy hxfa) (hfa v q)
          · exact q
          · exact absurd hxfa (hf fa q)
        have : ¬ u < fb := fun q => hfb u q (tr (sy hcb) e2)
        omega
      · have hxfb : R v fb := tr e1 hcb
        rcases Nat.lt_trichotomy v fb with q | q | q
        · exact absurd (sy hxfb) (hfb v q)
        · exact absurd q hv
        · exact absurd hxfb (hf fb q)
  obtain ⟨fa, ha1, ha2, ha3⟩ := least_ex (P := fun k => R c k) (rf c)
  obtain ⟨fb, hb1, hb2, hb3⟩ := least_ex (P := fun k => R d k) (rf d)
  have hne : fa ≠ fb := by rintro rfl; exact hn (tr ha2 (sy hb2))
  have hfa : ∀ u, u < fa → ¬ R fa u := fun k hk hc => ha3 k hk (tr ha2 hc)
  have hfb : ∀ u, u < fb → ¬ R fb u := fun k hk hc => hb3 k hk (tr hb2 hc)
  rcases Nat.lt_or_gt_of_ne hne with q | q
  · exact key q ha2 hb2 hfa hfb hd hb1
  · rw [← key q hb2 ha2 hfb hfa hc ha1]
    congr 1
    exact cntT_congr fun v => ⟨fun h u hu e => h u hu (e.elim .inl (fun e => e.elim (fun e => .inr (.inr e)) (fun e => .inr (.inl e)))), fun h u hu e => h u hu (e.elim .inl (fun e => e.elim (fun e => .inr (.inr e)) (fun e => .inr (.inl e))))⟩
/-- There are as many classes as vertices less tree edges. -/
theorem lead_cnt (hG : GW S V G) : ∀ (k : Nat) (T : Nat → Prop), cntT S T ≤ k → (∀ t, T t → ∃ e, G t = some e) → Indep G T → cntT V (Lead G T) + cntT S T = V := by
  have all : cntT V (fun _ => True) = V := by
    unfold cntT
    rw [List.filter_eq_self.2 (fun _ _ => by simp), List.length_range]
  intro k
  induction k with
  | zero =>
    intro T hk hT hI
    have h0 : ∀ s, ¬ T s := fun s hs => by obtain ⟨e, he⟩ := hT s hs; exact cnt_zero (by omega) s (hG.slot s e he) hs
    have : cntT V (Lead G T) = V := by
      refine (cntT_congr (T' := fun _ => True) (fun v => ⟨fun _ => trivial, fun _ u hu hc => ?_⟩)).trans all
      cases hc with
      | refl => exact absurd hu (Nat.lt_irrefl _)
      | step s x _ h1 _ => exact h0 s h1
    omega
  | succ k ih =>
    intro T hk hT hI
    by_cases hm : ∃ m, T m
    · obtain ⟨m, hm⟩ := hm
      obtain ⟨⟨c, d, x⟩, hg⟩ := hT m hm
      have hd := cntT_drop (T := T) (hG.slot m _ hg) hm
      have hen := hG.ends m c d x hg
      have := lead_drop hen.1 hen.2.1 hg hm (hI m c d x hm hg)
      have := ih (fun t => T t ∧ t ≠ m) (by omega) (fun t ht => hT t ht.1) (hI.sub fun t ht => ht.1)
      omega
    · have h0 : ∀ s, ¬ T s := fun s hs => hm ⟨s, hs⟩
      exact ih T (by rw [cntT_congr (T' := fun _ => False) (fun s => ⟨fun h => h0 s h, fun h => h.elim⟩), cntT_none]; omega) hT hI
theorem lead_tree (hG : GW S V G) : cntT V (Lead G (isTree G)) + cntT S (isTree G) = V :=
  lead_cnt hG _ _ (Nat.le_refl _) (fun _t ⟨_a, _b, _x, h, _⟩ => ⟨_, h⟩) (indep_tree hG.slot)

theorem Frs.sub {E E' : Nat → Nat → Prop} (h : Frs E) (hs : ∀ v u, E' v u → E v u) (sy : ∀ v u, E' v u → E' u v) : Frs E' := by
  obtain ⟨par, d, rt, hR, hE⟩ := h
  have hp : ∀ x, (if x ≠ 0 ∧ par x ≠ 0 ∧ E' (x - 1) (par x - 1) then par x else 0) ≠ 0 → (if x ≠ 0 ∧ par x ≠ 0 ∧ E' (x - 1) (par x - 1) then par x else 0) = par x ∧ par x ≠ 0 ∧ E' (x - 1) (par x - 1) := by
    intro x hx
    by_cases h : x ≠ 0 ∧ par x ≠ 0 ∧ E' (x - 1) (par x - 1)
    · exact ⟨if_pos h, h.2.1, h.2.2⟩
    · exact absurd (if_neg h) hx
  obtain ⟨rt', hR'⟩ := rt_ex (par := fun x => if x ≠ 0 ∧ par x ≠ 0 ∧ E' (x - 1) (par x - 1) then par x else 0) (d := d) (fun x hx => by
    have := hp x hx
    show d (if x ≠ 0 ∧ par x ≠ 0 ∧ E' (x - 1) (par x - 1) then par x else 0) < d x
    rw [this.1]; exact hR.dep x this.2.1)
  refine ⟨_, d, rt', hR', fun v u => ⟨fun e => ?_, fun e => ?_⟩⟩
  · obtain ⟨h1, h2, h3⟩ := (hE v u).1 (hs v u e)
    refine ⟨h1, h2, h3.imp (fun q => ?_) (fun q => ?_)⟩
    · show (if v + 1 ≠ 0 ∧ par (v + 1) ≠ 0 ∧ E' (v + 1 - 1) (par (v + 1) - 1) then par (v + 1) else 0) = u + 1
      rw [q, if_pos ⟨by omega, by omega, by simpa using e⟩]
    · show (if u + 1 ≠ 0 ∧ par (u + 1) ≠ 0 ∧ E' (u + 1 - 1) (par (u + 1) - 1) then par (u + 1) else 0) = v + 1
      rw [q, if_pos ⟨by omega, by omega, by simpa using sy _ _ e⟩]
  · obtain ⟨h1, h2, h3⟩ := e
    rcases h3 with q | q
    · have := hp (v + 1) (by show (if v + 1 ≠ 0 ∧ par (v + 1) ≠ 0 ∧ E' (v + 1 - 1) (par (v + 1) - 1) then par (v + 1) else 0) ≠ 0; rw [show (if v + 1 ≠ 0 ∧ par (v + 1) ≠ 0 ∧ E' (v + 1 - 1) (par (v + 1) - 1) then par (v + 1) else 0) = u + 1 from q]; omega)
      have e1 : par (v + 1) = u + 1 := this.1.symm.trans q
      have := this.2.2
      rw [e1] at this; simpa using this
    · have := hp (u + 1) (by show (if u + 1 ≠ 0 ∧ par (u + 1) ≠ 0 ∧ E' (u + 1 - 1) (par (u + 1) - 1) then par (u + 1) else 0) ≠ 0; rw [show (if u + 1 ≠ 0 ∧ par (u + 1) ≠ 0 ∧ E' (u + 1 - 1) (par (u + 1) - 1) then par (u + 1) else 0) = v + 1 from q]; omega)
      have e1 : par (u + 1) = v + 1 := this.1.symm.trans q
      have := this.2.2
      rw [e1] at this; exact sy _ _ (by simpa using this)
theorem te_sub (h : Frs (TE S G T)) (hs : ∀ t, T' t → T t) : Frs (TE S G T') := h.sub (fun _ _ => te_mono hs) (fun _ _ => te_symm)

/-- The edges that expire at a time or later; or later. -/
def AtLeast (G : EMap) (r : Int) (t : Nat) : Prop := ∃ a b x, G t = some (a, b, x) ∧ r ≤ x
def Beyond (G : EMap) (r : Int) (t : Nat) : Prop := ∃ a b x, G t = some (a, b, x) ∧ r < x
def IsUntil (G : EMap) (a b : Nat) (r : Int) : Prop := Cx G (AtLeast G r) a b ∧ ¬ Cx G (Beyond G r) a b
theorem until_one {r r' : Int} (h : IsUntil G a b r) (h' : IsUntil G a b r') : r = r' := by
  have key : ∀ {r r' : Int}, IsUntil G a b r → IsUntil G a b r' → ¬ r < r' := fun h h' hlt =>
    h.2 (h'.1.mono fun t _ ⟨c, d, x, h1, h2⟩ _ => ⟨c, d, x, h1, by omega⟩)
  have := key h h'
  have := key h' h
  omega
/-- The first edge of the path says until when. -/
theorem until_first {ma mb : Nat} (hS : ∀ s e, G s = some e → s < S) (hm : G m = some (ma, mb, y)) (hc : Cx G (fun t => isTree G t ∧ (t = m ∨ Aft G m y t)) a b) (hn : ¬ Cx G (fun t => isTree G t ∧ t ≠ m) a b) : IsUntil G a b y := by
  refine ⟨hc.mono fun t _ ht _ => ?_, fun h => ?_⟩
  · rcases ht.2 with rfl | ⟨c, d, z, h1, h2⟩
    · exact ⟨ma, mb, y, hm, Int.le_refl _⟩
    · exact ⟨c, d, z, h1, by unfold bef at h2; omega⟩
  · have hu : Upw G (Beyond G y) := by
      rintro t c d z u ⟨c', d', z', h1, h2⟩ h3 ⟨e, f, v, h4, h5⟩
      rw [h3] at h1; simp only [Option.some.injEq, Prod.mk.injEq] at h1
      obtain ⟨_, _, rfl⟩ := h1
      exact ⟨e, f, v, h4, by unfold bef at h5; omega⟩
    refine hn ((kru hS hu h).mono fun t _ ht _ => ⟨ht.2, ?_⟩)
    rintro rfl
    obtain ⟨_, _, z, h1, h2⟩ := ht.1
    rw [hm] at h1; simp only [Option.some.injEq, Prod.mk.injEq] at h1
    omega
noncomputable def untilI (G : EMap) (a b : Nat) : Int := if h : ∃ r, IsUntil G a b r then Classical.choose h else 0
theorem untilI_eq {r : Int} (h : IsUntil G a b r) : untilI G a b = r := by
  have hx : ∃ r, IsUntil G a b r := ⟨r, h⟩
  unfold untilI; rw [dif_pos hx]
  exact until_one (Classical.choose_spec hx) h

/-- The slot whose edge expires first. -/
def IsFst (G : EMap) (m : Nat) : Prop := ∃ a b x, G m = some (a, b, x) ∧ ∀ t c d z, G t = some (c, d, z) → ¬ bef z t x m
theorem fst_one {m' : Nat} (h : IsFst G m) (h' : IsFst G m') : m = m' := by
  obtain ⟨a, b, x, h1, h2⟩ := h
  obtain ⟨a', b', x', h1', h2'⟩ := h'
  have := h2 m' a' b' x' h1'
  have := h2' m a b x h1
  unfold bef at *
  omega
noncomputable def fstG (G : EMap) : Option Nat := if h : ∃ m, IsFst G m then some (Classical.choose h) else none
theorem fstG_eq (h : IsFst G m) : fstG G = some m := by
  have hx : ∃ m, IsFst G m := ⟨m, h⟩
  unfold fstG; rw [dif_pos hx]
  exact congrArg some (fst_one (Classical.choose_spec hx) h)
theorem fstG_none (h : ∀ s, G s = none) : fstG G = none := by
  unfold fstG
  rw [dif_neg]
  rintro ⟨m, a, b, x, h1, _⟩
  rw [h m] at h1; cases h1
noncomputable def popG (G : EMap) : EMap := match fstG G with
  | none => G
  | some m => updG G m none

end
end Go.Proofs.YtgmnemndjjmgkaaGreat

/- The plain model of a window: the forest's first edge is what is due first. -/
namespace Go.Proofs.YtgmnemndjjmgkaaGreat
open Go.RowKit
set_option maxRecDepth 10000

section
variable {s : Sm} {Q : Nat → Option Int} {G : Nat → Option (Nat × Nat × Int)} {i : Nat} {x : Int}
theorem min_fst (hl : Lk s Q G) (hok : s.Ok) (hq : Q i = some x) (hm : ∀ j y, Q j = some y → ¬ (y < x ∨ (y = x ∧ j < i))) : IsFst G i := by
  obtain ⟨e, he, hs, hx⟩ := (hl.q i x).1 hq
  obtain ⟨a, ha⟩ := Option.isSome_iff_exists.1 (vert_mem hok he (x := e.u) (by simp [Lv.at]))
  obtain ⟨b, hb⟩ := Option.isSome_iff_exists.1 (vert_mem hok he (x := e.v) (by simp [Lv.at]))
  refine ⟨a, b, x, (hl.g i a b x).2 ⟨e, he, hs, ha, hb, hx⟩, fun t c d z ht hbef => ?_⟩
  obtain ⟨e', he', hs', _, _, hx'⟩ := (hl.g t c d z).1 ht
  exact hm t z ((hl.q t z).2 ⟨e', he', hs', hx'⟩) hbef
theorem pop_min (hl : Lk s Q G) (hok : s.Ok) (hq : Q i = some x) (hm : ∀ j y, Q j = some y → ¬ (y < x ∨ (y = x ∧ j < i))) : fstG G = some i ∧ popG G = fun j => if j = i then none else G j := by
  have h1 := fstG_eq (min_fst hl hok hq hm)
  refine ⟨h1, ?_⟩
  unfold popG
  rw [h1]
  rfl
end
end Go.Proofs.YtgmnemndjjmgkaaGreat

/- The plain law of the binary heap: sifting up and down. -/
namespace Go.Proofs.YtgmnemndjjmgkaaGreat

/-- Entries: an index and a key; by keys, then by indexes. -/
def elt (a b : Nat × Int) : Prop := a.2 < b.2 ∨ (a.2 = b.2 ∧ a.1 < b.1)
instance (a b : Nat × Int) : Decidable (elt a b) := by unfold elt; exact inferInstance
theorem elt_irrefl (a : Nat × Int) : ¬ elt a a := by unfold elt; omega
theorem elt_trans {a b c : Nat × Int} (h : elt a b) (k : elt b c) : elt a c := by unfold elt at *; omega
theorem nelt_trans {a b c : Nat × Int} (h : ¬ elt a b) (k : ¬ elt b c) : ¬ elt a c := by unfold elt at *; omega
theorem elt_asymm {a b : Nat × Int} (h : elt a b) : ¬ elt b a := by unfold elt at *; omega
def swpE (e : Nat → Nat × Int) (p q : Nat) : Nat → Nat × Int := fun x => if x = p then e q else if x = q then e p else e x
theorem swpE_p (e : Nat → Nat × Int) (p q : Nat) : swpE e p q p = e q := by simp [swpE]
theorem swpE_q (e : Nat → Nat × Int) (p q : Nat) : swpE e p q q = e p := by
  unfold swpE; split
  · rename_i h; rw [h]
  · simp
theorem swpE_o {e : Nat → Nat × Int} {p q x : Nat} (h1 : x ≠ p) (h2 : x ≠ q) : swpE e p q x = e x := by simp [swpE, h1, h2]
theorem swpE_mem {e : Nat → Nat × Int} {n p q : Nat} (hp : p < n) (hq : q < n) (y : Nat × Int) : (∃ x, x < n ∧ swpE e p q x = y) ↔ ∃ x, x < n ∧ e x = y := by
  constructor
  · rintro ⟨x, hx, rfl⟩
    by_cases h1 : x = p
    · exact ⟨q, hq, by rw [h1, swpE_p]⟩
    · by_cases h2 : x = q
      · exact ⟨p, hp, by rw [h2, swpE_q]⟩
      · exact ⟨x, hx, by rw [swpE_o h1 h2]⟩
  · rintro ⟨x, hx, rfl⟩
    by_cases h1 : x = p
    · exact ⟨q, hq, by rw [h1, swpE_q]⟩
    · by_cases h2 : x = q
      · exact ⟨p, hp, by rw [h2, swpE_p]⟩
      · exact ⟨x, hx, swpE_o h1 h2⟩

def updE (e : Nat → Nat × Int) (n : Nat) (x : Nat × Int) : Nat → Nat × Int := fun k => if k = n then x else e k
theorem updE_same (e : Nat → Nat × Int) (n : Nat) (x : Nat × Int) : updE e n x n = x := by simp [updE]
theorem updE_other {e : Nat → Nat × Int} {n k : Nat} {x : Nat × Int} (h : k ≠ n) : updE e n x k = e k := by simp [updE, h]

section
variable {n p : Nat} {e : Nat → Nat × Int}
def Hp (n : Nat) (e : Nat → Nat × Int) : Prop := ∀ k, 0 < k → k < n → ¬ elt (e k) (e ((k - 1) / 2))
def UpI (n : Nat) (e : Nat → Nat × Int) (p : Nat) : Prop :=
  (∀ k, 0 < k → k < n → k ≠ p → ¬ elt (e k) (e ((k - 1) / 2))) ∧ (0 < p → ∀ c, 0 < c → c < n → (c - 1) / 2 = p → ¬ elt (e c) (e ((p - 1) / 2)))
def DnI (n : Nat) (e : Nat → Nat × Int) (p : Nat) : Prop :=
  (∀ k, 0 < k → k < n → (k - 1) / 2 ≠ p → ¬ elt (e k) (e ((k - 1) / 2))) ∧ (0 < p → ∀ c, 0 < c → c < n → (c - 1) / 2 = p → ¬ elt (e c) (e ((p - 1) / 2)))

theorem up_done (h : UpI n e p) (hd : ¬ (0 < p ∧ elt (e p) (e ((p - 1) / 2)))) : Hp n e := by
  intro k h0 hk
  by_cases hkp : k = p
  · subst hkp; exact fun he => hd ⟨h0, he⟩
  · exact h.1 k h0 hk hkp
theorem up_step (h : UpI n e p) (h0 : 0 < p) (hp : p < n) (he : elt (e p) (e ((p - 1) / 2))) : UpI n (swpE e p ((p - 1) / 2)) ((p - 1) / 2) := by
  obtain ⟨q, hq⟩ : ∃ q, q = (p - 1) / 2 := ⟨_, rfl⟩
  rw [← hq] at he ⊢
  have hqp : q < p := by omega
  constructor
  · intro k hk0 hk hkq
    by_cases hkp : k = p
    · subst hkp
      rw [← hq, swpE_p, swpE_q]; exact elt_asymm he
    · rw [swpE_o hkp hkq]
      by_cases e1 : (k - 1) / 2 = p
      · rw [e1, swpE_p]
        have := h.2 h0 k hk0 hk e1
        rw [← hq] at this; exact this
      · by_cases e2 : (k - 1) / 2 = q
        · rw [e2, swpE_q]
          have h1 := h.1 k hk0 hk hkp
          rw [e2] at h1
          exact fun hl => h1 (elt_trans hl he)
        · rw [swpE_o e1 e2]; exact h.1 k hk0 hk hkp
  · intro hq0 c hc0 hc hcq
    have hn : (q - 1) / 2 ≠ p := by omega
    have hn2 : (q - 1) / 2 ≠ q := by omega
    rw [swpE_o hn hn2]
    have hqq := h.1 q hq0 (by omega) (by omega)
    by_cases hcp : c = p
    · subst hcp; rw [swpE_p]; exact hqq
    · rw [swpE_o hcp (by omega)]
      have h1 := h.1 c hc0 hc hcp
      rw [hcq] at h1
      exact nelt_trans h1 hqq
theorem push_up (h : Hp n e) (x : Nat × Int) : UpI (n + 1) (updE e n x) n := by
  constructor
  · intro k h0 hk hkn
    rw [updE_other hkn, updE_other (by omega)]
    exact h k h0 (by omega)
  · intro _ c hc0 hc hcn
    omega

/-- The place below p whose entry belongs first. -/
def blw1 (n : Nat) (e : Nat → Nat × Int) (p : Nat) : Nat := if 2 * p + 1 < n ∧ elt (e (2 * p + 1)) (e p) then 2 * p + 1 else p
def blw (n : Nat) (e : Nat → Nat × Int) (p : Nat) : Nat := if 2 * p + 2 < n ∧ elt (e (2 * p + 2)) (e (blw1 n e p)) then 2 * p + 2 else blw1 n e p
theorem blw_cases (n : Nat) (e : Nat → Nat × Int) (p : Nat) : blw n e p = p ∨ (blw n e p < n ∧ (blw n e p = 2 * p + 1 ∨ blw n e p = 2 * p + 2) ∧ elt (e (blw n e p)) (e p)) := by
  unfold blw blw1
  by_cases h1 : 2 * p + 1 < n ∧ elt (e (2 * p + 1)) (e p)
  · rw [if_pos h1]
    by_cases h2 : 2 * p + 2 < n ∧ elt (e (2 * p + 2)) (e (2 * p + 1))
    · rw [if_pos h2]; exact .inr ⟨h2.1, .inr rfl, elt_trans h2.2 h1.2⟩
    · rw [if_neg h2]; exact .inr ⟨h1.1, .inl rfl, h1.2⟩
  · rw [if_neg h1]
    by_cases h2 : 2 * p + 2 < n ∧ elt (e (2 * p + 2)) (e p)
    · rw [if_pos h2]; exact .inr ⟨h2.1, .inr rfl, h2.2⟩
    · rw [if_neg h2]; exact .inl rfl
theorem blw_least (n : Nat) (e : Nat → Nat × Int) (p : Nat) {c : Nat} (hc : c < n) (h : c = 2 * p + 1 ∨ c = 2 * p + 2) : ¬ elt (e c) (e (blw n e p)) := by
  unfold blw blw1
  by_cases h1 : 2 * p + 1 < n ∧ elt (e (2 * p + 1)) (e p)
  · rw [if_pos h1]
    by_cases h2 : 2 * p + 2 < n ∧ elt (e (2 * p + 2)) (e (2 * p + 1))
    · rw [if_pos h2]
      rcases h with rfl | rfl
      · exact elt_asymm h2.2
      · exact elt_irrefl _
    · rw [if_neg h2]
      rcases h with rfl | rfl
      · exact elt_irrefl _
      · exact fun hl => h2 ⟨hc, hl⟩
  · rw [if_neg h1]
    by_cases h2 : 2 * p + 2 < n ∧ elt (e (2 * p + 2)) (e p)
    · rw [if_pos h2]
      rcases h with rfl | rfl
      · exact fun hl => h1 ⟨hc, elt_trans hl h2.2⟩
      · exact elt_irrefl _
    · rw [if_neg h2]
      rcases h with rfl | rfl
      · exact fun hl => h1 ⟨hc, hl⟩
      · exact fun hl => h2 ⟨hc, hl⟩
theorem dn_done (h : DnI n e p) (hd : blw n e p = p) : Hp n e := by
  intro k h0 hk
  by_cases hkp : (k - 1) / 2 = p
  · have := blw_least n e p hk (by omega)
    rw [hd] at this
    rw [hkp]; exact this
  · exact h.1 k h0 hk hkp
theorem dn_step (h : DnI n e p) (hd : blw n e p ≠ p) : DnI n (swpE e p (blw n e p)) (blw n e p) ∧ p < blw n e p ∧ blw n e p < n := by
  obtain ⟨hbn, hb2, hbe⟩ := (blw_cases n e p).resolve_left hd
  have hl := fun {c : Nat} (hc : c < n) (hh : c = 2 * p + 1 ∨ c = 2 * p + 2) => blw_least n e p hc hh
  generalize blw n e p = b at *
  refine ⟨⟨?_, ?_⟩, by omega, hbn⟩
  · intro k hk0 hk hkb
    by_cases hkp : k = p
    · subst hkp
      rw [swpE_p, swpE_o (by omega) (by omega)]
      exact h.2 hk0 b (by omega) hbn (by omega)
    · by_cases hkb2 : k = b
      · subst hkb2
        rw [swpE_q, show (k - 1) / 2 = p by omega, swpE_p]; exact elt_asymm hbe
      · rw [swpE_o hkp hkb2]
        by_cases e1 : (k - 1) / 2 = p
        · rw [e1, swpE_p]; exact hl hk (by omega)
        · rw [swpE_o e1 hkb]; exact h.1 k hk0 hk e1
  · intro _ c hc0 hc hcb
    rw [swpE_o (by omega) (by omega), show (b - 1) / 2 = p by omega, swpE_p]
    have := h.1 c hc0 hc (by omega)
    rw [hcb] at this; exact this
theorem pop_dn (h : Hp (n + 1) e) : DnI n (swpE e 0 n) 0 := by
  refine ⟨fun k hk0 hk hkp => ?_, fun h0 => absurd h0 (Nat.lt_irrefl _)⟩
  rw [swpE_o (by omega) (by omega), swpE_o hkp (by omega)]
  exact h k hk0 (by omega)
theorem hp_min (h : Hp n e) : ∀ k, k < n → ¬ elt (e k) (e 0) := by
  intro k
  induction k using Nat.strongRecOn with
  | _ k ih =>
    intro hk
    by_cases h0 : k = 0
    · subst h0; exact elt_irrefl _
    · exact nelt_trans (h k (by omega) hk) (ih ((k - 1) / 2) (by omega) (by omega))
end

/-- Where each index is: its place plus 1, or 0. -/
structure PlOK (slots n : Nat) (e : Nat → Nat × Int) (pl : Nat → Nat) : Prop where
  lt : ∀ p, p < n → (e p).1 < slots
  at_ : ∀ p, p < n → pl (e p).1 = p + 1
  inv : ∀ i, pl i ≠ 0 → ∃ p, p < n ∧ (e p).1 = i
section
variable {slots n p q : Nat} {e : Nat → Nat × Int} {pl : Nat → Nat}
def updP (pl : Nat → Nat) (i x : Nat) : Nat → Nat := fun k => if k = i then x else pl k
theorem updP_same (pl : Nat → Nat) (i x : Nat) : updP pl i x i = x := by simp [updP]
theorem updP_other {pl : Nat → Nat} {i x k : Nat} (h : k ≠ i) : updP pl i x k = pl k := by simp [updP, h]
theorem PlOK.inj (h : PlOK slots n e pl) (hp : p < n) (hq : q < n) (he : (e p).1 = (e q).1) : p = q := by
  have h1 := h.at_ p hp
  have h2 := h.at_ q hq
  rw [he, h2] at h1; omega
theorem PlOK.le (h : PlOK slots n e pl) : n ≤ slots := by
  have hnd : ((List.range n).map fun p => (e p).1).Nodup := by
    rw [List.nodup_iff_pairwise_ne, List.pairwise_map]
    refine (List.nodup_range (n := n)).imp_of_mem (fun {a b} ha hb hne he => hne ?_)
    exact h.inj (by simpa using ha) (by simpa using hb) he
  have hp : ((List.range slots).filter fun i => decide (i ∈ (List.range n).map fun p => (e p).1)).Perm ((List.range n).map fun p => (e p).1) := by
    rw [List.perm_ext_iff_of_nodup (List.filter_sublist.nodup List.nodup_range) hnd]
    intro i
    simp only [List.mem_filter, List.mem_range, decide_eq_true_eq, and_iff_right_iff_imp, List.mem_map]
    rintro ⟨p, hp, rfl⟩
    exact h.lt p hp
  have h1 := hp.length_eq
  have h2 := List.length_filter_le (fun i => decide (i ∈ (List.range n).map fun p => (e p).1)) (List.range slots)
  simp at h1 h2
  omega
theorem PlOK.swap (h : PlOK slots n e pl) (hp : p < n) (hq : q < n) : PlOK slots n (swpE e p q) (updP (updP pl (e q).1 (p + 1)) (e p).1 (q + 1)) := by
  refine ⟨fun x hx => ?_, fun x hx => ?_, fun i hi => ?_⟩
  · by_cases h1 : x = p
    · rw [h1, swpE_p]; exact h.lt q hq
    · by_cases h2 : x = q
      · rw [h2, swpE_q]; exact h.lt p hp
      · rw [swpE_o h1 h2]; exact h.lt x hx
  · by_cases h2 : x = q
    · rw [h2, swpE_q, updP_same]
    · by_cases h1 : x = p
      · subst h1
        rw [swpE_p, updP_other (fun e1 => h2 (h.inj hx hq e1.symm)), updP_same]
      · rw [swpE_o h1 h2, updP_other (fun e1 => h1 (h.inj hx hp e1)), updP_other (fun e1 => h2 (h.inj hx hq e1))]
        exact h.at_ x hx
  · by_cases h1 : i = (e p).1
    · exact ⟨q, hq, by rw [swpE_q, h1]⟩
    · rw [updP_other h1] at hi
      by_cases h2 : i = (e q).1
      · exact ⟨p, hp, by rw [swpE_p, h2]⟩
      · rw [updP_other h2] at hi
        obtain ⟨x, hx, rfl⟩ := h.inv i hi
        refine ⟨x, hx, ?_⟩
        rw [swpE_o (fun e1 => h1 (by rw [e1])) (fun e1 => h2 (by rw [e1]))]
theorem PlOK.push (h : PlOK slots n e pl) {i : Nat} {k : Int} (hi : i < slots) (h0 : pl i = 0) : PlOK slots (n + 1) (updE e n (i, k)) (updP pl i (n + 1)) := by
  refine ⟨fun x hx => ?_, fun x hx => ?_, fun j hj => ?_⟩
  · by_cases h1 : x = n
    · rw [h1, updE_same]; exact hi
    · rw [updE_other h1]; exact h.lt x (by omega)
  · by_cases h1 : x = n
    · rw [h1, updE_same, updP_same]
    · rw [updE_other h1]
      have hx' := h.at_ x (by omega)
      rw [updP_other (fun e1 => by rw [e1, h0] at hx'; omega)]; exact hx'
  · by_cases h1 : j = i
    · exact ⟨n, by omega, by rw [updE_same, h1]⟩
    · rw [updP_other h1] at hj
      obtain ⟨x, hx, rfl⟩ := h.inv j hj
      exact ⟨x, by omega, by rw [updE_other (by omega)]⟩
theorem PlOK.pop (h : PlOK slots (n + 1) e pl) : PlOK slots n e (updP pl (e n).1 0) := by
  refine ⟨fun x hx => h.lt x (by omega), fun x hx => ?_, fun j hj => ?_⟩
  · rw [updP_other (fun e1 => by have := h.inj (by omega : x < n + 1) (by omega : n < n + 1) e1; omega)]
    exact h.at_ x (by omega)
  · by_cases h1 : j = (e n).1
    · rw [h1, updP_same] at hj; exact absurd rfl hj
    · rw [updP_other h1] at hj
      obtain ⟨x, hx, rfl⟩ := h.inv j hj
      refine ⟨x, ?_, rfl⟩
      by_cases e1 : x = n
      · subst e1; exact absurd rfl h1
      · omega
end
end Go.Proofs.YtgmnemndjjmgkaaGreat

namespace Go.Proofs.YtgmnemndjjmgkaaGreat
open Go.RowKit
set_option maxRecDepth 10000
set_option maxHeartbeats 800000

abbrev hptr (b : Nat) : Value := .pointer (some ⟨b, 0, none⟩)
def optP (o : Option Nat) : Value := .pointer (o.map fun b => ⟨b, 0, none⟩)
def entC (n : Nat) (e : Nat → Nat × Int) : List Value := (List.range n).flatMap fun p => [.int .i64 (e p).1, .int .i64 (e p).2]
theorem entC_succ' (n : Nat) (e : Nat → Nat × Int) : entC (n + 1) e = entC n e ++ [.int .i64 (e n).1, .int .i64 (e n).2] := by simp [entC, List.range_succ]
theorem entC_len (n : Nat) (e : Nat → Nat × Int) : (entC n e).length = n * 2 := by
  induction n with
  | zero => rfl
  | succ n ih => rw [entC_succ', List.length_append, ih]; simp; omega
theorem entC_at (e : Nat → Nat × Int) : ∀ {n p : Nat}, p < n → (entC n e)[p * 2]? = some (.int .i64 ((e p).1 : Int)) ∧ (entC n e)[p * 2 + 1]? = some (.int .i64 (e p).2) := by
  intro n
  induction n with
  | zero => intro p h; omega
  | succ n ih =>
    intro p hp
    rw [entC_succ']
    have hl := entC_len n e
    by_cases h : p < n
    · rw [List.getElem?_append_left (by omega), List.getElem?_append_left (by omega)]; exact ih h
    · obtain rfl : p = n := by omega
      rw [List.getElem?_append_right (by omega), List.getElem?_append_right (by omega), hl]
      simp
theorem entC_congr {n : Nat} {e e' : Nat → Nat × Int} (h : ∀ p, p < n → e p = e' p) : entC n e = entC n e' := by
  induction n with
  | zero => rfl
  | succ n ih => rw [entC_succ', entC_succ', ih (fun p hp => h p (by omega)), h n (by omega)]
theorem entC_push (n : Nat) (e : Nat → Nat × Int) (x : Nat × Int) : entC n e ++ [.int .i64 x.1, .int .i64 x.2] = entC (n + 1) (updE e n x) := by
  rw [entC_succ', updE_same, entC_congr (n := n) (e := updE e n x) (e' := e) (fun p hp => updE_other (by omega))]
theorem entC_set {n p : Nat} (hp : p < n) (e : Nat → Nat × Int) (x : Nat × Int) : ((entC n e).set (p * 2) (.int .i64 x.1)).set (p * 2 + 1) (.int .i64 x.2) = entC n (updE e p x) := by
  apply List.ext_getElem?
  intro j
  have hl := entC_len n e
  have hl' := entC_len n (updE e p x)
  by_cases hj : j < n * 2
  · have hj2 : j / 2 < n := by omega
    have h0 := entC_at (updE e p x) hj2
    have h1 := entC_at e hj2
    rcases (show j = j / 2 * 2 ∨ j = j / 2 * 2 + 1 by omega) with e1 | e1
    · generalize j / 2 = k at *
      subst e1
      rw [h0.1, List.getElem?_set_ne (by omega)]
      by_cases hk : k = p
      · subst hk; rw [List.getElem?_set_self (by omega), updE_same]
      · rw [List.getElem?_set_ne (by omega), h1.1, updE_other hk]
    · generalize j / 2 = k at *
      subst e1
      rw [h0.2]
      by_cases hk : k = p
      · subst hk; rw [List.getElem?_set_self (by simp; omega), updE_same]
      · rw [List.getElem?_set_ne (by omega), List.getElem?_set_ne (by omega), h1.2, updE_other hk]
  · rw [List.getElem?_eq_none (by simp; omega), List.getElem?_eq_none (by omega)]
theorem ent_at {w : World} {v : Value} {n : Nat} {e : Nat → Nat × Int} (h : w.ownsRow 0 136 2 v n (entC n e)) {p : Nat} (hp : p < n) : ∃ b cap, v = .slice (some ⟨b, 0, none⟩) n cap ∧ n ≤ cap ∧ b < w.heap.size ∧
    w.cell? ⟨b, p * 2, none⟩ = some (.int .i64 ((e p).1 : Int)) ∧ w.cell? ⟨b, p * 2 + 1, none⟩ = some (.int .i64 (e p).2) ∧ ∀ j, w.frozen? ⟨b, j, none⟩ = false := by
  obtain ⟨h1, h2⟩ := h
  rcases h2 with ⟨rfl, h0⟩ | ⟨g, cap, cur, rfl, _, hh, hn, hm, hsz, hxs⟩
  · omega
  · refine ⟨g, cap, rfl, hn, (Array.getElem?_eq_some_iff.1 hh).1, ?_, ?_, fun j => by simp [World.frozen?, hh]⟩
    all_goals
      have key : ∀ j, j < 2 → cur[p * 2 + j]? = (entC n e)[p * 2 + j]? := by
        intro j hj
        rw [← hxs, List.getElem?_take, if_pos (by omega)]
        simp
      simp only [World.cell?, hh]
      simp
    · have := key 0 (by omega); simp at this; rw [this]; exact (entC_at e hp).1
    · rw [key 1 (by omega)]; exact (entC_at e hp).2
/-- A store into an owned row of elements of several cells. -/
theorem ownsRow_setK {w : World} {e : TypeId} {size g n cap i : Nat} {xs : List Value} (h : w.ownsRow 0 e size (.slice (some ⟨g, 0, none⟩) n cap) n xs) (u : Value) :
    (w.setCell ⟨g, i, none⟩ u).ownsRow 0 e size (.slice (some ⟨g, 0, none⟩) n cap) n (xs.set i u) := by
  obtain ⟨h1, h2⟩ := h
  refine ⟨by simpa using h1, ?_⟩
  rcases h2 with ⟨h2, _⟩ | ⟨g', cap', cur, e1, _, hh, hn, hm, hsz, hxs⟩
  · cases h2
  · simp only [Value.slice.injEq, Option.some.injEq, Addr.mk.injEq, and_true, true_and] at e1
    obtain ⟨rfl, rfl⟩ := e1
    refine .inr ⟨g, cap, cur.setIfInBounds i u, rfl, Nat.zero_le _, ?_, hn, hm, by simpa using hsz, ?_⟩
    · simp only [World.setCell, Array.getElem?_modify]
      simp [hh]
    · rw [← hxs, Array.toList_setIfInBounds, List.take_set]

def blkC (pl : Nat → Nat) (k : Nat) : List Value := (List.range 64).map fun j => .int .i64 ((pl (k * 64 + j) : Nat) : Int)
theorem blkC_at (pl : Nat → Nat) (k : Nat) {j : Nat} (hj : j < 64) : (blkC pl k)[j]? = some (.int .i64 ((pl (k * 64 + j) : Nat) : Int)) := by simp [blkC, hj]
theorem blkC_congr {pl pl' : Nat → Nat} {k : Nat} (h : ∀ j, j < 64 → pl (k * 64 + j) = pl' (k * 64 + j)) : blkC pl k = blkC pl' k := by
  apply List.map_congr_left
  intro j hj
  rw [h j (by simpa using hj)]
theorem blkC_set (pl : Nat → Nat) (k x : Nat) {j : Nat} (hj : j < 64) : (blkC pl k).set j (.int .i64 (x : Int)) = blkC (updP pl (k * 64 + j) x) k := by
  apply List.ext_getElem?
  intro i
  by_cases hi : i < 64
  · rw [blkC_at _ k hi]
    by_cases e : i = j
    · subst e; rw [List.getElem?_set_self (by simp [blkC, hi]), updP_same]
    · rw [List.getElem?_set_ne (by omega), blkC_at _ k hi, updP_other (by omega)]
  · rw [List.getElem?_eq_none (by simp [blkC]; omega), List.getElem?_eq_none (by simp [blkC]; omega)]

/-- The heap's memory: n entries e; pl says where each index is; v: the entries' slice; gp: the directory; bs: its blocks. -/
structure HM (w : World) (ph slots n : Nat) (e : Nat → Nat × Int) (pl : Nat → Nat) (v : Value) (gp cp : Nat) (bs : Nat → Option Nat) : Prop where
  hd : Blk w ph 217 [hptr ph, .int .i64 slots, v, .slice (some ⟨gp, 0, none⟩) ((slots + 63) / 64) cp]
  items : w.ownsRow 0 136 2 v n (entC n e)
  dir : Blk w gp 219 ((List.range ((slots + 63) / 64)).map fun k => optP (bs k))
  some_ : ∀ k b, k < (slots + 63) / 64 → bs k = some b → Blk w b 221 (blkC pl k)
  none_ : ∀ k, k < (slots + 63) / 64 → bs k = none → ∀ j, j < 64 → pl (k * 64 + j) = 0
  le : slots ≤ 65536
  nb : n ≤ 65536
  pb : ∀ i, pl i ≤ 65536
  ap1 : ph ≠ gp
  ap2 : v.ownBlock ≠ some ph
  ap3 : v.ownBlock ≠ some gp
  ap4 : ∀ k b, k < (slots + 63) / 64 → bs k = some b → b ≠ ph ∧ b ≠ gp ∧ v.ownBlock ≠ some b
  ap5 : ∀ k k' b, k < (slots + 63) / 64 → k' < (slots + 63) / 64 → bs k = some b → bs k' = some b → k = k'

/-- The heap's blocks. -/
def hB (slots ph : Nat) (v : Value) (gp : Nat) (bs : Nat → Option Nat) : List Nat := ph :: gp :: (v.ownBlock.toList ++ (List.range ((slots + 63) / 64)).filterMap bs)
theorem mem_hB {slots ph : Nat} {v : Value} {gp : Nat} {bs : Nat → Option Nat} {b : Nat} : b ∈ hB slots ph v gp bs ↔ b = ph ∨ b = gp ∨ v.ownBlock = some b ∨ ∃ k, k < (slots + 63) / 64 ∧ bs k = some b := by
  simp [hB]

section
variable {w w' : World} {ph slots n : Nat} {e : Nat → Nat × Int} {pl : Nat → Nat} {v : Value} {gp cp : Nat} {bs : Nat → Option Nat}
theorem HM.fr {S : List Nat} (h : HM w ph slots n e pl v gp cp bs) (hf : Fr S w w') (hs : ∀ b ∈ hB slots ph v gp bs, b ∉ S) : HM w' ph slots n e pl v gp cp bs :=
  ⟨hf.blk h.hd (hs _ (by simp [hB])), ownsRow_same h.items (fun q hq => hf.keep q (h.items.lt q hq).2 (hs q (mem_hB.2 (.inr (.inr (.inl hq)))))), hf.blk h.dir (hs _ (by simp [hB])),
    fun k b hk hb => hf.blk (h.some_ k b hk hb) (hs b (mem_hB.2 (.inr (.inr (.inr ⟨k, hk, hb⟩))))), h.none_, h.le, h.nb, h.pb, h.ap1, h.ap2, h.ap3, h.ap4, h.ap5⟩
theorem HM.fr0 (h : HM w ph slots n e pl v gp cp bs) (hf : Fr [] w w') : HM w' ph slots n e pl v gp cp bs := h.fr hf (by simp)
theorem HM.lt (h : HM w ph slots n e pl v gp cp bs) : ∀ b ∈ hB slots ph v gp bs, b < w.heap.size := by
  intro b hb
  rcases mem_hB.1 hb with rfl | rfl | hb | ⟨k, hk, hb⟩
  · exact h.hd.lt
  · exact h.dir.lt
  · exact (h.items.lt b hb).2
  · exact (h.some_ k b hk hb).lt

/-- How two numbers compare. -/
def cmpI (x y : Int) : Int := if x < y then -1 else if y < x then 1 else 0
def ordI (a b : Nat × Int) : Int := if cmpI a.2 b.2 = 0 then cmpI a.1 b.1 else cmpI a.2 b.2
theorem ordI_lt (a b : Nat × Int) : ordI a b < 0 ↔ elt a b := by
  unfold ordI cmpI elt
  split <;> split <;> (try split) <;> (try split) <;> omega

theorem nan64_w (x : Int) (w : World) : Calls Tryz.prog 233 #[.int .i64 x] w fun e w' => e = .returned (.bool false) ∧ w' = w := by
  have hb : (x != x) = false := by simp
  go_enter Tryz.func233, Tryz.ntmps233
  go_wp2
  go_ret
  exact ⟨rfl, rfl⟩
theorem nan_w (x : Int) (w : World) : Calls Tryz.prog 234 #[.int .i64 x] w fun e w' => e = .returned (.bool false) ∧ w' = w := by
  have hb : (x != x) = false := by simp
  go_enter Tryz.func234, Tryz.ntmps234
  go_wp2
  go_ret
  exact ⟨rfl, rfl⟩
theorem cmp64_w (x y : Int) (w : World) : Calls Tryz.prog 230 #[.int .i64 x, .int .i64 y] w fun e w' => e = .returned (.int .i64 (cmpI x y)) ∧ w' = w := by
  by_cases h1 : x < y
  · have e1 : cmpI x y = -1 := by unfold cmpI; rw [if_pos h1]
    rw [e1]; clear e1
    go_enter Tryz.func230, Tryz.ntmps230
    go_wp2_with (go_at_call 233; refine (nan64_w _ _).mono ?_; rintro e w' ⟨rfl, rfl⟩)
    go_ret
    exact ⟨rfl, rfl⟩
  · by_cases h2 : y < x
    · have e1 : cmpI x y = 1 := by unfold cmpI; rw [if_neg h1, if_pos h2]
      rw [e1]; clear e1
      go_enter Tryz.func230, Tryz.ntmps230
      go_wp2_with (go_at_call 233; refine (nan64_w _ _).mono ?_; rintro e w' ⟨rfl, rfl⟩)
      go_ret
      exact ⟨rfl, rfl⟩
    · have e1 : cmpI x y = 0 := by unfold cmpI; rw [if_neg h1, if_neg h2]
      rw [e1]; clear e1
      go_enter Tryz.func230, Tryz.ntmps230
      go_wp2_with (go_at_call 233; refine (nan64_w _ _).mono ?_; rintro e w' ⟨rfl, rfl⟩)
      go_ret
      exact ⟨rfl, rfl⟩
theorem cmp_w (x y : Nat) (w : World) : Calls Tryz.prog 231 #[.int .i64 x, .int .i64 y] w fun e w' => e = .returned (.int .i64 (cmpI x y)) ∧ w' = w := by
  by_cases h1 : x < y
  · have e1 : cmpI x y = -1 := by unfold cmpI; rw [if_pos (by omega)]
    rw [e1]; clear e1
    go_enter Tryz.func231, Tryz.ntmps231
    go_wp2_with (go_at_call 234; refine (nan_w _ _).mono ?_; rintro e w' ⟨rfl, rfl⟩)
    go_ret
    exact ⟨rfl, rfl⟩
  · by_cases h2 : y < x
    · have e1 : cmpI x y = 1 := by unfold cmpI; rw [if_neg (by omega), if_pos (by omega)]
      rw [e1]; clear e1
      go_enter Tryz.func231, Tryz.ntmps231
      go_wp2_with (go_at_call 234; refine (nan_w _ _).mono ?_; rintro e w' ⟨rfl, rfl⟩)
      go_ret
      exact ⟨rfl, rfl⟩
    · have e1 : cmpI x y = 0 := by unfold cmpI; rw [if_neg (by omega), if_neg (by omega)]
      rw [e1]; clear e1
      go_enter Tryz.func231, Tryz.ntmps231
      go_wp2_with (go_at_call 234; refine (nan_w _ _).mono ?_; rintro e w' ⟨rfl, rfl⟩)
      go_ret
      exact ⟨rfl, rfl⟩
theorem or_w (b : Nat) (x y : Int) (w : World) (h : Blk w b 3 [.int .i64 x, .int .i64 y]) : Calls Tryz.prog 229 #[.slice (some ⟨b, 0, none⟩) 2 2] w fun e w' => e = .returned (.int .i64 (if x = 0 then y else x)) ∧ w' = w := by
  have c0 := h.cell 0
  have c1 := h.cell 1
  simp only [List.getElem?_cons_zero, List.getElem?_cons_succ] at c0 c1
  generalize hr : (if x = 0 then y else x) = r
  have HR := Lib.hid hr; clear hr
  go_enter Tryz.func229, Tryz.ntmps229
  go_wp2
  go_loop [8] (fun s => ∃ k : Nat, k ≤ 2 ∧ s = .int .i64 k ∧ Hid ((1 ≤ k → x = 0) ∧ (2 ≤ k → y = 0))) (fun s => 2 - (intOf s).toNat)
  case atStart => exact ⟨0, by omega, rfl, Lib.hid ⟨by omega, by omega⟩⟩
  case round =>
    obtain ⟨k, hk, rfl, HK⟩ := hrel
    rcases (show k = 0 ∨ k = 1 ∨ k = 2 by omega) with rfl | rfl | rfl
    · by_cases hx : x = 0
      · subst hx
        go_wp2
        go_round
        case rel => exact ⟨1, by omega, by go_num, Lib.hid ⟨by simp, by omega⟩⟩
        case measure => simp [intOf]
      · have hb : (x != 0) = true := by simp [hx]
        have hR2 : r = x := by rw [← HR.out, if_neg hx]
        have HR2 := Lib.hid hR2; clear hR2 hx
        go_wp2
        go_ret
        exact ⟨by rw [HR2.out]; rfl, rfl⟩
    · have hx := HK.out.1 (by omega)
      by_cases hy : y = 0
      · subst hy
        have Hx := Lib.hid hx; clear hx
        go_wp2
        go_round
        case rel => exact ⟨2, by omega, by go_num, Lib.hid ⟨fun _ => Hx.out, by simp⟩⟩
        case measure => simp [intOf]
      · have hb : (y != 0) = true := by simp [hy]
        have hR2 : r = y := by rw [← HR.out, if_pos hx]
        have HR2 := Lib.hid hR2; clear hR2 hx hy
        go_wp2
        go_ret
        exact ⟨by rw [HR2.out]; rfl, rfl⟩
    · have hx := HK.out.1 (by omega)
      have hy := HK.out.2 (by omega)
      have hR2 : r = 0 := by rw [← HR.out, if_pos hx, hy]
      have HR2 := Lib.hid hR2; clear hR2 hx hy
      go_wp2
      go_ret
      exact ⟨by rw [HR2.out]; rfl, rfl⟩
theorem order_w (a b : Nat × Int) (w : World) : Calls Tryz.prog 224 #[.agg #[.int .i64 a.1, .int .i64 a.2], .agg #[.int .i64 b.1, .int .i64 b.2]] w fun e w' => e = .returned (.int .i64 (ordI a b)) ∧ Fr [] w w' := by
  obtain ⟨a1, a2⟩ := a
  obtain ⟨b1, b2⟩ := b
  have hr : (if cmpI a2 b2 = 0 then cmpI a1 b1 else cmpI a2 b2) = ordI (a1, a2) (b1, b2) := rfl
  have HO := Lib.hid (fun (W : World) (n : Nat) (h : Blk W n 3 [.int .i64 (cmpI a2 b2), .int .i64 (cmpI a1 b1)]) => or_w n (cmpI a2 b2) (cmpI a1 b1) W h)
  rw [hr] at HO
  have HC1 := Lib.hid (fun w => cmp64_w a2 b2 w)
  have HC2 := Lib.hid (fun w => cmp_w a1 b1 w)
  clear hr
  generalize ordI (a1, a2) (b1, b2) = r at *
  generalize cmpI a2 b2 = x at *
  generalize cmpI a1 b1 = y at *
  have e1 := Blk.new w [.int .i64 a1, .int .i64 a2] 136
  have e2 := Blk.new (w.alloc (.cells [.int .i64 a1, .int .i64 a2].toArray 136)) [.int .i64 b1, .int .i64 b2] 136
  have e1' := e1.alloc (.cells [.int .i64 b1, .int .i64 b2].toArray 136)
  simp only [World.size_alloc] at e2
  have hF : Fr [] w ((w.alloc (.cells [.int .i64 a1, .int .i64 a2].toArray 136)).alloc (.cells [.int .i64 b1, .int .i64 b2].toArray 136)) := ((Fr.refl _ _).alloc _).alloc _
  have x0 := e1'.cell 0
  have x1 := e1'.cell 1
  have y0 := e2.cell 0
  have y1 := e2.cell 1
  simp only [List.getElem?_cons_zero, List.getElem?_cons_succ] at x0 x1 y0 y1
  clear e1 e2 e1'
  have HF := Lib.hid hF; clear hF
  go_enter Tryz.func224, Tryz.ntmps224
  go_wp2
  generalize hw0 : ((w.alloc (.cells #[.int .i64 a1, .int .i64 a2] 136)).alloc (.cells #[.int .i64 b1, .int .i64 b2] 136)) = w0 at *
  clear hw0
  go_region_held3 (fun w' => w'.cell? ⟨w.heap.size, 0, none⟩ = some (.int .i64 a1) ∧ w'.cell? ⟨w.heap.size, 1, none⟩ = some (.int .i64 a2) ∧ w'.cell? ⟨w.heap.size + 1, 0, none⟩ = some (.int .i64 b1) ∧ w'.cell? ⟨w.heap.size + 1, 1, none⟩ = some (.int .i64 b2))
    (first | go_keep)
    (first
      | (go_at_call 230; refine (HC1.out _).mono ?_; rintro e w' ⟨rfl, rfl⟩)
      | (go_at_call 231; refine (HC2.out _).mono ?_; rintro e w' ⟨rfl, rfl⟩)
      | (go_at_call 229; refine (HO.out _ _ ((Blk.new w0 _ _).drew)).mono ?_; rintro e w' ⟨rfl, rfl⟩))
  go_wp2
  go_ret
  exact ⟨rfl, (HF.out.alloc _).drew⟩
@[go_sem] theorem heap_eql (w : World) (a : Addr) : (binOp .eql 122 (.pointer (some a)) (.pointer (some a))).run Tryz.prog w = .ok (.bool true) w := by
  obtain ⟨j, hj⟩ := Option.isSome_iff_exists.1 (show (Tryz.prog.info? 217).isSome = true by kernel_rfl)
  exact run_eql_ptr_same w a Tryz.underlying122 hj
theorem hvalid_w (h : HM w ph slots n e pl v gp cp bs) : Calls Tryz.prog 150 #[.pointer (some ⟨ph, 0, none⟩)] w fun e' w' => e' = .returned (.bool true) ∧ w' = w := by
  have c0 : w.cell? ⟨ph, 0, none⟩ = some (.pointer (some ⟨ph, 0, none⟩)) := h.hd.cell 0
  clear h
  go_enter Tryz.func150, Tryz.ntmps150
  go_wp2
  go_ret
  exact ⟨rfl, rfl⟩
theorem hhas_w (h : HM w ph slots n e pl v gp cp bs) {i : Nat} (hi : i < slots) : Calls Tryz.prog 195 #[hptr ph, .int .i64 i] w fun e' w' => e' = .returned (.bool true) ∧ w' = w := by
  have c1 := h.hd.cell 1
  simp only [List.getElem?_cons_zero, List.getElem?_cons_succ] at c1
  have t1 : decide (i < slots) = true := decide_eq_true hi
  have hi' : (i : Int) < slots := by omega
  have hi0 : (0 : Int) ≤ i := by omega
  clear h
  go_enter Tryz.func195, Tryz.ntmps195
  go_wp2
  go_ret
  exact ⟨rfl, rfl⟩
end
end Go.Proofs.YtgmnemndjjmgkaaGreat
