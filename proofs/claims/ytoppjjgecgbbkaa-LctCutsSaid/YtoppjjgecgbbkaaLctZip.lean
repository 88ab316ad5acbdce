/- lct: a node of a splay tree and what lies about it; rotation. -/
import Derived.Test.YtoppjjgecgbbkaaLctTree
namespace Go.Proofs.Ytoppjjgecgbbkaa
open Go.RowKit

theorem hang_at {σ : Tbl} {i s k x : Nat} (hik : k ≠ i) : hang σ i s k x = if x = i then setKid (σ i) s k else if x = k ∧ k ≠ 0 then { σ k with up := i } else σ x := by
  unfold hang
  by_cases hk : k = 0
  · simp only [if_pos hk]
    by_cases e : x = i
    · subst e; rw [upd_same, if_pos rfl]
    · rw [upd_other e, if_neg e, if_neg (by simp [hk])]
  · simp only [if_neg hk]
    by_cases e : x = k
    · subst e; rw [upd_same, if_neg hik, if_pos ⟨rfl, hk⟩, upd_other hik]
    · rw [upd_other e]
      by_cases e' : x = i
      · subst e'; rw [upd_same, if_pos rfl]
      · rw [upd_other e', if_neg e', if_neg (by simp [e])]

theorem kid_setKid (n : Nd) (s k : Nat) : kid (setKid n s k) s = k := by unfold kid setKid; split <;> rfl
theorem kid_setKid_ne {n : Nd} {s s' k : Nat} (hs : s < 2) (hs' : s' < 2) (h : s' ≠ s) : kid (setKid n s k) s' = kid n s' := by
  unfold kid setKid
  rcases (show s = 0 ∨ s = 1 by omega) with rfl | rfl
  · rw [if_neg h, if_neg h]; simp
  · obtain rfl : s' = 0 := by omega
    simp
theorem setKid_rest (n : Nd) (s k : Nat) : (setKid n s k).up = n.up ∧ (setKid n s k).flip = n.flip ∧ (setKid n s k).key = n.key ∧ (setKid n s k).size = n.size ∧ (setKid n s k).first = n.first ∧ (setKid n s k).light = n.light ∧ (setKid n s k).total = n.total := by
  unfold setKid; split <;> simp
theorem kid_up (n : Nd) (s u : Nat) : kid { n with up := u } s = kid n s := rfl

/-- What a rotation has changed before it refreshes: the node above has another kid. -/
theorem rot3_in {σ : Tbl} {i p g s s' : Nat} (_hs : s < 2) (hp : (σ i).up = p) (hg : (σ p).up = g) (h1 : sideOf σ i = (s, true)) (h2 : sideOf σ p = (s', true)) (hpi : p ≠ i) (hgi : g ≠ i) (hgp : g ≠ p) (hi0 : i ≠ 0) (hp0 : p ≠ 0)
    (hki : kid (σ i) (1 - s) ≠ i) (hkp : kid (σ i) (1 - s) ≠ p) (hkg : kid (σ i) (1 - s) ≠ g ∨ kid (σ i) (1 - s) = 0) (x : Nat) :
    rot3 σ i x = if x = i then { setKid (σ i) (1 - s) p with up := g } else if x = p then { setKid (σ p) s (kid (σ i) (1 - s)) with up := i } else if x = g then setKid (σ g) s' i else if x = kid (σ i) (1 - s) ∧ kid (σ i) (1 - s) ≠ 0 then { σ x with up := p } else σ x := by
  have a1 : ∀ x, rot1 σ i x = if x = g then setKid (σ g) s' i else if x = i then { σ i with up := g } else σ x := by
    intro x
    unfold rot1
    rw [hp, h2, hg, if_pos rfl, hang_at (fun e => hgi e.symm)]
    by_cases e : x = g
    · rw [if_pos e, if_pos e]
    · rw [if_neg e, if_neg e]
      by_cases e' : x = i
      · rw [if_pos ⟨e', hi0⟩, if_pos e']
      · rw [if_neg (fun h => e' h.1), if_neg e']
  have hk1 : kid (rot1 σ i i) (1 - s) = kid (σ i) (1 - s) := by rw [a1, if_neg (fun e => hgi e.symm), if_pos rfl, kid_up]
  generalize hk : kid (σ i) (1 - s) = k at *
  have a2 : ∀ x, rot2 σ i x = if x = p then setKid (σ p) s k else if x = k ∧ k ≠ 0 then { rot1 σ i k with up := p } else rot1 σ i x := by
    intro x
    unfold rot2
    rw [hp, h1, hk1, hang_at hkp]
    have e : rot1 σ i p = σ p := by rw [a1 p, if_neg (fun e => hgp e.symm), if_neg hpi]
    rw [e]
  unfold rot3
  rw [hp, h1, hang_at hpi]
  by_cases e1 : x = i
  · subst e1
    rw [if_pos rfl, if_pos rfl, a2, if_neg (fun e => hpi e.symm), if_neg (fun h => hki h.1.symm), a1, if_neg (fun e => hgi e.symm), if_pos rfl]
    dsimp only; unfold setKid; split <;> rfl
  · rw [if_neg e1, if_neg e1]
    by_cases e2 : x = p
    · subst e2
      rw [if_pos ⟨rfl, hp0⟩, if_pos rfl, a2, if_pos rfl]
    · rw [if_neg (fun h => e2 h.1), if_neg e2, a2, if_neg e2]
      by_cases e3 : x = k ∧ k ≠ 0
      · have hxg : x ≠ g := by
          intro e; rcases hkg with h | h
          · exact h (e3.1.symm.trans e)
          · exact e3.2 h
        rw [if_pos e3, if_neg hxg, if_pos e3, ← e3.1, a1, if_neg hxg, if_neg e1]
      · rw [if_neg e3, a1]
        by_cases e4 : x = g
        · rw [if_pos e4, if_pos e4]
        · rw [if_neg e4, if_neg e4, if_neg e1, if_neg e3]

/-- The same where the parent is the root. -/
theorem rot3_top {σ : Tbl} {i p g s s' : Nat} (_hs : s < 2) (hp : (σ i).up = p) (hg : (σ p).up = g) (h1 : sideOf σ i = (s, true)) (h2 : sideOf σ p = (s', false)) (hpi : p ≠ i) (hi0 : i ≠ 0) (hp0 : p ≠ 0)
    (hki : kid (σ i) (1 - s) ≠ i) (hkp : kid (σ i) (1 - s) ≠ p) (x : Nat) :
    rot3 σ i x = if x = i then { setKid (σ i) (1 - s) p with up := g } else if x = p then { setKid (σ p) s (kid (σ i) (1 - s)) with up := i } else if x = kid (σ i) (1 - s) ∧ kid (σ i) (1 - s) ≠ 0 then { σ x with up := p } else σ x := by
  have a1 : ∀ x, rot1 σ i x = if x = i then { σ i with up := g } else σ x := by
    intro x
    unfold rot1
    rw [hp, h2, hg, if_neg (by simp)]
    rfl
  have hk1 : kid (rot1 σ i i) (1 - s) = kid (σ i) (1 - s) := by rw [a1, if_pos rfl, kid_up]
  generalize hk : kid (σ i) (1 - s) = k at *
  have a2 : ∀ x, rot2 σ i x = if x = p then setKid (σ p) s k else if x = k ∧ k ≠ 0 then { rot1 σ i k with up := p } else rot1 σ i x := by
    intro x
    unfold rot2
    rw [hp, h1, hk1, hang_at hkp]
    have e : rot1 σ i p = σ p := by rw [a1 p, if_neg hpi]
    rw [e]
  unfold rot3
  rw [hp, h1, hang_at hpi]
  by_cases e1 : x = i
  · subst e1
    rw [if_pos rfl, if_pos rfl, a2, if_neg (fun e => hpi e.symm), if_neg (fun h => hki h.1.symm), a1, if_pos rfl]
    dsimp only; unfold setKid; split <;> rfl
  · rw [if_neg e1, if_neg e1]
    by_cases e2 : x = p
    · subst e2
      rw [if_pos ⟨rfl, hp0⟩, if_pos rfl, a2, if_pos rfl]
    · rw [if_neg (fun h => e2 h.1), if_neg e2, a2, if_neg e2]
      by_cases e3 : x = k ∧ k ≠ 0
      · rw [if_pos e3, if_pos e3, ← e3.1, a1, if_neg e1]
      · rw [if_neg e3, a1, if_neg e1, if_neg e3]

/-- A frame: the hole's side (true: on the right), the pending flip, the place, the tree on the other side. -/
structure Fm where
  s : Bool
  f : Bool
  p : Nat
  o : BT
def Fm.fill (a : Fm) (t : BT) : BT := if a.s then .node a.f a.o a.p t else .node a.f t a.p a.o
def plug : List Fm → BT → BT
  | [], t => t
  | a :: c, t => plug c (a.fill t)
def upOf : List Fm → Nat → Nat
  | [], u => u
  | a :: _, _ => a.p
def sd (b : Bool) : Nat := if b then 1 else 0
/-- The table represents what lies about the hole, in which there is a tree with the root x and the nodes ns. -/
def RepC (σ : Tbl) : List Fm → Nat → List Nat → Nat → Prop
  | [], _, _, _ => True
  | a :: c, x, ns, u => (a.p ≠ 0 ∧ (σ a.p).up = upOf c u ∧ (σ a.p).flip = a.f ∧ kid (σ a.p) (sd a.s) = x ∧ kid (σ a.p) (sd !a.s) = a.o.root) ∧ Rep σ a.o a.p ∧
      ((σ a.p).size = wrap64 (ns ++ a.p :: a.o.nodes).length ∧ (σ a.p).total = wrap64 (tot σ (ns ++ a.p :: a.o.nodes)) ∧ IsBest σ (ns ++ a.p :: a.o.nodes) (σ a.p).first) ∧ RepC σ c a.p (ns ++ a.p :: a.o.nodes) u

theorem fill_perm (a : Fm) (t : BT) : (a.fill t).nodes.Perm (t.nodes ++ a.p :: a.o.nodes) := by
  unfold Fm.fill
  cases a.s with
  | false => exact .refl _
  | true =>
    simp only [if_true, BT.nodes]
    refine List.perm_middle.trans (((List.perm_append_comm).cons a.p).trans List.perm_middle.symm)
theorem fill_root (a : Fm) (t : BT) : (a.fill t).root = a.p := by unfold Fm.fill; split <;> rfl
theorem RepC.perm {σ : Tbl} : ∀ {c : List Fm} {x : Nat} {ns ms : List Nat} {u : Nat}, ns.Perm ms → RepC σ c x ns u → RepC σ c x ms u
  | [], _, _, _, _, _, _ => trivial
  | a :: c, x, ns, ms, u, hp, ⟨h1, h2, ⟨h3, h4, h5⟩, h6⟩ => by
    have hq : (ns ++ a.p :: a.o.nodes).Perm (ms ++ a.p :: a.o.nodes) := hp.append_right _
    exact ⟨h1, h2, ⟨by rw [h3, hq.length_eq], by rw [h4, tot_perm hq], best_perm hq h5⟩, h6.perm hq⟩
theorem rep_fill {σ : Tbl} {a : Fm} {t : BT} {u : Nat} : Rep σ (a.fill t) u ↔ Rep σ t a.p ∧ (a.p ≠ 0 ∧ (σ a.p).up = u ∧ (σ a.p).flip = a.f ∧ kid (σ a.p) (sd a.s) = t.root ∧ kid (σ a.p) (sd !a.s) = a.o.root) ∧ Rep σ a.o a.p ∧
      ((σ a.p).size = wrap64 (t.nodes ++ a.p :: a.o.nodes).length ∧ (σ a.p).total = wrap64 (tot σ (t.nodes ++ a.p :: a.o.nodes)) ∧ IsBest σ (t.nodes ++ a.p :: a.o.nodes) (σ a.p).first) := by
  have hp := fill_perm a t
  obtain ⟨s, f, p, o⟩ := a
  cases s with
  | false =>
    simp only [Fm.fill, Rep, kid, sd, Bool.not_false, if_true, Bool.false_eq_true, if_false, BT.nodes, Nat.one_ne_zero]
    constructor
    · rintro ⟨⟨a1, a2, a3, a4, a5⟩, b, c, d⟩; exact ⟨b, ⟨a1, a2, a3, a4, a5⟩, c, d⟩
    · rintro ⟨b, ⟨a1, a2, a3, a4, a5⟩, c, d⟩; exact ⟨⟨a1, a2, a3, a4, a5⟩, b, c, d⟩
  | true =>
    simp only [Fm.fill, if_true, BT.nodes] at hp
    simp only [Fm.fill, Rep, kid, sd, Bool.not_true, if_true, Bool.false_eq_true, if_false, BT.nodes, Nat.one_ne_zero]
    rw [hp.length_eq, tot_perm hp]
    constructor
    · rintro ⟨⟨a1, a2, a3, a4, a5⟩, b, c, d, e, g⟩; exact ⟨c, ⟨a1, a2, a3, a5, a4⟩, b, d, e, best_perm hp g⟩
    · rintro ⟨c, ⟨a1, a2, a3, a5, a4⟩, b, d, e, g⟩; exact ⟨⟨a1, a2, a3, a4, a5⟩, b, c, d, e, best_perm hp.symm g⟩
theorem rep_plug {σ : Tbl} : ∀ {c : List Fm} {t : BT} {u : Nat}, Rep σ (plug c t) u ↔ Rep σ t (upOf c u) ∧ RepC σ c t.root t.nodes u
  | [], t, u => by simp [plug, upOf, RepC]
  | a :: c, t, u => by
    simp only [plug, upOf, RepC]
    rw [rep_plug, rep_fill, fill_root]
    constructor
    · rintro ⟨⟨h1, h2, h3, h4⟩, h5⟩; exact ⟨h1, h2, h3, h4, h5.perm (fill_perm a t)⟩
    · rintro ⟨h1, h2, h3, h4, h5⟩; exact ⟨⟨h1, h2, h3, h4⟩, h5.perm (fill_perm a t).symm⟩

end Go.Proofs.Ytoppjjgecgbbkaa
