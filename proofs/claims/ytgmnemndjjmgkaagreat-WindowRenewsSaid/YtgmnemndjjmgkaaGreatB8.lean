/- lct: check and Link. -/
import Derived.Test.YtgmnemndjjmgkaaGreatB7
import Derived.RangeFuncNested
import Derived.RangeFuncBound
import Derived.RangeFuncCalls
import Derived.RangeFuncLeaves
import Derived.Shelf.Abstract
import Derived.Shelf.RegionOpen
import Derived.OwnWalkIn
import Derived.TacticsInMore
import Derived.LoopNIn
import Derived.LoopIn
import Derived.Test.YtgmnemndjjmgkaaGreatB1
import Derived.Deep.LoopGhost
set_option linter.unusedSimpArgs false
set_option linter.unusedVariables false
/- lct: how many trees a forest has, and how an edge changes that. -/
namespace Go.Proofs.YtgmnemndjjmgkaaGreat
open Go.RowKit Classical
def IsFirst (E : Nat → Nat → Prop) (v : Nat) : Prop := ∀ u, u < v → ¬ Conn E v u
noncomputable def nc (n : Nat) (E : Nat → Nat → Prop) : Nat := ((List.range n).filter fun v => decide (IsFirst E v)).length
noncomputable def csize (n : Nat) (E : Nat → Nat → Prop) (v : Nat) : Nat := ((List.range n).filter fun u => decide (Conn E v u)).length
theorem nc_le (n : Nat) (E : Nat → Nat → Prop) : nc n E ≤ n := by
 unfold nc
 have := List.length_filter_le (fun v => decide (IsFirst E v)) (List.range n)
 simpa using this
theorem csize_le (n : Nat) (E : Nat → Nat → Prop) (v : Nat) : csize n E v ≤ n := by
 unfold csize
 have := List.length_filter_le (fun u => decide (Conn E v u)) (List.range n)
 simpa using this
theorem conn_congr {E E' : Nat → Nat → Prop} (h : ∀ v u, E v u ↔ E' v u) (a b : Nat) : Conn E a b ↔ Conn E' a b :=
  ⟨fun ⟨p, hp⟩ => ⟨p, hp.mono (fun x y => (h x y).1)⟩, fun ⟨p, hp⟩ => ⟨p, hp.mono (fun x y => (h x y).2)⟩⟩
theorem E_ext {E E' : Nat → Nat → Prop} (h : ∀ v u, E v u ↔ E' v u) : E = E' := funext fun v => funext fun u => propext (h v u)
theorem filter_drop_one {P P' : Nat → Bool} {m : Nat} : ∀ {l : List Nat}, l.Nodup → m ∈ l → P m = true → P' m = false → (∀ x ∈ l, x ≠ m → P' x = P x) → (l.filter P').length + 1 = (l.filter P).length
  | y :: l, hn, hm, h1, h2, h3 => by
    have hn' := List.nodup_cons.1 hn
    by_cases e : y = m
    · subst e
      have : l.filter P' = l.filter P := List.filter_congr (fun x hx => h3 x (by simp [hx]) (by rintro rfl; exact hn'.1 hx))
      simp [h1, h2, this]
    · have hml : m ∈ l := (List.mem_cons.1 hm).resolve_left (fun h => e h.symm)
      have ih := filter_drop_one hn'.2 hml h1 h2 (fun x hx => h3 x (by simp [hx]))
      have hy := h3 y (by simp) e
      cases hp : P y with
      | true => simp [hy, hp, ih]
      | false => simp [hy, hp, ih]
def addE (E : Nat → Nat → Prop) (a b : Nat) : Nat → Nat → Prop := fun v u => E v u ∨ (v = a ∧ u = b) ∨ (v = b ∧ u = a)
def delE (E : Nat → Nat → Prop) (a b : Nat) : Nat → Nat → Prop := fun v u => E v u ∧ ¬ (v = a ∧ u = b) ∧ ¬ (v = b ∧ u = a)
section
variable {E : Nat → Nat → Prop} {a b n : Nat}
theorem conn_of_edge {v u : Nat} (h : Frs E) (he : E v u) : Conn E v u := ⟨_, h.edge he⟩
theorem conn_add (h : Frs E) (h' : Frs (addE E a b)) (x y : Nat) : Conn (addE E a b) x y ↔ Conn E x y ∨ (Conn E x a ∧ Conn E b y) ∨ (Conn E x b ∧ Conn E a y) := by
 constructor
 {
 rintro ⟨p, l, rfl, hw, _, hl⟩
 have key : ∀ {l : List Nat} {x : Nat}, Wk (addE E a b) x l → ∀ y ∈ x :: l, Conn E x y ∨ (Conn E x a ∧ Conn E b y) ∨ (Conn E x b ∧ Conn E a y) := by {
 intro l
 induction l with
 | nil => intro x _ y hy; simp at hy; subst hy; exact .inl (Conn.refl E y)
 | cons z l ih => {
 intro x ⟨h1, h2⟩ y hy
 rcases List.mem_cons.1 hy with rfl | hy
 · exact .inl (Conn.refl E y)
 have hz := ih h2 y hy
 rcases h1 with h1 | ⟨rfl, rfl⟩ | ⟨rfl, rfl⟩
 {
 have hxz := conn_of_edge h h1
 rcases hz with hz | ⟨hz1, hz2⟩ | ⟨hz1, hz2⟩
 · exact .inl (h.ctrans hxz hz)
 · exact .inr (.inl ⟨h.ctrans hxz hz1, hz2⟩)
 · exact .inr (.inr ⟨h.ctrans hxz hz1, hz2⟩)
 }
 {
 rcases hz with hz | ⟨hz1, hz2⟩ | ⟨hz1, hz2⟩
 · exact .inr (.inl ⟨Conn.refl E x, hz⟩)
 · exact .inr (.inl ⟨Conn.refl E x, hz2⟩)
 · exact .inl hz2
 }
 {
 rcases hz with hz | ⟨hz1, hz2⟩ | ⟨hz1, hz2⟩
 · exact .inr (.inr ⟨Conn.refl E x, hz⟩)
 · exact .inl hz2
 · exact .inr (.inr ⟨Conn.refl E x, hz2⟩)
 }
 }
 }
 exact key hw y (List.mem_of_getLast? hl)
 }
 {
 have hm : ∀ {x y}, Conn E x y → Conn (addE E a b) x y := fun ⟨p, hp⟩ => ⟨p, hp.mono (fun _ _ e => .inl e)⟩
 have hab : Conn (addE E a b) a b := conn_of_edge h' (.inr (.inl ⟨rfl, rfl⟩))
 rintro (e | ⟨e1, e2⟩ | ⟨e1, e2⟩)
 · exact hm e
 · exact h'.ctrans (hm e1) (h'.ctrans hab (hm e2))
 · exact h'.ctrans (hm e1) (h'.ctrans (h'.csymm hab) (hm e2))
 }
theorem least_ex {P : Nat → Prop} {n : Nat} (h : P n) : ∃ m, m ≤ n ∧ P m ∧ ∀ k, k < m → ¬ P k := by
 induction n using Nat.strongRecOn with
 | _ n ih => {
 by_cases hm : ∃ m, m < n ∧ P m
 {
 obtain ⟨m, hlt, hp⟩ := hm
 obtain ⟨m', h1, h2, h3⟩ := ih m hlt hp
 exact ⟨m', by omega, h2, h3⟩
 }
 · exact ⟨n, Nat.le_refl _, h, fun k hk hp => hm ⟨k, hk, hp⟩⟩
 }
theorem nc_add (h : Frs E) (h' : Frs (addE E a b)) (hab : ¬ Conn E a b) (ha : a < n) (hb : b < n) : nc n (addE E a b) + 1 = nc n E := by
 obtain ⟨fa, ha1, ha2, ha3⟩ := least_ex (P := fun k => Conn E a k) (Conn.refl E a)
 obtain ⟨fb, hb1, hb2, hb3⟩ := least_ex (P := fun k => Conn E b k) (Conn.refl E b)
 have hne : fa ≠ fb := by rintro rfl; exact hab (h.ctrans ha2 (h.csymm hb2))
 have hfa : IsFirst E fa := fun k hk hc => ha3 k hk (h.ctrans ha2 hc)
 have hfb : IsFirst E fb := fun k hk hc => hb3 k hk (h.ctrans hb2 hc)
 have key : ∀ {a b fa fb : Nat}, fa < fb → Conn E a fa → Conn E b fb → IsFirst E fa → IsFirst E fb → ¬ Conn E a b → Frs (addE E a b) → b < n → fb ≤ b → (∀ k, k < fa → ¬ Conn E a k) → nc n (addE E a b) + 1 = nc n E := by {
 intro a b fa fb hlt hca hcb hfa hfb hab h' hbn hfbb hmin
 have hbc := conn_add (a := a) (b := b) h h'
 unfold nc
 refine filter_drop_one (m := fb) List.nodup_range (List.mem_range.2 (by omega)) (decide_eq_true hfb) (decide_eq_false ?_) ?_
 {
 intro hf
 exact hf fa hlt ((hbc fb fa).2 (.inr (.inr ⟨h.csymm hcb, hca⟩)))
 }
 {
 intro x _ hx
 refine decide_eq_decide.2 ⟨fun hf u hu hc => hf u hu ((hbc x u).2 (.inl hc)), fun hf u hu hc => ?_⟩
 rcases (hbc x u).1 hc with e | ⟨e1, e2⟩ | ⟨e1, e2⟩
 · exact hf u hu e
 {
 -- x is with a, u with b: then x = fa, and fb ≤ u
 have hxfa : Conn E x fa := h.ctrans e1 hca
 have h1 : x = fa := by {
 rcases Nat.lt_trichotomy x fa with q | q | q
 · exact absurd (h.csymm hxfa) (hfa x q)
 · exact q
 · exact absurd hxfa (hf fa q)
 }
 have : ¬ u < fb := fun q => hfb u q (h.ctrans (h.csymm hcb) e2)
 omega
 }
 {
 have hxfb : Conn E x fb := h.ctrans e1 hcb
 rcases Nat.lt_trichotomy x fb with q | q | q
 · exact absurd (h.csymm hxfb) (hfb x q)
 · exact absurd q hx
 · exact absurd hxfb (hf fb q)
 }
 }
 }
 rcases Nat.lt_or_gt_of_ne hne with q | q
 · exact key q ha2 hb2 hfa hfb hab h' hb hb1 ha3
 {
 have e : addE E a b = addE E b a := E_ext (fun v u => by unfold addE; constructor <;> (rintro (e | e | e); exact .inl e; exact .inr (.inr e); exact .inr (.inl e)))
 rw [e]
 exact key q hb2 ha2 hfb hfa (fun e => hab (h.csymm e)) (by rw [← e]; exact h') ha ha1 hb3
 }
theorem add_del (h : Frs E) (he : E a b) : addE (delE E a b) a b = E := by
 refine E_ext (fun v u => ?_)
 unfold addE delE
 constructor
 {
 rintro (e | ⟨rfl, rfl⟩ | ⟨rfl, rfl⟩)
 · exact e.1
 · exact he
 · exact h.symm he
 }
 {
 intro e
 by_cases h1 : v = a ∧ u = b
 · exact .inr (.inl h1)
 {
 by_cases h2 : v = b ∧ u = a
 · exact .inr (.inr h2)
 · exact .inl ⟨e, h1, h2⟩
 }
 }
theorem del_sep (h : Frs E) (he : E a b) : ¬ Conn (delE E a b) a b := by
 rintro ⟨p, hp⟩
 have h1 := hp.mono (E' := E) (fun x y e => e.1)
 have h2 := h.unique h1 (h.edge he)
 subst h2
 obtain ⟨l, e, hw, _⟩ := hp
 simp at e
 subst e
 exact hw.1.2.1 ⟨rfl, rfl⟩
theorem nc_del (h : Frs E) (h' : Frs (delE E a b)) (he : E a b) (ha : a < n) (hb : b < n) : nc n (delE E a b) = nc n E + 1 := by
 have e := add_del h he
 have := nc_add (n := n) h' (by rw [e]; exact h) (del_sep h he) ha hb
 rw [e] at this; exact this.symm
end
theorem nc_none (n : Nat) : nc n (fun _ _ => False) = n := by
 unfold nc
 rw [List.filter_eq_self.2]
 · simp
 {
 intro v _
 refine decide_eq_true (fun u hu ⟨p, l, e, hw, _, hl⟩ => ?_)
 cases l with
 | nil => subst e; simp at hl; omega
 | cons x l => exact hw.1
 }
end Go.Proofs.YtgmnemndjjmgkaaGreat
namespace Go.Proofs.YtgmnemndjjmgkaaGreat
open Classical
abbrev EMap := Nat → Option (Nat × Nat × Int)
def updG (G : EMap) (s : Nat) (e : Option (Nat × Nat × Int)) : EMap := fun t => if t = s then e else G t
theorem updG_same (G : EMap) (s : Nat) (e : Option (Nat × Nat × Int)) : updG G s e s = e := by simp [updG]
theorem updG_other {G : EMap} {s t : Nat} {e : Option (Nat × Nat × Int)} (h : t ≠ s) : updG G s e t = G t := by simp [updG, h]
inductive Cx (G : EMap) (U : Nat → Prop) : Nat → Nat → Prop
  | refl (a : Nat) : Cx G U a a
  | step {a b c : Nat} (s : Nat) (x : Int) : Cx G U a b → U s → (G s = some (b, c, x) ∨ G s = some (c, b, x)) → Cx G U a c
section
variable {G G' : EMap} {U U' : Nat → Prop} {a b c p q s m : Nat} {x y : Int}
theorem Cx.trans (h : Cx G U a b) (h' : Cx G U b c) : Cx G U a c := by
 induction h' with
 | refl => exact h
 | step s x _ h1 h2 ih => exact .step s x ih h1 h2
theorem Cx.edge (hs : U s) (h : G s = some (a, b, x)) : Cx G U a b := .step s x (.refl a) hs (.inl h)
theorem Cx.edge' (hs : U s) (h : G s = some (a, b, x)) : Cx G U b a := .step s x (.refl b) hs (.inr h)
theorem Cx.symm (h : Cx G U a b) : Cx G U b a := by
 induction h with
 | refl => exact .refl _
 | step s x _ h1 h2 ih => {
 rcases h2 with h2 | h2
 · exact (Cx.edge' h1 h2).trans ih
 · exact (Cx.edge h1 h2).trans ih
 }
theorem Cx.bind (h : Cx G U a b) (hs : ∀ s c d x, U s → G s = some (c, d, x) → Cx G' U' c d) : Cx G' U' a b := by
 induction h with
 | refl => exact .refl _
 | step s x _ h1 h2 ih => {
 rcases h2 with h2 | h2
 · exact ih.trans (hs _ _ _ _ h1 h2)
 · exact ih.trans (hs _ _ _ _ h1 h2).symm
 }
theorem Cx.mono (h : Cx G U a b) (hs : ∀ s e, U s → G s = some e → U' s) : Cx G U' a b :=
  h.bind fun s _ _ _x h1 h2 => Cx.edge (hs s _ h1 h2) h2
theorem Cx.mono' (h : Cx G U a b) (hs : ∀ s e, U s → G s = some e → U' s ∧ G' s = some e) : Cx G' U' a b :=
  h.bind fun s _ _ _x h1 h2 => Cx.edge (hs s _ h1 h2).1 (hs s _ h1 h2).2
theorem Cx.more (h : Cx G U p q) (hu : ∀ t, U t → U' t ∨ t = s) (hs : G s = some (a, b, x)) :
    Cx G U' p q ∨ (Cx G U' p a ∧ Cx G U' b q) ∨ (Cx G U' p b ∧ Cx G U' a q) := by
 induction h with
 | refl => exact .inl (.refl _)
 | @step c d t z _ h1 h2 ih => {
 rcases hu t h1 with h1 | rfl
 {
 have e : Cx G U' c d := .step t z (.refl _) h1 h2
 rcases ih with ih | ⟨i1, i2⟩ | ⟨i1, i2⟩
 · exact .inl (ih.trans e)
 · exact .inr (.inl ⟨i1, i2.trans e⟩)
 · exact .inr (.inr ⟨i1, i2.trans e⟩)
 }
 {
 rw [hs] at h2
 simp only [Option.some.injEq, Prod.mk.injEq] at h2
 rcases h2 with ⟨rfl, rfl, rfl⟩ | ⟨rfl, rfl, rfl⟩
 {
 rcases ih with ih | ⟨i1, _⟩ | ⟨i1, _⟩
 · exact .inr (.inl ⟨ih, .refl _⟩)
 · exact .inr (.inl ⟨i1, .refl _⟩)
 · exact .inl i1
 }
 {
 rcases ih with ih | ⟨i1, _⟩ | ⟨i1, _⟩
 · exact .inr (.inr ⟨ih, .refl _⟩)
 · exact .inl i1
 · exact .inr (.inr ⟨i1, .refl _⟩)
 }
 }
 }
def bef (x : Int) (s : Nat) (y : Int) (t : Nat) : Prop := x < y ∨ (x = y ∧ s < t)
def Aft (G : EMap) (s : Nat) (x : Int) (t : Nat) : Prop := ∃ a b y, G t = some (a, b, y) ∧ bef x s y t
def isTree (G : EMap) (s : Nat) : Prop := ∃ a b x, G s = some (a, b, x) ∧ ¬ Cx G (Aft G s x) a b
theorem bef_trans {z : Int} {t u : Nat} (h : bef x s y t) (h' : bef y t z u) : bef x s z u := by unfold bef at *; omega
theorem bef_irr (x : Int) (s : Nat) : ¬ bef x s x s := by unfold bef; omega
theorem bef_tri {t : Nat} (h : s ≠ t) (hn : ¬ bef x s y t) : bef y t x s := by unfold bef at *; omega
def Upw (G : EMap) (U : Nat → Prop) : Prop := ∀ t a b x u, U t → G t = some (a, b, x) → Aft G t x u → U u
theorem rank_lt {S : Nat} {t u : Nat} {z : Int} {e f : Nat} (hS : ∀ s e, G s = some e → s < S) (hu : G u = some (e, f, z)) (h : bef x t z u) :
    ((List.range S).filter fun v => decide (Aft G u z v)).length < ((List.range S).filter fun v => decide (Aft G t x v)).length := by
 have key : ∀ l : List Nat, ((l.filter fun v => decide (Aft G u z v)).length ≤ (l.filter fun v => decide (Aft G t x v)).length) ∧ (u ∈ l → (l.filter fun v => decide (Aft G u z v)).length < (l.filter fun v => decide (Aft G t x v)).length) := by {
 intro l
 induction l with
 | nil => exact ⟨Nat.le_refl _, fun h => by simp at h⟩
 | cons v l ih => {
 have himp : Aft G u z v → Aft G t x v := fun ⟨a, b, y, h1, h2⟩ => ⟨a, b, y, h1, bef_trans h h2⟩
 by_cases h1 : Aft G u z v
 {
 have h2 := himp h1
 refine ⟨by simp [h1, h2, ih.1], fun hm => ?_⟩
 have hne : u ≠ v := by {
 rintro rfl
 obtain ⟨a, b, y, e1, e2⟩ := h1
 rw [hu] at e1; simp only [Option.some.injEq, Prod.mk.injEq] at e1
 rw [e1.2.2] at e2; exact bef_irr _ _ e2
 }
 have hm' : u ∈ l := by simpa [hne] using hm
 have := ih.2 hm'
 simp [h1, h2]; exact this
 }
 {
 by_cases h2 : Aft G t x v
 {
 have := ih.1
 constructor
 · simp [h1, h2]; omega
 · intro _; simp [h1, h2]; omega
 }
 {
 refine ⟨by simp [h1, h2, ih.1], fun hm => ?_⟩
 have hne : u ≠ v := by {
 rintro rfl
 exact h2 ⟨e, f, z, hu, h⟩
 }
 have hm' : u ∈ l := by simpa [hne] using hm
 have := ih.2 hm'
 simp [h1, h2]; exact this
 }
 }
 }
 }
 exact (key _).2 (List.mem_range.2 (hS _ _ hu))
theorem kru {S : Nat} (hS : ∀ s e, G s = some e → s < S) (hU : Upw G U) (h : Cx G U a b) : Cx G (fun t => U t ∧ isTree G t) a b := by
 have key : ∀ (k t : Nat) (c d : Nat) (z : Int), ((List.range S).filter fun v => decide (Aft G t z v)).length ≤ k → U t → G t = some (c, d, z) → Cx G (fun t => U t ∧ isTree G t) c d := by {
 intro k
 induction k with
 | zero => {
 intro t c d z hk ht hg
 by_cases hT : isTree G t
 · exact Cx.edge ⟨ht, hT⟩ hg
 {
 have hc : Cx G (Aft G t z) c d := Classical.byContradiction fun hc => hT ⟨c, d, z, hg, hc⟩
 refine hc.bind fun u e f w hu hgu => ?_
 obtain ⟨_, _, y, e1, e2⟩ := hu
 rw [hgu] at e1; simp only [Option.some.injEq, Prod.mk.injEq] at e1
 rw [← e1.2.2] at e2
 have := rank_lt hS hgu e2
 omega
 }
 }
 | succ k ih => {
 intro t c d z hk ht hg
 by_cases hT : isTree G t
 · exact Cx.edge ⟨ht, hT⟩ hg
 {
 have hc : Cx G (Aft G t z) c d := Classical.byContradiction fun hc => hT ⟨c, d, z, hg, hc⟩
 refine hc.bind fun u e f w hu hgu => ?_
 have hUu := hU t c d z u ht hg hu
 obtain ⟨_, _, y, e1, e2⟩ := hu
 rw [hgu] at e1; simp only [Option.some.injEq, Prod.mk.injEq] at e1
 rw [← e1.2.2] at e2
 have := rank_lt hS hgu e2
 exact ih u e f w (by omega) hUu hgu
 }
 }
 }
 exact h.bind fun t c d z h1 h2 => key _ t c d z (Nat.le_refl _) h1 h2
theorem upw_all (G : EMap) : Upw G (fun _ => True) := fun _ _ _ _ _ _ _ _ => trivial
theorem upw_aft (G : EMap) (s : Nat) (x : Int) : Upw G (Aft G s x) := by
 rintro t a b y u ⟨a', b', y', h1, h2⟩ h3 ⟨c, d, z, h4, h5⟩
 rw [h3] at h1; simp only [Option.some.injEq, Prod.mk.injEq] at h1
 obtain ⟨_, _, rfl⟩ := h1
 exact ⟨c, d, z, h4, bef_trans h2 h5⟩
theorem upw_from (hs : G s = some (a, b, x)) : Upw G (fun t => t = s ∨ Aft G s x t) := by
 rintro t c d y u (rfl | h1) h3 h4
 {
 rw [hs] at h3; simp only [Option.some.injEq, Prod.mk.injEq] at h3
 obtain ⟨_, _, rfl⟩ := h3
 exact .inr h4
 }
 · exact .inr (upw_aft G s x t c d y u h1 h3 h4)
theorem kru_all {S : Nat} (hS : ∀ s e, G s = some e → s < S) (h : Cx G U a b) : Cx G (isTree G) a b :=
  (kru hS (upw_all G) (h.mono (fun _ _ _ _ => trivial))).mono (fun _ _ h _ => h.2)
section
variable {S t : Nat} {d : Nat} {z : Int} (hS : ∀ s e, G s = some e → s < S) (h0 : G s = none)
include h0
theorem aft_keep (h : Aft G t z q) (e : Option (Nat × Nat × Int)) : Aft (updG G s e) t z q := by
 obtain ⟨a, b, y, h1, h2⟩ := h
 have : q ≠ s := by rintro rfl; rw [h0] at h1; cases h1
 exact ⟨a, b, y, by rw [updG_other this]; exact h1, h2⟩
theorem cx_keep (h : Cx G (Aft G t z) p q) (e : Option (Nat × Nat × Int)) : Cx (updG G s e) (Aft (updG G s e) t z) p q :=
  h.mono' fun u f h1 h2 => ⟨aft_keep h0 h1 e, by rw [updG_other (fun e1 => by rw [e1, h0] at h2; cases h2)]; exact h2⟩
theorem cx_old (h : Cx (updG G s (some (a, b, x))) (Aft (updG G s (some (a, b, x))) t z) p q) (hn : ¬ bef z t x s) : Cx G (Aft G t z) p q := by
 refine h.mono' fun u f h1 h2 => ?_
 obtain ⟨c, d, y, h3, h4⟩ := h1
 have hu : u ≠ s := by {
 rintro rfl
 rw [updG_same] at h3; simp only [Option.some.injEq, Prod.mk.injEq] at h3
 exact hn (by rw [h3.2.2]; exact h4)
 }
 rw [updG_other hu] at h3 h2
 exact ⟨⟨c, d, y, h3, h4⟩, h2⟩
omit h0 in
theorem cx_new (h : Cx (updG G s (some (a, b, x))) (Aft (updG G s (some (a, b, x))) t z) p q) :
    Cx G (Aft G t z) p q ∨ (Cx G (Aft G t z) p a ∧ Cx G (Aft G t z) b q) ∨ (Cx G (Aft G t z) p b ∧ Cx G (Aft G t z) a q) := by
 have h1 := h.more (U' := fun u => u ≠ s ∧ Aft (updG G s (some (a, b, x))) t z u) (s := s) (fun u hu => if e : u = s then .inr e else .inl ⟨e, hu⟩) (updG_same _ _ _)
 have back : ∀ {p q : Nat}, Cx (updG G s (some (a, b, x))) (fun u => u ≠ s ∧ Aft (updG G s (some (a, b, x))) t z u) p q → Cx G (Aft G t z) p q := fun h => h.mono' fun u f h1 h2 => by
   obtain ⟨hu, c, d, y, h3, h4⟩ := h1
   rw [updG_other hu] at h3 h2
   exact ⟨⟨c, d, y, h3, h4⟩, h2⟩
 rcases h1 with h1 | ⟨h1, h2⟩ | ⟨h1, h2⟩
 · exact .inl (back h1)
 · exact .inr (.inl ⟨back h1, back h2⟩)
 · exact .inr (.inr ⟨back h1, back h2⟩)
theorem tree_back (ht : t ≠ s) (h : isTree (updG G s (some (a, b, x))) t) : isTree G t := by
 obtain ⟨c, d, z, h1, h2⟩ := h
 rw [updG_other ht] at h1
 exact ⟨c, d, z, h1, fun h => h2 (cx_keep h0 h _)⟩
include hS
theorem add_new (hn : ¬ Cx G (isTree G) a b) (t : Nat) : isTree (updG G s (some (a, b, x))) t ↔ isTree G t ∨ t = s := by
 constructor
 {
 intro h
 by_cases e : t = s
 · exact .inr e
 · exact .inl (tree_back h0 e h)
 }
 {
 rintro (h | rfl)
 {
 obtain ⟨c, d, z, h1, h2⟩ := h
 have e : t ≠ s := by rintro rfl; rw [h0] at h1; cases h1
 refine ⟨c, d, z, by rw [updG_other e]; exact h1, fun h => ?_⟩
 have wk : ∀ {p q : Nat}, Cx G (Aft G t z) p q → Cx G (fun _ => True) p q := fun h => h.mono (fun _ _ _ _ => trivial)
 have ed : Cx G (fun _ => True) c d := Cx.edge (s := t) trivial h1
 rcases cx_new h with h | ⟨h3, h4⟩ | ⟨h3, h4⟩
 · exact h2 h
 · exact hn (kru_all hS (((wk h3).symm.trans ed).trans (wk h4).symm))
 · exact hn (kru_all hS (((wk h4).trans ed.symm).trans (wk h3)))
 }
 · exact ⟨a, b, x, updG_same _ _ _, fun h => hn (kru_all hS (cx_old h0 h (bef_irr x t)))⟩
 }
omit hS in
theorem add_late (hc : Cx G (Aft G s x) a b) (t : Nat) : isTree (updG G s (some (a, b, x))) t ↔ isTree G t := by
 constructor
 {
 intro h
 by_cases e : t = s
 {
 subst e
 obtain ⟨c, d, z, h1, h2⟩ := h
 rw [updG_same] at h1; simp only [Option.some.injEq, Prod.mk.injEq] at h1
 obtain ⟨rfl, rfl, rfl⟩ := h1
 exact absurd (cx_keep h0 hc _) h2
 }
 · exact tree_back h0 e h
 }
 {
 rintro ⟨c, d, z, h1, h2⟩
 have e : t ≠ s := by rintro rfl; rw [h0] at h1; cases h1
 refine ⟨c, d, z, by rw [updG_other e]; exact h1, fun h => h2 ?_⟩
 by_cases hb : bef z t x s
 {
 have hc' : Cx G (Aft G t z) a b := hc.mono fun u f ⟨a', b', y, h3, h4⟩ _ => ⟨a', b', y, h3, bef_trans hb h4⟩
 rcases cx_new h with h | ⟨h3, h4⟩ | ⟨h3, h4⟩
 · exact h
 · exact (h3.trans hc').trans h4
 · exact (h3.trans hc'.symm).trans h4
 }
 · exact cx_old h0 h hb
 }
theorem add_swap {ma mb : Nat} (hm : G m = some (ma, mb, y)) (hc : Cx G (fun t => isTree G t ∧ (t = m ∨ Aft G m y t)) a b) (hn : ¬ Cx G (fun t => isTree G t ∧ t ≠ m) a b) (hb : bef y m x s) (t : Nat) :
    isTree (updG G s (some (a, b, x))) t ↔ (isTree G t ∧ t ≠ m) ∨ t = s := by
 have hms : m ≠ s := by rintro rfl; rw [h0] at hm; cases hm
 constructor
 {
 intro h
 by_cases e : t = s
 · exact .inr e
 {
 refine .inl ⟨tree_back h0 e h, ?_⟩
 rintro rfl
 obtain ⟨c, d, z, h1, h2⟩ := h
 rw [updG_other e, hm] at h1; simp only [Option.some.injEq, Prod.mk.injEq] at h1
 obtain ⟨rfl, rfl, rfl⟩ := h1
 have es : Cx (updG G s (some (a, b, x))) (Aft (updG G s (some (a, b, x))) t y) a b := Cx.edge (s := s) ⟨a, b, x, updG_same _ _ _, hb⟩ (updG_same _ _ _)
 have lift : ∀ {p q : Nat}, Cx G (fun u => isTree G u ∧ Aft G t y u) p q → Cx (updG G s (some (a, b, x))) (Aft (updG G s (some (a, b, x))) t y) p q := fun h => cx_keep h0 (h.mono fun _ _ h _ => h.2) _
 rcases hc.more (U' := fun u => isTree G u ∧ Aft G t y u) (s := t) (fun u hu => hu.2.elim .inr (fun h => .inl ⟨hu.1, h⟩)) hm with h | ⟨h3, h4⟩ | ⟨h3, h4⟩
 {
 refine hn (h.mono fun u _ hu _ => ⟨hu.1, ?_⟩)
 rintro rfl
 obtain ⟨_, _, y', e1, e2⟩ := hu.2
 rw [hm] at e1; simp only [Option.some.injEq, Prod.mk.injEq] at e1
 rw [← e1.2.2] at e2; exact bef_irr _ _ e2
 }
 · exact h2 (((lift h3).symm.trans es).trans (lift h4).symm)
 · exact h2 (((lift h4).trans es.symm).trans (lift h3))
 }
 }
 {
 rintro (⟨h, htm⟩ | rfl)
 {
 obtain ⟨c, d, z, h1, h2⟩ := h
 have e : t ≠ s := by rintro rfl; rw [h0] at h1; cases h1
 refine ⟨c, d, z, by rw [updG_other e]; exact h1, fun h => ?_⟩
 by_cases hb1 : bef z t y m
 {
 have hc' : Cx G (Aft G t z) a b := hc.mono fun u f hu _ => by
   rcases hu.2 with rfl | ⟨a', b', y', h3, h4⟩
   · exact ⟨ma, mb, y, hm, hb1⟩
   · exact ⟨a', b', y', h3, bef_trans hb1 h4⟩
 rcases cx_new h with h | ⟨h3, h4⟩ | ⟨h3, h4⟩
 · exact h2 h
 · exact h2 ((h3.trans hc').trans h4)
 · exact h2 ((h3.trans hc'.symm).trans h4)
 }
 {
 have hmt := bef_tri htm hb1
 have up : ∀ {p q : Nat}, Cx G (Aft G t z) p q → Cx G (fun u => u = t ∨ Aft G t z u) p q := fun h => h.mono fun _ _ h _ => .inr h
 have ed : Cx G (fun u => u = t ∨ Aft G t z u) c d := Cx.edge (s := t) (.inl rfl) h1
 have fin : Cx G (fun u => u = t ∨ Aft G t z u) a b → False := fun hab => by
   refine hn ((kru hS (upw_from h1) hab).mono fun u _ hu _ => ⟨hu.2, ?_⟩)
   rintro rfl
   rcases hu.1 with rfl | ⟨_, _, y', e1, e2⟩
   · exact htm rfl
   · rw [hm] at e1; simp only [Option.some.injEq, Prod.mk.injEq] at e1
     rw [← e1.2.2] at e2
     exact bef_irr _ _ (bef_trans hmt e2)
 rcases cx_new h with h | ⟨h3, h4⟩ | ⟨h3, h4⟩
 · exact h2 h
 · exact fin (((up h3).symm.trans ed).trans (up h4).symm)
 · exact fin (((up h4).trans ed.symm).trans (up h3))
 }
 }
 {
 refine ⟨a, b, x, updG_same _ _ _, fun h => ?_⟩
 have h1 := kru hS (upw_aft G t x) (cx_old h0 h (bef_irr x t))
 refine hn (h1.mono fun u _ hu _ => ⟨hu.2, ?_⟩)
 rintro rfl
 obtain ⟨_, _, y', e1, e2⟩ := hu.1
 rw [hm] at e1; simp only [Option.some.injEq, Prod.mk.injEq] at e1
 rw [← e1.2.2] at e2
 exact bef_irr _ _ (bef_trans hb e2)
 }
 }
end
theorem del_first {ma mb : Nat} (hm : G m = some (ma, mb, y)) (hf : ∀ t a b z, G t = some (a, b, z) → ¬ bef z t y m) (t : Nat) : isTree (updG G m none) t ↔ isTree G t ∧ t ≠ m := by
 have aft : ∀ {t a b : Nat} {z : Int} (u : Nat), G t = some (a, b, z) → t ≠ m → (Aft (updG G m none) t z u ↔ Aft G t z u) := by {
 intro t a b z u ht hne
 constructor
 {
 rintro ⟨c, d, w, h1, h2⟩
 have : u ≠ m := by rintro rfl; rw [updG_same] at h1; cases h1
 rw [updG_other this] at h1
 exact ⟨c, d, w, h1, h2⟩
 }
 {
 rintro ⟨c, d, w, h1, h2⟩
 have : u ≠ m := by {
 rintro rfl
 rw [hm] at h1; simp only [Option.some.injEq, Prod.mk.injEq] at h1
 rw [← h1.2.2] at h2
 exact hf t a b z ht h2
 }
 exact ⟨c, d, w, by rw [updG_other this]; exact h1, h2⟩
 }
 }
 have cx : ∀ {t a b c d : Nat} {z : Int}, G t = some (a, b, z) → t ≠ m → (Cx (updG G m none) (Aft (updG G m none) t z) c d ↔ Cx G (Aft G t z) c d) := by {
 intro t a b c d z ht hne
 constructor
 {
 intro h
 refine h.mono' fun u f h1 h2 => ⟨(aft u ht hne).1 h1, ?_⟩
 have : u ≠ m := by rintro rfl; rw [updG_same] at h2; cases h2
 rw [updG_other this] at h2; exact h2
 }
 {
 intro h
 refine h.mono' fun u f h1 h2 => ?_
 have h3 := (aft u ht hne).2 h1
 have : u ≠ m := by rintro rfl; obtain ⟨_, _, _, e1, _⟩ := h3; rw [updG_same] at e1; cases e1
 exact ⟨h3, by rw [updG_other this]; exact h2⟩
 }
 }
 constructor
 {
 rintro ⟨a, b, z, h1, h2⟩
 have hne : t ≠ m := by rintro rfl; rw [updG_same] at h1; cases h1
 rw [updG_other hne] at h1
 exact ⟨⟨a, b, z, h1, fun h => h2 ((cx h1 hne).2 h)⟩, hne⟩
 }
 {
 rintro ⟨⟨a, b, z, h1, h2⟩, hne⟩
 exact ⟨a, b, z, by rw [updG_other hne]; exact h1, fun h => h2 ((cx h1 hne).1 h)⟩
 }
end
end Go.Proofs.YtgmnemndjjmgkaaGreat
namespace Go.Proofs.YtgmnemndjjmgkaaGreat
open Go.RowKit Go.Shelf
set_option maxRecDepth 4000
set_option maxHeartbeats 400000
attribute [local go_sem] Oper.semAt_some
structure Bx (n₀ g : Nat) (w w' : World) : Prop where
  os : w'.os = w.os
  tape : w'.tape = w.tape
  output : w'.output = w.output
  size : w.heap.size ≤ w'.heap.size
  keep : ∀ k, k < n₀ → k ≠ g → w'.heap[k]? = w.heap[k]?
section
variable {n₀ g : Nat} {w w' w'' : World}
theorem Bx.refl (n₀ g : Nat) (w : World) : Bx n₀ g w w := ⟨rfl, rfl, rfl, Nat.le_refl _, fun _ _ _ => rfl⟩
theorem Bx.trans (h : Bx n₀ g w w') (k : Bx n₀ g w' w'') : Bx n₀ g w w'' :=
  ⟨k.os.trans h.os, k.tape.trans h.tape, k.output.trans h.output, Nat.le_trans h.size k.size, fun i hi hn => (k.keep i hi hn).trans (h.keep i hi hn)⟩
theorem Bx.of_fr (h : Fr [g] w w') (hn : n₀ ≤ w.heap.size) : Bx n₀ g w w' := ⟨h.os, h.tape, h.output, h.size, fun k hk hne => h.keep k (by omega) (by simpa using hne)⟩
theorem Bx.of_below (h : Below n₀ w w') : Bx n₀ g w w' := ⟨h.os, h.tape, h.output, h.size, fun k hk _ => h.block k hk⟩
theorem Bx.fr (h : Bx w.heap.size g w w') : Fr [g] w w' := ⟨h.os, h.tape, h.output, h.size, fun k hk hn => h.keep k hk (by simpa using hn)⟩
theorem Bx.mono {n : Nat} (h : Bx n₀ g w w') (hn : n ≤ n₀) : Bx n g w w' := ⟨h.os, h.tape, h.output, h.size, fun k hk => h.keep k (by omega)⟩
theorem Bx.cell {p : Addr} (h : Bx n₀ g w w') (hp : p.block < n₀) (hg : p.block ≠ g) : w'.cell? p = w.cell? p := World.cell?_of_block (h.keep _ hp hg)
theorem Bx.grown {row : Option Nat} (h : Bx n₀ g w w') (hg : w'.grownBy w'' row) (hn : n₀ ≤ w'.heap.size) (hr : ∀ k, row = some k → n₀ ≤ k) : Bx n₀ g w w'' :=
  h.trans ⟨hg.os, hg.tape, hg.output, hg.size, fun k hk _ => hg.block k (by omega) (fun e => by have := hr k e.symm; omega)⟩
end
theorem bxK_b {n₀ g : Nat} {w : World} (hn : n₀ ≤ w.heap.size) (W : World) (l : Nat) (o o' : Obj) (hl : w.heap.size ≤ l) (h : W.heap[l]? = some o) (_ : o.isCells = false) (_ : o.isWalk = false) : Bx n₀ g W (W.putObj l o') :=
  (Bx.refl n₀ g W).grown (grownBy_putObj' W l o') (by have := (Array.getElem?_eq_some_iff.1 h).1; omega) (fun k e => by cases e; omega)
theorem ownFrom_bx {β : Type} {n₀ g B : Nat} {w₀ : World} (hn : n₀ ≤ w₀.heap.size) (hB : n₀ ≤ B) : OwnFrom B (fun (_ : β) W => Bx n₀ g w₀ W) :=
  fun _ _ _ _ hs hg hr => hs.grown hg (Nat.le_trans hn hs.size) (fun k e => Nat.le_trans hB (hr k e).1)
theorem keepsOthers_fr {g : Nat} {w w' : World} {arr : Array Value} {t : TypeId} {z : Nat × Nat} (h : Fr [g] w w') (hg : w.heap[g]? = some (.cells arr t z)) : KeepsOthers w w' :=
  ⟨h.size, fun k o hk ho => by
 have hkg : k ≠ g := by rintro rfl; rw [hg] at hk; cases hk; cases ho
 exact (h.keep k (Array.getElem?_eq_some_iff.1 hk).1 (by simpa using hkg)).trans hk⟩
abbrev Pl (N : Nat) := { x : Nat × Nat // x.2 < N }
def bk (N m : Nat) (P : Nat → Nat) (hP : ∀ i, P i < N) (k : Nat) : Pl N := ⟨(m - 1 - k, P (m - 1 - k)), hP _⟩
def bks (N m : Nat) (P : Nat → Nat) (hP : ∀ i, P i < N) (k : Nat) : List (Pl N) := (List.range k).map (bk N m P hP)
theorem bks_succ (N m : Nat) (P : Nat → Nat) (hP : ∀ i, P i < N) (k : Nat) : bks N m P hP (k + 1) = bks N m P hP k ++ [bk N m P hP k] := by simp [bks, List.range_succ]
theorem back1_in (nf l Bb gp m cap N g B : Nat) (P : Nat → Nat) (hP : ∀ i, P i < N) (_hN : N ≤ 65537) (hm : m ≤ 65537) (hnf : 2 ≤ nf) (hBb : Bb < B) (hgp : gp < B) (hbg : Bb ≠ g) (hpg : gp ≠ g)
    (J Jx : List (Pl N) → World → Prop)
    (hY : ∀ pre x W, J pre W → pre.length < m → YieldAt Fence.wide (nf - 1) Tryz.prog l #[.int .i64 x.1.1, .int .i64 x.1.2] W fun e W' =>
      (e = .returned (.bool true) ∧ J (pre ++ [x]) W' ∧ Bx B g W W') ∨ (e = .returned (.bool false) ∧ Jx (pre ++ [x]) W'))
    (W : World) (hc : W.cell? ⟨Bb, 0, none⟩ = some (.slice (some ⟨gp, 0, none⟩) m cap)) (_hmc : m ≤ cap) (hp : ∀ i, i < m → W.cell? ⟨gp, i, none⟩ = some (.int .i64 (P i))) (h0 : J [] W) :
    CallsIn Fence.wide nf Tryz.prog 222 #[.func (.yield l) #[] #[], .pointer (some ⟨Bb, 0, none⟩)] W fun e W' => (∃ v, e = .returned v) ∧
      ((∃ ys, ys = bks N m P hP m ∧ J ys W') ∨ (∃ pre, True ∧ Jx pre W')) := by
 have HP := Lib.hid hp; clear hp
 refine callsIn_of_wp Tryz.func222 rfl trivial ?_ rfl
 simp only [Tryz.ntmps222, List.size_toArray, List.length_cons, List.length_nil, Nat.reduceAdd, Nat.reduceSub, Array.replicate_succ, Array.replicate_zero, List.push_toArray, List.append_toArray, List.nil_append, List.cons_append]
 gi_wp2
 gi_loopw [3] (fun x wr => ∃ i : Nat, i ≤ m ∧ x = .int .i64 ((i : Int) - 1) ∧ Bx B g W wr ∧ J (bks N m P hP (m - i)) wr) (fun x _ => (intOf x + 1).toNat)
 case atStart => exact ⟨m, Nat.le_refl _, by go_num, Bx.refl _ _ _, by rw [Nat.sub_self]; exact h0⟩
 case round =>
  obtain ⟨i, hi, rfl, hB, hJ⟩ := hrel
  cases i with
  | zero => {
  rw [show ((0 : Nat) : Int) - 1 = -1 by rfl]
  gi_wp2
  go_end0
  exact ⟨⟨_, rfl⟩, .inl ⟨_, rfl, hJ⟩⟩
  }
  | succ j => {
  rw [show ((j + 1 : Nat) : Int) - 1 = (j : Int) by omega]
  have rc := (hB.cell (p := ⟨Bb, 0, none⟩) hBb hbg).trans hc
  have rp := (hB.cell (p := ⟨gp, j, none⟩) hgp hpg).trans (HP.out j (by omega))
  obtain ⟨fn, tmps, assign, body, hy, hRd⟩ := hY (bks N m P hP (m - (j + 1))) (bk N m P hP (m - (j + 1))) wr hJ (by simp [bks]; omega)
  have e0 : (bk N m P hP (m - (j + 1))).1.1 = j := by simp only [bk]; omega
  have e1 : (bk N m P hP (m - (j + 1))).1.2 = P j := by simp only [bk]; rw [show m - 1 - (m - (j + 1)) = j by omega]
  rw [e0, e1] at hy
  clear e0 e1
  have hjm : (j : Int) < m := by omega
  gi_wp2
  refine ⟨fun _ => by omega, ?_⟩
  refine hRd.mono ?_
  rintro e W3 (⟨rfl, hJ3, hk3⟩ | ⟨rfl, hJx3⟩)
  {
  clear rc rp
  gi_wp2
  go_roundw
  case rel => exact ⟨j, by omega, by go_num, hB.trans hk3, by rw [show m - j = (m - (j + 1)) + 1 by omega, bks_succ]; exact hJ3⟩
  case measure => simp [intOf]
  }
  {
  gi_wp2
  refine bodyPost_ret (results_none rfl _ _ _) rfl ?_
  exact ⟨⟨_, rfl⟩, .inr ⟨_, trivial, hJx3⟩⟩
  }
  }
set_option maxRecDepth 10000
set_option maxHeartbeats 800000
attribute [local go_sem] Oper.semAt_some
theorem LctAt.below {w w' : World} {pf g N cap n : Nat} {σ : Tbl} {ed : Int} (h : LctAt w pf g N cap σ ed) (hb : Below n w w') (hp : pf < n) (hg : g < n) : LctAt w' pf g N cap σ ed :=
  ⟨h.hd.of_same (hb.block pf hp), h.nodes.same (hb.block g hg), h.ne, h.le, h.cap⟩
theorem LctAt.lts {w : World} {pf g N cap : Nat} {σ : Tbl} {ed : Int} (h : LctAt w pf g N cap σ ed) : pf < w.heap.size ∧ g < w.heap.size := ⟨h.hd.lt, h.nodes.lt⟩
theorem cnodes_p {a : Fm} : ∀ {c : List Fm}, a ∈ c → a.p ∈ cnodes c
  | b :: c, h => by
    rcases List.mem_cons.1 h with rfl | h
    · simp [cnodes]
    · simp only [cnodes, List.cons_append, List.mem_cons, List.mem_append]; exact .inr (.inr (cnodes_p h))
theorem cnodes_len : ∀ c : List Fm, c.length ≤ (cnodes c).length
  | [] => Nat.le_refl _
  | a :: c => by have := cnodes_len c; simp [cnodes]; omega
theorem nodup_le {l : List Nat} {N : Nat} (h : l.Nodup) (hl : ∀ x ∈ l, x < N) : l.length ≤ N := by
 have h1 : l ⊆ List.range N := fun x hx => List.mem_range.2 (hl x hx)
 have := h.length_le_of_subset h1
 simpa using this
def slLen : Value → Nat
  | .slice _ n _ => n
  | _ => 0
theorem Fr.of_grown {w w' : World} {b : Nat} {row : Option Nat} {o : Obj} (hg : (w.alloc o).grownBy w' row) (hr : ∀ k, row = some k → b ≤ k) (hb : b ≤ w.heap.size) : Below b w w' :=
  ((Below.refl b w).alloc hb o).grown hg (by simp; omega) hr
theorem Tryz.linfo3 : (Tryz.prog.info? 3).map (fun i => (i.zero, i.size, i.bytes)) = some (some (.int .i64 0), 1, 8) := by kernel_rfl
theorem LctAt.grown {w w' : World} {pf g N cap : Nat} {σ : Tbl} {ed : Int} {row : Option Nat} (h : LctAt w pf g N cap σ ed) (hg : w.grownBy w' row) (hr : ∀ k, row = some k → k ≠ pf ∧ k ≠ g) : LctAt w' pf g N cap σ ed :=
  ⟨h.hd.of_same (hg.block pf h.hd.lt (fun e => (hr _ e.symm).1 rfl)), h.nodes.same (hg.block g h.nodes.lt (fun e => (hr _ e.symm).2 rfl)), h.ne, h.le, h.cap⟩
theorem InR.pushAll {N : Nat} : ∀ {ps : List Nat} {σ : Tbl}, InR N σ → (∀ x ∈ ps, x < N) → InR N (pushAll σ ps)
  | [], _, h, _ => h
  | p :: ps, σ, h, hp => InR.pushAll (ps := ps) (h.push p (hp p (by simp))) (fun x hx => hp x (by simp [hx]))
theorem pushAll_snoc (σ : Tbl) (ps : List Nat) (x : Nat) : pushAll σ (ps ++ [x]) = push (pushAll σ ps) x := by simp [pushAll]
theorem ownsRow_cells {w : World} {e : TypeId} {g n cap : Nat} {xs : List Value} (h : w.ownsRow 0 e 1 (.slice (some ⟨g, 0, none⟩) n cap) n xs) (hn : 0 < n) : n ≤ cap ∧ g < w.heap.size ∧ ∀ i, i < n → w.cell? ⟨g, i, none⟩ = xs[i]? := by
 obtain ⟨g', cap', e1, h1, h2, _⟩ := ownsRow_at h hn
 simp only [Value.slice.injEq, Option.some.injEq, Addr.mk.injEq, and_true, true_and] at e1
 obtain ⟨rfl, rfl⟩ := e1
 refine ⟨h1, h2, fun i hi => ?_⟩
 obtain ⟨g', cap', e1, _, _, h3, _⟩ := ownsRow_at h hi
 simp only [Value.slice.injEq, Option.some.injEq, Addr.mk.injEq, and_true, true_and] at e1
 obtain ⟨rfl, rfl⟩ := e1
 exact h3
theorem bks_map (N m : Nat) (P : Nat → Nat) (hP : ∀ i, P i < N) (k : Nat) : (bks N m P hP k).map (fun x => x.1.2) = (List.range k).map (fun k => P (m - 1 - k)) := by simp [bks, bk, Function.comp_def]
theorem range_rev (P : List Nat) : (List.range P.length).map (fun k => P.getD (P.length - 1 - k) 0) = P.reverse := by
 apply List.ext_getElem?
 intro j
 by_cases h : j < P.length
 {
 rw [List.getElem?_map, List.getElem?_range h, List.getElem?_reverse h]
 simp only [Option.map_some, List.getD_eq_getElem?_getD]
 rw [List.getElem?_eq_getElem (show P.length - 1 - j < P.length by omega)]
 rfl
 }
 · rw [List.getElem?_eq_none (by simp; omega), List.getElem?_eq_none (by simp; omega)]
def encI (x : Nat) : Value := .int .i64 x
theorem splay_w {w : World} {pf g N cap : Nat} {σ : Tbl} {ed : Int} (h : LctAt w pf g N cap σ ed) (i : Nat) (hR : InR N σ) (c : List Fm) (f : Bool) (l r : BT) (u : Nat)
    (hrep : Rep σ (plug c (.node f l i r)) u) (hnd : (plug c (.node f l i r)).nodes.Nodup) (hO : Out σ u (plug c (.node f l i r)).nodes) (hlt : ∀ x ∈ (plug c (.node f l i r)).nodes, x < N) :
    Calls Tryz.prog 173 #[.pointer (some ⟨pf, 0, none⟩), .int .i64 i] w fun e w' => e = .returned (.tuple #[]) ∧
      ∃ σ' l' r', LctAt w' pf g N cap σ' ed ∧ Rep σ' (.node false l' i r') u ∧ (BT.node false l' i r').seq = (plug c (.node f l i r)).seq ∧ (BT.node false l' i r').nodes.Perm (plug c (.node f l i r)).nodes ∧ Rotated σ σ' (plug c (.node f l i r)).nodes ∧ InR N σ' ∧ Fr [g] w w' := by
 obtain ⟨hpf, hg⟩ := h.lts
 have hN := h.le
 have HR := Lib.hid hR; clear hR
 have hi0 : i ≠ 0 := (rep_plug.1 hrep).1.1.1
 have hcl := climb hrep hi0 hnd hO
 have hPm : ∀ x ∈ i :: c.map Fm.p, x ∈ (plug c (.node f l i r)).nodes := by {
 intro x hx
 refine (plug_nodes c _).mem_iff.2 ?_
 rcases List.mem_cons.1 hx with rfl | hx
 · simp [BT.nodes]
 {
 rw [List.mem_append]; right
 obtain ⟨a, ha, rfl⟩ := List.mem_map.1 hx
 exact cnodes_p ha
 }
 }
 have hPN : ∀ x ∈ i :: c.map Fm.p, x < N := fun x hx => hlt x (hPm x hx)
 have hPl : (i :: c.map Fm.p).length = c.length + 1 := by simp
 have hway : Way (plug c (.node f l i r)) ((c.map Fm.p).reverse ++ [i]) := way_plug c ⟨rfl, .inl rfl⟩
 have hlen : c.length + 1 ≤ N := by {
 have h1 := nodup_le hnd hlt
 have h2 := (plug_nodes c (.node f l i r)).length_eq
 have h3 := cnodes_len c
 simp only [List.length_append, BT.nodes, List.length_cons] at h2
 omega
 }
 generalize hPP : i :: c.map Fm.p = P at *
 have hP0 : P[0]? = some i := by rw [← hPP]; rfl
 have HPP := Lib.hid hPP; clear hPP
 have HC := Lib.hid hcl; clear hcl
 have HW := Lib.hid hway; clear hway
 have HRep := Lib.hid (And.intro hrep (And.intro hnd hO)); clear hrep hnd hO
 have HPN := Lib.hid hPN; clear hPN
 have HPl := Lib.hid hPl; clear hPl
 refine (callsIn_wide (n := 9)).1 ?_
 refine callsIn_of_wp_marks Tryz.func173 rfl trivial ?_ rfl
 simp only [Tryz.ntmps173, List.size_toArray, List.length_cons, List.length_nil, Nat.reduceAdd, Nat.reduceSub, Array.replicate_succ, Array.replicate_zero, List.push_toArray, List.append_toArray, List.nil_append, List.cons_append]
 refine wpIn_wide.2 ?_
 go_wp2
 go_step3
 go_wp2
 refine wp_label ?_
 go_wp2
 have hL0 : LctAt (w.alloc (.cells #[.pointer (some ⟨pf, 0, none⟩)] 119)) pf g N cap σ ed := h.below ((Below.refl w.heap.size w).alloc (Nat.le_refl _) _) hpf hg
 have hB0 : Below w.heap.size w (w.alloc (.cells #[.pointer (some ⟨pf, 0, none⟩)] 119)) := (Below.refl w.heap.size w).alloc (Nat.le_refl _) _
 have hbox : (w.alloc (.cells #[.pointer (some ⟨pf, 0, none⟩)] 119)).cell? ⟨w.heap.size, 0, none⟩ = some (.pointer (some ⟨pf, 0, none⟩)) := cell_new1 w _ _ _ rfl
 have hsz : (w.alloc (.cells #[.pointer (some ⟨pf, 0, none⟩)] 119)).heap.size = w.heap.size + 1 := by simp
 generalize w.alloc (.cells #[.pointer (some ⟨pf, 0, none⟩)] 119) = W0 at *
 clear h
 go_loopw [4, 5] (fun a b wr => ∃ k x : Nat, k ≤ c.length ∧ Hid (P[k]? = some x) ∧ b = .int .i64 x ∧ wr.ownsRow 0 3 1 a k ((P.take k).map encI) ∧ Below (w.heap.size + 1) W0 wr ∧ ∀ q, a.ownBlock = some q → w.heap.size + 1 ≤ q) (fun a _ _ => c.length + 1 - slLen a)
 case atStart => exact ⟨0, i, Nat.zero_le _, Lib.hid hP0, rfl, World.ownsRow_nil _ _ _ _, Below.refl _ _, fun q e => by cases e⟩
 case round =>
  obtain ⟨k, x, hk, hx, rfl, hown, hB, hq⟩ := hrel
  obtain ⟨a9, c9, rfl⟩ := ownsRow_slice hown
  have hL : LctAt wr pf g N cap σ ed := hL0.below hB (by omega) (by omega)
  have hxN : x < N := HPN.out x (List.mem_of_getElem? hx.out)
  have hS := Lib.hid hB.size
  have hnx : ∀ b : Bool, (sideOf σ x).2 = b → (b = true → ∃ y, P[k + 1]? = some y ∧ (σ x).up = y ∧ k + 1 ≤ c.length) ∧ (b = false → k = c.length) := by {
  intro b hb
  have hkl := HPl.out
  by_cases e : k = c.length
  {
  refine ⟨fun h => ?_, fun _ => e⟩
  have := HC.out.2 x (by show (i :: c.map Fm.p)[c.length]? = _; rw [HPP.out, ← e]; exact hx.out)
  rw [hb, h] at this; cases this
  }
  {
  have hy : P[k + 1]? = some (P[k + 1]'(by omega)) := List.getElem?_eq_getElem _
  have := HC.out.1 k x (P[k + 1]'(by omega)) (by show (i :: c.map Fm.p)[k]? = _; rw [HPP.out]; exact hx.out) (by show (i :: c.map Fm.p)[k + 1]? = _; rw [HPP.out]; exact hy)
  refine ⟨fun _ => ⟨_, hy, this.2, by omega⟩, fun h => ?_⟩
  rw [hb, h] at this; cases this.1
  }
  }
  have Hnx := Lib.hid hnx; clear hnx
  go_wp2_with (at_builtin; refine wpList_app1 rfl _ _ 94 rfl 3 (.int .i64 0) 8 Tryz.underlying94 Tryz.linfo3 rfl (.slice a9 k c9) k _ rfl (hown.alloc _) wr.heap.size (.int .i64 x) rfl (cell_new1 _ _ _ _ rfl) rfl (by omega) (by decide) ?_; intro g' cap' w3 hown3 hgrow3 hg3; have hB3 : Below (w.heap.size + 1) W0 w3 := hB.trans (Fr.of_grown hgrow3 hq (by have := hB.size; omega)); have hb3 := (hB3.cell (p := ⟨w.heap.size, 0, none⟩) (by simp)).trans hbox)
  have hL3 : LctAt w3 pf g N cap σ ed := hL0.below hB3 (by omega) (by omega)
  have hq3 : w.heap.size + 1 ≤ g' := by {
  rcases hg3 with e | e
  · exact hq _ e
  · simp only [World.size_alloc] at e; have := hS.out; omega
  }
  rw [show (P.take k).map encI ++ [Value.int .i64 x] = (P.take (k + 1)).map encI by rw [List.take_add_one, hx.out]; simp [encI]] at hown3
  clear hown hgrow3 hg3 hL hB hS hq
  refine (side_w hL3 x hxN HR.out).mono ?_
  rintro _ w3 ⟨rfl, rfl⟩
  generalize hsd : sideOf σ x = sx at *
  obtain ⟨s0, b⟩ := sx
  have Hn := Lib.hid (Hnx.out b rfl); clear Hnx
  dsimp only
  cases b with
  | false => {
  have hkc := Hn.out.2 rfl
  subst hkc
  clear Hn
  rw [List.take_of_length_le (by rw [HPl.out]; exact Nat.le_refl _)] at hown3
  obtain ⟨hcap, hglt, hcells⟩ := ownsRow_cells hown3 (by omega)
  clear hown3
  go_wp2
  have hB4 : Below (w.heap.size + 1) W0 (w3.alloc (.cells #[.slice (some ⟨g', 0, none⟩) (c.length + 1) cap'] 94)) := hB3.alloc (by have := hB3.size; omega) _
  have hc4 := Blk.new w3 [.slice (some ⟨g', 0, none⟩) (c.length + 1) cap'] 94
  have hr4 : ∀ j, j < c.length + 1 → (w3.alloc (.cells #[.slice (some ⟨g', 0, none⟩) (c.length + 1) cap'] 94)).cell? ⟨g', j, none⟩ = some (.int .i64 (P.getD j 0)) := by {
  intro j hj
  rw [World.cell?_of_block (Below.heap_alloc w3 _ g' hglt), hcells j hj]
  simp only [List.getElem?_map, List.getD_eq_getElem?_getD]
  rw [List.getElem?_eq_getElem (show j < P.length by rw [HPl.out]; omega)]
  rfl
  }
  have hs4 : (w3.alloc (.cells #[.slice (some ⟨g', 0, none⟩) (c.length + 1) cap'] 94)).heap.size = w3.heap.size + 1 := by simp
  generalize w3.alloc (.cells #[.slice (some ⟨g', 0, none⟩) (c.length + 1) cap'] 94) = W1 at *
  have hs3 := hB3.size
  have hL4 : LctAt W1 pf g N cap σ ed := hL0.below hB4 (by omega) (by omega)
  have hb4 := (hB4.cell (p := ⟨w.heap.size, 0, none⟩) (by simp)).trans hbox
  have hPd : ∀ j, P.getD j 0 < N := by {
  intro j
  rw [List.getD_eq_getElem?_getD]
  cases e : P[j]? with
  | none => simp; omega
  | some y => exact HPN.out y (List.mem_of_getElem? e)
  }
  clear hcells hb3 hL3 hx
  refine (wpIn_wide (n := 9)).1 ?_
  refine' wpIn_rangeFunc_ownF (n := 9) rfl (by decide) (α := Pl N) (gf := 222) (lb := #[.pointer (some ⟨w3.heap.size, 0, none⟩)]) rfl trivial (enters_of Tryz.func222 (by kernel_rfl) rfl)
    (encs := fun x => #[.int .i64 x.1.1, .int .i64 x.1.2]) (Kp := Bx W1.heap.size g) (S := fun ys => ys = bks N (c.length + 1) (fun j => P.getD j 0) hPd (c.length + 1)) (Sp := fun _ => True) (N := c.length + 1) (w0 := W1)
    (fun l J Jx W hW _ _ hY h0 => back1_in 8 l w3.heap.size g' (c.length + 1) cap' N g W1.heap.size (fun j => P.getD j 0) hPd hN (by omega) (by decide) (by omega) (by omega) (by omega) (by omega) J Jx hY W ((hW.cell (p := ⟨w3.heap.size, 0, none⟩) (by show w3.heap.size < _; omega)).trans (hc4.cell 0)) hcap (fun j hj => (hW.cell (p := ⟨g', j, none⟩) (by show g' < _; omega)).trans (hr4 j hj)) h0)
    (fun h k => h.trans k) (bxK_b (Nat.le_refl _)) (Below.refl _ _) (fun _ => rfl)
    (fun pre W => (LctAt W pf g N cap (pushAll σ (pre.map (fun x => x.1.2))) ed ∧ W.cell? ⟨w.heap.size, 0, none⟩ = some (.pointer (some ⟨pf, 0, none⟩))) ∧ Bx W1.heap.size g W1 W)
    (fun _ _ _ => False)
    (OwnFrom.and (fun s A B row hs hg hr => ⟨hs.1.grown hg (fun k e => by have := (hr k e).1; omega), (World.cell?_of_block (hg.block w.heap.size (cell_lt (a := ⟨w.heap.size, 0, none⟩) hs.2) (fun e => by have := (hr w.heap.size e.symm).1; omega))).trans hs.2⟩) (ownFrom_bx (Nat.le_refl _) (Nat.le_refl _)))
    (fun c s A B row hs hg hr => hs) ⟨⟨hL4, hb4⟩, Bx.refl _ _ _⟩ _ ?assign ?body ?done ?stop
  case assign =>
   intro l x W K hK
   gi_wp2
   exact hK
  case body =>
   rintro l pre x W ⟨⟨hLp, hbp⟩, hBp⟩ _
   obtain ⟨⟨x1, x2⟩, hx2⟩ := x
   dsimp only at hx2
   gi_wp2_with (refine ⟨trivial, ?_⟩; gi_at_call 201; refine (CallsIn.inRound l (callsIn_wide.2 (push_w hLp x2 hx2 (HR.out.pushAll (fun y hy => by obtain ⟨z, _, rfl⟩ := List.mem_map.1 hy; exact z.2))))).mono ?_; rintro e w' ⟨rfl, hLq, hFq⟩)
   obtain ⟨arr, hga, _⟩ := hLp.nodes
   refine ⟨keepsOthers_fr hFq hga, Bx.of_fr hFq hBp.size, ⟨?_, hFq.cell hbp (by show w.heap.size ∉ [g]; simp; omega)⟩, hBp.trans (Bx.of_fr hFq hBp.size)⟩
   rw [List.map_append, List.map_cons, List.map_nil, pushAll_snoc]
   exact hLq
  case stop =>
   rintro D c pre W hD _ hf hK
   exact hf.elim
  case done =>
   rintro D ys W hD rfl ⟨⟨hLd, hbd⟩, hBd⟩ hK
   rw [bks_map, ← HPl.out, range_rev, show P.reverse = (c.map Fm.p).reverse ++ [i] by rw [← HPP.out]; simp] at hLd
   have hsp : ∃ c' l' r', Spin N σ (pushAll σ ((c.map Fm.p).reverse ++ [i])) u i (plug c (.node f l i r)) c' l' r' := by {
   obtain ⟨c', l', r', a1, a2, a3, a4, a5⟩ := pushAll_rep (c := []) (t := plug c (.node f l i r)) HRep.out.1 HRep.out.2.1 (fun _ h => by cases h) HW.out
   exact ⟨c', l', r', a1, a2, a3, a4, a5, HR.out.pushAll (fun x hx => HPN.out x (by rw [← HPP.out]; simp at hx; simp; rcases hx with h | h; exact .inr h; exact .inl h))⟩
   }
   obtain ⟨c1, l1, r1, hS1⟩ := hsp
   have HS1 := Lib.hid hS1; clear hS1
   generalize pushAll σ ((c.map Fm.p).reverse ++ [i]) = τ1 at *
   have hBw : Bx w.heap.size g w W := (Bx.of_below (hB0.trans (hB4.mono (by omega)))).trans (hBd.mono (by omega))
   clear hc4 hr4 hL4 hb4 hBd hPd hB4 hB3 hglt
   go_wp2
   go_loopg [] (c1.length + 1) (fun k wr => ∃ τ c1 l1 r1, Hid (c1.length < k ∧ Spin N σ τ u i (plug c (.node f l i r)) c1 l1 r1) ∧ LctAt wr pf g N cap τ ed ∧ Bx w.heap.size g w wr ∧ wr.cell? ⟨w.heap.size, 0, none⟩ = some (.pointer (some ⟨pf, 0, none⟩)) ∧ wr.heap[D]? = some (.deferred (some [])))
   case atStart => exact ⟨τ1, c1, l1, r1, Lib.hid ⟨Nat.lt_succ_self _, HS1.out⟩, hLd, hBw, hbd, hK⟩
   case round =>
    clear hLd hbd hBw hK HS1
    obtain ⟨τ, c2, l2, r2, HS, hLr, hBr, hbr, hKr⟩ := hrel
    have hiN : i < N := hlt i ((plug_nodes c _).mem_iff.2 (by simp [BT.nodes]))
    have hi2 : (i : Int) < N := by omega
    have d1 := hLr.hd.cell 1
    simp only [List.getElem?_cons_zero, List.getElem?_cons_succ] at d1
    have hDg : D ≠ g := by omega
    have hwg : w.heap.size ≠ g := by omega
    cases c2 with
    | nil => {
    have hsd : (sideOf τ i).2 = false := (climb HS.out.2.rep hi0 (HS.out.2.nd HRep.out.2.1) (HS.out.2.out HRep.out.2.2)).2 i rfl
    go_wp2_with fail
    refine (side_w hLr i hiN HS.out.2.inR).mono ?_
    rintro _ wx ⟨rfl, rfl⟩
    rw [hsd]
    go_wp2
    rw [Exit.noGoto_ret]
    refine ⟨by simp, .inl ⟨_, _, rfl, run_takeDeferred hKr, ?_⟩⟩
    refine ⟨.tuple #[], results_none rfl _ _ _, rfl, τ, l2, r2, ?_, HS.out.2.rep, HS.out.2.seq, HS.out.2.perm, HS.out.2.rot, HS.out.2.inR, ?_⟩
    · exact hLr.grown (grownBy_putObj' _ D (.deferred none)) (fun k e => by cases e; omega)
    · exact (hBr.grown (grownBy_putObj' _ D (.deferred none)) hBr.size (fun k e => by cases e; omega)).fr
    }
    | cons a c3 => {
    obtain ⟨hs1, hu1⟩ := side_frame HS.out.2.rep hi0 (HS.out.2.nd HRep.out.2.1)
    change sideOf τ i = _ at hs1
    change (τ i).up = _ at hu1
    have hpN : a.p < N := hu1 ▸ (HS.out.2.inR i hiN).2.2.1
    have hp2 : (a.p : Int) < N := by omega
    have hp0 : a.p ≠ 0 := (rep_plug.1 HS.out.2.rep).2.1.1
    have a2 := hLr.nodes.c2 i hiN
    rw [hu1] at a2
    have S1 := Lib.hid (side_w hLr i hiN HS.out.2.inR)
    rw [hs1] at S1
    have S2 := Lib.hid (side_w hLr a.p hpN HS.out.2.inR)
    clear hs1 hu1
    cases c3 with
    | nil => {
    have hsd : (sideOf τ a.p).2 = false := (climb HS.out.2.rep hi0 (HS.out.2.nd HRep.out.2.1) (HS.out.2.out HRep.out.2.2)).2 a.p rfl
    rw [hsd] at S2
    have HZ := Lib.hid (HS.out.2.zig HRep.out.2.1 HRep.out.2.2 hiN)
    clear hsd
    go_wp2_with fail
    refine S1.out.mono ?_
    rintro _ wx ⟨rfl, rfl⟩
    go_wp2_with fail
    refine S2.out.mono ?_
    rintro _ wx ⟨rfl, rfl⟩
    go_wp2_with fail
    refine (rotate_w hLr i hiN HS.out.2.inR HZ.out.1.1 HZ.out.1.2.1 HZ.out.1.2.2.1 HZ.out.1.2.2.2).mono ?_
    rintro _ wy ⟨rfl, hLy, hFy⟩
    go_wp2
    obtain ⟨hz, l3, r3, hS3⟩ := HZ.out
    go_roundg 1
    case measure => have := HS.out.1; simp at this; omega
    case rel => exact ⟨_, [], l3, r3, Lib.hid ⟨by simp, hS3⟩, hLy, hBr.trans (Bx.of_fr hFy hBr.size), hFy.cell hbr (by simpa using hwg), (hFy.keep D (Array.getElem?_eq_some_iff.1 hKr).1 (by simpa using hDg)).trans hKr⟩
    }
    | cons b c4 => {
    obtain ⟨hs1, _⟩ := side_frame (c := c4) (a := b) (t := a.fill (.node false l2 i r2)) HS.out.2.rep (by rw [fill_root]; exact hp0) (HS.out.2.nd HRep.out.2.1)
    rw [fill_root] at hs1
    rw [hs1] at S2
    clear hs1
    by_cases hab : a.s = b.s
    {
    have hb : ((sd a.s : Int) == (sd b.s : Int)) = true := by rw [hab]; exact beq_self_eq_true _
    obtain ⟨z1, a', z2⟩ := HS.out.2.zigp hab HRep.out.2.1 HRep.out.2.2 hpN
    obtain ⟨z3, z4⟩ := z2.zig HRep.out.2.1 HRep.out.2.2 hiN
    have HZ1 := Lib.hid z1; clear z1
    have HZ2 := Lib.hid z2; clear z2
    have HZ3 := Lib.hid z3; clear z3
    have HZ4 := Lib.hid z4; clear z4
    clear hab
    go_wp2_with fail
    refine S1.out.mono ?_
    rintro _ wx ⟨rfl, rfl⟩
    go_wp2_with fail
    refine S2.out.mono ?_
    rintro _ wx ⟨rfl, rfl⟩
    go_wp2_with fail
    refine (rotate_w hLr a.p hpN HS.out.2.inR HZ1.out.1 HZ1.out.2.1 HZ1.out.2.2.1 HZ1.out.2.2.2).mono ?_
    rintro _ wy ⟨rfl, hLy, hFy⟩
    have hby := hFy.cell hbr (by simpa using hwg)
    go_wp2_with fail
    refine (rotate_w hLy i hiN HZ2.out.inR HZ3.out.1 HZ3.out.2.1 HZ3.out.2.2.1 HZ3.out.2.2.2).mono ?_
    rintro _ wz ⟨rfl, hLz, hFz⟩
    go_wp2
    obtain ⟨l3, r3, hS3⟩ := HZ4.out
    go_roundg (c4.length + 1)
    case measure => have := HS.out.1; simp at this; omega
    case rel =>
     have hF2 := hFy.then hFz
     exact ⟨_, c4, l3, r3, Lib.hid ⟨by simp, hS3⟩, hLz, hBr.trans (Bx.of_fr hF2 hBr.size), hF2.cell hbr (by simpa using hwg), (hF2.keep D (Array.getElem?_eq_some_iff.1 hKr).1 (by simpa using hDg)).trans hKr⟩
    }
    {
    have hb : ((sd a.s : Int) == (sd b.s : Int)) = false := by cases h1 : a.s <;> cases h2 : b.s <;> simp_all [sd]
    obtain ⟨z1, l5, r5, z2⟩ := HS.out.2.zig HRep.out.2.1 HRep.out.2.2 hiN
    obtain ⟨z3, z4⟩ := z2.zig HRep.out.2.1 HRep.out.2.2 hiN
    have HZ1 := Lib.hid z1; clear z1
    have HZ2 := Lib.hid z2; clear z2
    have HZ3 := Lib.hid z3; clear z3
    have HZ4 := Lib.hid z4; clear z4
    clear hab
    go_wp2_with fail
    refine S1.out.mono ?_
    rintro _ wx ⟨rfl, rfl⟩
    go_wp2_with fail
    refine S2.out.mono ?_
    rintro _ wx ⟨rfl, rfl⟩
    go_wp2_with fail
    refine (rotate_w hLr i hiN HS.out.2.inR HZ1.out.1 HZ1.out.2.1 HZ1.out.2.2.1 HZ1.out.2.2.2).mono ?_
    rintro _ wy ⟨rfl, hLy, hFy⟩
    have hby := hFy.cell hbr (by simpa using hwg)
    go_wp2_with fail
    refine (rotate_w hLy i hiN HZ2.out.inR HZ3.out.1 HZ3.out.2.1 HZ3.out.2.2.1 HZ3.out.2.2.2).mono ?_
    rintro _ wz ⟨rfl, hLz, hFz⟩
    go_wp2
    obtain ⟨l3, r3, hS3⟩ := HZ4.out
    go_roundg (c4.length + 1)
    case measure => have := HS.out.1; simp at this; omega
    case rel =>
     have hF2 := hFy.then hFz
     exact ⟨_, c4, l3, r3, Lib.hid ⟨by simp, hS3⟩, hLz, hBr.trans (Bx.of_fr hF2 hBr.size), hF2.cell hbr (by simpa using hwg), (hF2.keep D (Array.getElem?_eq_some_iff.1 hKr).1 (by simpa using hDg)).trans hKr⟩
    }
    }
    }
  }
  | true => {
  obtain ⟨y, hy1, hy2, hy3⟩ := Hn.out.1 rfl
  have a2 := hL3.nodes.c2 x hxN
  rw [hy2] at a2
  have d1 := hL3.hd.cell 1
  simp only [List.getElem?_cons_zero, List.getElem?_cons_succ] at d1
  have hx2 : (x : Int) < N := by omega
  go_wp2
  go_roundw
  case rel => exact ⟨k + 1, y, hy3, Lib.hid hy1, rfl, hown3, hB3, fun q e => by cases e; exact hq3⟩
  case measure => simp [slLen]; omega
  }
end Go.Proofs.YtgmnemndjjmgkaaGreat
namespace Go.Proofs.YtgmnemndjjmgkaaGreat
open Go.RowKit
set_option maxRecDepth 10000
set_option maxHeartbeats 800000
theorem splay_f {w : World} {pf g N cap : Nat} {σ : Tbl} {ed : Int} (h : LctAt w pf g N cap σ ed) {par d rt : Nat → Nat} {t : BT} {u : Nat} {R : Fst} (hF : LF N σ ((t, u) :: R) par d rt) (i : Nat) (hi : i ∈ t.nodes) :
    Calls Tryz.prog 173 #[.pointer (some ⟨pf, 0, none⟩), .int .i64 i] w fun e w' => e = .returned (.tuple #[]) ∧
      ∃ σ' l' r', LctAt w' pf g N cap σ' ed ∧ Rep σ' (.node false l' i r') u ∧ (BT.node false l' i r').seq = t.seq ∧ (BT.node false l' i r').nodes.Perm t.nodes ∧ Rotated σ σ' t.nodes ∧ InR N σ' ∧ Fr [g] w w' := by
 obtain ⟨c, f, l, r, rfl⟩ := zip_ex hi
 have hnd := hF.nd
 rw [fnodes_cons, List.nodup_append] at hnd
 exact splay_w h i hF.inR c f l r u (hF.rep (plug c (.node f l i r), u) (by simp)) hnd.1 hF.outs (fun x hx => (hF.lt (p := (plug c (.node f l i r), u)) (by simp) hx).2)
theorem expose_w {w : World} {pf g N cap : Nat} {σ : Tbl} {ed : Int} (h : LctAt w pf g N cap σ ed) {par d rt : Nat → Nat} {F : Fst} (hF : LF N σ F par d rt) (i : Nat) (hi0 : 0 < i) (hi : i < N) :
    Calls Tryz.prog 134 #[.pointer (some ⟨pf, 0, none⟩), .int .i64 i] w fun e w' => ∃ m τ l R, e = .returned (.int .i64 (m : Nat)) ∧ LctAt w' pf g N cap τ ed ∧ Exposed N σ F par d rt i m τ l R ∧ Fr [g] w w' := by
 have hN := h.le
 have HX := Lib.hid (XI.start hF hi hi0)
 clear hF
 go_enter Tryz.func134, Tryz.ntmps134
 go_wp2
 go_loopg [5, 6] (d i + 1) (fun k a b wr => ∃ (τ : Tbl) (B : BT) (j : Nat) (R : Fst), a = .int .i64 B.root ∧ b = .int .i64 j ∧ LctAt wr pf g N cap τ ed ∧ Fr [g] w wr ∧ Hid (XI N σ F par d rt i τ B j R) ∧ (j ≠ 0 → d j < k))
 case atStart => exact ⟨σ, .nil, i, F, rfl, rfl, h, Fr.refl _ _, HX, fun _ => Nat.lt_succ_self _⟩
 case round =>
  clear h HX
  obtain ⟨τ, B, j, R, rfl, rfl, hL, hFr, HX, hk⟩ := hrel
  by_cases hj : j = 0
  {
  subst hj
  obtain ⟨hiB, _⟩ := HX.out.done (by omega)
  go_wp2_with fail
  refine (splay_f hL HX.out.lf i hiB).mono ?_
  rintro _ w2 ⟨rfl, τ2, l2, r2, hL2, q1, q2, q3, q4, q5, hF2⟩
  have HE := Lib.hid (HX.out.exposed (by omega) q1 q2 q3 q4)
  clear q1 q2 q3 q4 q5
  go_wp2
  go_ret
  exact ⟨B.root, τ2, l2, R, rfl, hL2, HE.out, hFr.then hF2⟩
  }
  {
  obtain ⟨t, u, R2, hR2, hjt⟩ := HX.out.split hj
  have HR2 := Lib.hid hR2; clear hR2
  have hb0 : ((j : Int) == 0) = false := beq_eq_false_iff_ne.2 (by omega)
  have hjN : j < N := HX.out.lf.up (B, j) (by simp)
  have hj2 : (j : Int) < N := by omega
  have hbN : B.root < N := by {
  by_cases e : B.root = 0
  · rw [e]; omega
  · exact (HX.out.lf.lt (p := (B, j)) (by simp) (BT.root_mem e)).2
  }
  have hb2 : (B.root : Int) < N := by omega
  have Hk := Lib.hid hk; clear hk
  have Hj := Lib.hid hj; clear hj
  go_wp2_with fail
  refine (splay_f hL (HX.out.lf2 HR2.out) j hjt).mono ?_
  rintro _ w2 ⟨rfl, τ2, l2, r2, hL2, q1, q2, q3, q4, q5, hF2⟩
  have HE := Lib.hid (HX.out.next Hj.out HR2.out hjt q1 q2 q3 q4)
  have HI := Lib.hid q5
  have hk1 := (q5 j hjN).2.1
  have hk1' : ((τ2 j).k1 : Int) < N := by omega
  clear q1 q2 q3 q4 q5
  have a7 := hL2.nodes.c7 j hjN
  have a1 := hL2.nodes.c1 j hjN
  have a8 := hL2.nodes.c8 (τ2 j).k1 hk1
  have b8 := hL2.nodes.c8 B.root hbN
  have d1 := hL2.hd.cell 1
  simp only [List.getElem?_cons_zero, List.getElem?_cons_succ] at d1
  have hfz := hL2.nodes.frozen
  generalize hbr : B.root = br at *
  have Hbr := Lib.hid hbr; clear hbr
  go_wp2
  refine region_one 28 (fun w' => LctAt w' pf g N cap (xst1 τ2 j br) ed ∧ Fr [g] w2 w') (by kernel_rfl) (by kernel_rfl) (by kernel_rfl) ?_
  iterate 28 (refine gWalk_pre (by decide) (fun K hK => ?_); go_simp; refine hK _ ?_; clear hK K)
  refine gWalk_write rfl undef (fun w' hw' => ?_) ?_
  {
  obtain ⟨nq, rfl⟩ := hw'
  go_simp
  rw [iw64, iw64]
  exact (hL2.eqv (Eqv.drewN w2 nq)).st7 ((Fr.refl [g] w2).drewN nq) hjN _
  }
  refine gWalk_nil ?_
  rintro w3 ⟨hL3, hF3⟩
  clear a7 a1 a8 b8 d1 hfz
  have hk3 := hL3.nodes.c1 j hjN
  have hfz3 := hL3.nodes.frozen
  obtain ⟨hL4, hF4⟩ := hL3.st1 (Fr.refl [g] w3) hjN br
  have HL4 := Lib.hid (show LctAt (w3.setCell ⟨g, j * 9 + 1, none⟩ (.int .i64 br)) pf g N cap (xst2 τ2 j br) ed from hL4)
  clear hL4
  go_wp2_with fail
  refine (refresh_w HL4.out j hjN HE.out.2.1.2.2.2 HE.out.2.1.2.1 HE.out.2.1.2.2.1).mono ?_
  rintro _ w5 ⟨rfl, hL5, hF5⟩
  change LctAt w5 pf g N cap (xstep τ2 j br) ed at hL5
  have e2 := hL5.nodes.c2 j hjN
  rw [HE.out.2.2.2] at e2
  have d5 := hL5.hd.cell 1
  simp only [List.getElem?_cons_zero, List.getElem?_cons_succ] at d5
  clear hfz3 hk3 HL4
  go_wp2
  go_roundg (if u = 0 then 0 else d u + 1)
  case measure =>
   have := Hk.out Hj.out
   by_cases e : u = 0
   · rw [if_pos e]; omega
   · rw [if_neg e]; have := HE.out.2.2.1 e; omega
  case rel => refine ⟨_, _, u, _, rfl, rfl, hL5, hFr.then (hF2.then (hF3.then (hF4.then hF5))), Lib.hid HE.out.1, fun e => by rw [if_neg e]; exact Nat.lt_succ_self _⟩
  }
theorem lead_w {w : World} {pf g N cap : Nat} {σ : Tbl} {ed : Int} (h : LctAt w pf g N cap σ ed) {par d rt : Nat → Nat} {F : Fst} (hF : LF N σ F par d rt) (i : Nat) (hi0 : 0 < i) (hi : i < N) :
    Calls Tryz.prog 172 #[.pointer (some ⟨pf, 0, none⟩), .int .i64 i] w fun e w' => e = .returned (.tuple #[]) ∧ ∃ τ l R par' d' rt', LctAt w' pf g N cap τ ed ∧ LF N τ ((.node true l i .nil, 0) :: R) par' d' rt' ∧ (∀ x, (τ x).key = (σ x).key) ∧
      (∀ x y, Adj par' x y ↔ Adj par x y) ∧ (∀ x y, rt' x = rt' y ↔ rt x = rt y) ∧ rt' i = i ∧ Fr [g] w w' := by
 have hN := h.le
 have hi2 : (i : Int) < N := by omega
 go_enter Tryz.func172, Tryz.ntmps172
 go_wp2_with fail
 refine (expose_w h hF i hi0 hi).mono ?_
 rintro _ w2 ⟨m, τ, l, R, rfl, hL2, hE, hF2⟩
 obtain ⟨par', d', rt', q1, q2, q3, q4, q5⟩ := hE.lf.lead
 have HE := Lib.hid hE.key
 have Q := Lib.hid (And.intro q1 (And.intro q2 (And.intro q3 q4)))
 clear q1 q2 q3 q4 q5 hE h hF
 have d1 := hL2.hd.cell 1
 simp only [List.getElem?_cons_zero, List.getElem?_cons_succ] at d1
 have a3 := hL2.nodes.c3 i hi
 have hfz := hL2.nodes.frozen
 obtain ⟨hL3, hF3⟩ := hL2.st3 hF2 hi true
 go_wp2
 go_end0
 refine ⟨rfl, _, l, R, par', d', rt', hL3, Q.out.1, fun x => ?_, Q.out.2.1, Q.out.2.2.1, Q.out.2.2.2, hF3⟩
 rw [← HE.out x]
 by_cases e : x = i
 · subst e; rw [upd_same]
 · rw [upd_other e]
structure Pathed (N : Nat) (σ : Tbl) (par rt : Nat → Nat) (i j : Nat) (τ : Tbl) (l : BT) (R : Fst) (par' d' rt' : Nat → Nat) : Prop where
  lf : LF N τ ((.node false l j .nil, 0) :: R) par' d' rt'
  key : ∀ x, (τ x).key = (σ x).key
  adj : ∀ x y, Adj par' x y ↔ Adj par x y
  rts : ∀ x y, rt' x = rt' y ↔ rt x = rt y
  rti : rt' i = i
  path : rt i = rt j → IsPath (Adj par) i j (l.seq ++ [j])
theorem path_w {w : World} {pf g N cap : Nat} {σ : Tbl} {ed : Int} (h : LctAt w pf g N cap σ ed) {par d rt : Nat → Nat} {F : Fst} (hF : LF N σ F par d rt) (i j : Nat) (hi0 : 0 < i) (hi : i < N) (hj0 : 0 < j) (hj : j < N) :
    Calls Tryz.prog 132 #[.pointer (some ⟨pf, 0, none⟩), .int .i64 i, .int .i64 j] w fun e w' => e = .returned (.tuple #[]) ∧ ∃ τ l R par' d' rt', LctAt w' pf g N cap τ ed ∧ Pathed N σ par rt i j τ l R par' d' rt' ∧ Fr [g] w w' := by
 go_enter Tryz.func132, Tryz.ntmps132
 go_wp2_with fail
 refine (lead_w h hF i hi0 hi).mono ?_
 rintro _ w2 ⟨rfl, τ, l, R, par', d', rt', hL2, hF', hkey, hadj, hrt, hri, hFr2⟩
 have HF' := Lib.hid hF'; clear hF'
 have Q := Lib.hid (And.intro hkey (And.intro hadj (And.intro hrt hri)))
 clear hkey hadj hrt hri h hF
 go_wp2_with fail
 refine (expose_w hL2 HF'.out j hj0 hj).mono ?_
 rintro _ w3 ⟨m, τ3, l3, R3, rfl, hL3, hE, hFr3⟩
 have HE := Lib.hid hE; clear hE
 go_wp2
 go_end0
 obtain ⟨hkey, hadj, hrt, hri⟩ := Q.out
 have hE := HE.out
 refine ⟨rfl, τ3, l3, R3, par', d', rt', hL3, ⟨hE.lf, fun x => (hE.key x).trans (hkey x), hadj, hrt, hri, fun e => ?_⟩, hFr2.then hFr3⟩
 obtain ⟨hn, hz, hc⟩ := hE.lf.top_seq
 have hjm : j ∈ l3.seq ++ [j] := by simp
 have hl : (l3.seq ++ [j]).getLast? = some j := last_snoc _ _
 generalize l3.seq ++ [j] = s at *
 cases s with
 | nil => cases hjm
 | cons y s => {
 have hy : y = i := by rw [← ch_rt_head hE.lf.rt0 hE.lf.rt1 hc hz j hjm, (hrt j i).2 e.symm, hri]
 subst hy
 have : IsPath (Adj par') y j (y :: s) := ⟨s, rfl, ch_wk (hz y (by simp)) (fun x hx => hz x (by simp [hx])) hc.2, hn, hl⟩
 exact this.mono (fun x y => (hadj x y).1)
 }
def LG (w : World) (pf g n : Nat) (E : Nat → Nat → Prop) (key : Nat → Int) (ed : Int) : Prop :=
  ∃ cap σ F par d rt, LctAt w pf g (n + 1) cap σ ed ∧ LF (n + 1) σ F par d rt ∧ (∀ v u, E v u ↔ Adj par (v + 1) (u + 1)) ∧ ∀ v, v < n → (σ (v + 1)).key = key v
theorem LG.frs {w : World} {pf g n : Nat} {E : Nat → Nat → Prop} {key : Nat → Int} {ed : Int} (h : LG w pf g n E key ed) : Frs E := by
 obtain ⟨cap, σ, F, par, d, rt, _, h2, h3, _⟩ := h
 exact ⟨par, d, rt, h2.rtd, h3⟩
theorem LG.lts {w : World} {pf g n : Nat} {E : Nat → Nat → Prop} {key : Nat → Int} {ed : Int} (h : LG w pf g n E key ed) : pf < w.heap.size ∧ g < w.heap.size ∧ n ≤ 65536 := by
 obtain ⟨cap, σ, F, par, d, rt, h1, _⟩ := h
 have := h1.le
 exact ⟨h1.lts.1, h1.lts.2, by omega⟩
theorem LG.fr {w w' : World} {pf g n : Nat} {E : Nat → Nat → Prop} {key : Nat → Int} {ed : Int} {S : List Nat} (h : LG w pf g n E key ed) (hf : Fr S w w') (hp : pf ∉ S) (hg : g ∉ S) : LG w' pf g n E key ed := by
 obtain ⟨cap, σ, F, par, d, rt, h1, h2⟩ := h
 exact ⟨cap, σ, F, par, d, rt, ⟨hf.blk h1.hd hp, h1.nodes.same (hf.keep g h1.nodes.lt hg), h1.ne, h1.le, h1.cap⟩, h2⟩
@[go_sem] theorem eq_lct (a : Addr) (w : World) : (binOp .eql 119 (.pointer (some a)) (.pointer (some a))).run Tryz.prog w = .ok (.bool true) w := by
 obtain ⟨j, hj⟩ := Option.isSome_iff_exists.1 (show (Tryz.prog.info? 194).isSome = true by kernel_rfl)
 exact run_eql_ptr_same w a Tryz.underlying119 hj
theorem valid_w {w : World} {pf : Nat} (hc : w.cell? ⟨pf, 0, none⟩ = some (.pointer (some ⟨pf, 0, none⟩))) :
    Calls Tryz.prog 152 #[.pointer (some ⟨pf, 0, none⟩)] w fun e w' => e = .returned (.bool true) ∧ w' = w := by
 go_enter Tryz.func152, Tryz.ntmps152
 go_wp2
 go_ret
 exact ⟨rfl, rfl⟩
def inV (n : Nat) (v : Int) : Bool := decide (0 ≤ v) && decide (v < n)
theorem has_w {w : World} {pf g n cap : Nat} {σ : Tbl} {ed : Int} (h : LctAt w pf g (n + 1) cap σ ed) (v : Int) :
    Calls Tryz.prog 133 #[.pointer (some ⟨pf, 0, none⟩), .int .i64 v] w fun e w' => e = .returned (.bool (inV n v)) ∧ w' = w := by
 have c0 := h.hd.cell 0
 have c1 := h.hd.cell 1
 have hN := h.le
 simp only [List.getElem?_cons_zero, List.getElem?_cons_succ] at c0 c1
 have hV := Lib.hid (valid_w c0)
 by_cases h1 : 0 ≤ v
 {
 by_cases h2 : v < n
 {
 have e : inV n v = true := by simp [inV, h1, h2]
 rw [e]; clear e
 go_enter Tryz.func133, Tryz.ntmps133
 go_wp2_with (go_at_call 152; refine hV.out.mono ?_; rintro e w' ⟨rfl, rfl⟩)
 go_ret
 exact ⟨rfl, rfl⟩
 }
 {
 have e : inV n v = false := by simp [inV, h2]
 rw [e]; clear e
 have d2 : decide (v < (n : Int)) = false := decide_eq_false h2
 go_enter Tryz.func133, Tryz.ntmps133
 go_wp2_with (go_at_call 152; refine hV.out.mono ?_; rintro e w' ⟨rfl, rfl⟩)
 go_ret
 exact ⟨rfl, rfl⟩
 }
 }
 {
 have e : inV n v = false := by simp [inV, h1]
 rw [e]; clear e
 go_enter Tryz.func133, Tryz.ntmps133
 go_wp2_with (go_at_call 152; refine hV.out.mono ?_; rintro e w' ⟨rfl, rfl⟩)
 go_ret
 exact ⟨rfl, rfl⟩
 }
theorem inV_nat {n : Nat} {v : Int} (h : inV n v = true) : ∃ k : Nat, v = k ∧ k < n := by
 simp only [inV, Bool.and_eq_true, decide_eq_true_eq] at h
 exact ⟨v.toNat, by omega, by omega⟩
def ConnI (n : Nat) (E : Nat → Nat → Prop) (a b : Int) : Prop := inV n a = true ∧ inV n b = true ∧ Conn E a.toNat b.toNat
theorem top_up {N : Nat} {σ : Tbl} {F : Fst} {par d rt : Nat → Nat} (h : LF N σ F par d rt) {t : BT} {b : Nat} (hm : (t, 0) ∈ F) (hb : t.root = b) (hb0 : b ≠ 0) {a : Nat} (ha : 0 < a) (haN : a < N) (hne : a ≠ b) (hr : rt a = rt b) : (σ a).up ≠ 0 := by
 intro e0
 obtain ⟨p, hp, hap⟩ := mem_fnodes.1 ((h.mem a).2 ⟨ha, haN⟩)
 have hk := (h.rep p hp).kids hap
 have hbt : b ∈ t.nodes := hb ▸ BT.root_mem (by rw [hb]; exact hb0)
 by_cases hpt : b ∈ p.1.nodes
 {
 -- the same tree: a is no root
 rcases hk.2.2.1 with e | e
 {
 obtain ⟨R, hR⟩ := mem_split_perm hm
 have h' := h.perm hR
 have hp' := hR.mem_iff.1 hp
 rcases List.mem_cons.1 hp' with e2 | e2
 · rw [e2] at e; exact hne (e.trans hb)
 · exact h'.disj e2 b hbt hpt
 }
 · rw [e0] at e; have := (h.lt hp e).1; omega
 }
 {
 rcases hk.2.2.1 with e | e
 {
 have hu : p.2 = 0 := (hk.2.2.2.1 e).symm.trans e0
 have c1 := h.ch _ hm
 have c2 := h.ch _ hp
 rw [hu] at c2
 have z1 := h.seq0 hm
 have z2 := h.seq0 hp
 have sx := seq_mem.2 hbt
 have sy := seq_mem.2 hap
 dsimp only at c1 z1
 cases hs1 : t.seq with
 | nil => rw [hs1] at sx; cases sx
 | cons x s1 => {
 cases hs2 : p.1.seq with
 | nil => rw [hs2] at sy; cases sy
 | cons y s2 => {
 have mx : x ∈ t.nodes := seq_mem.1 (by rw [hs1]; simp)
 have my : y ∈ p.1.nodes := seq_mem.1 (by rw [hs2]; simp)
 rw [hs1] at c1 z1 sx; rw [hs2] at c2 z2 sy
 have ra := ch_rt_head h.rt0 h.rt1 c1 z1 b sx
 have rb := ch_rt_head h.rt0 h.rt1 c2 z2 a sy
 have hxy : x = y := by rw [← ra, ← hr, rb]
 obtain ⟨R, hR⟩ := mem_split_perm hm
 have h' := h.perm hR
 rcases List.mem_cons.1 (hR.mem_iff.1 hp) with e2 | e2
 · rw [e2] at hpt; exact hpt hbt
 · exact h'.disj e2 x mx (hxy ▸ my)
 }
 }
 }
 · rw [e0] at e; have := (h.lt hp e).1; omega
 }
theorem expose_v {w : World} {pf g n cap : Nat} {σ : Tbl} {ed : Int} (h : LctAt w pf g (n + 1) cap σ ed) {par d rt : Nat → Nat} {F : Fst} (hF : LF (n + 1) σ F par d rt) (v : Nat) (hv : v < n) :
    Calls Tryz.prog 134 #[.pointer (some ⟨pf, 0, none⟩), .int .i64 ((v : Int) + 1)] w fun e w' => ∃ m τ l R, e = .returned (.int .i64 (m : Nat)) ∧ LctAt w' pf g (n + 1) cap τ ed ∧ Exposed (n + 1) σ F par d rt (v + 1) m τ l R ∧ Fr [g] w w' :=
  expose_w h hF (v + 1) (by omega) (by omega)
theorem connected_w {w : World} {pf g n : Nat} {E : Nat → Nat → Prop} {key : Nat → Int} {ed : Int} (h : LG w pf g n E key ed) (a b : Int) :
    Calls Tryz.prog 83 #[.pointer (some ⟨pf, 0, none⟩), .int .i64 a, .int .i64 b] w fun e w' => ∃ r : Bool, e = .returned (.bool r) ∧ (r = true ↔ ConnI n E a b) ∧ LG w' pf g n E key ed ∧ Fr [g] w w' := by
 have H := Lib.hid h
 obtain ⟨cap, σ, F, par, d, rt, hL, hF, hE, hk⟩ := h
 have HF := Lib.hid hF; clear hF
 have HE := Lib.hid hE; clear hE
 have HK := Lib.hid hk; clear hk
 have hN := hL.le
 cases hva : inV n a with
 | false => {
 have HR := Lib.hid (show ¬ ConnI n E a b from fun e => by rw [e.1] at hva; cases hva)
 have A1 := has_w hL a
 rw [hva] at A1
 have HA := Lib.hid A1; clear A1 hva
 go_enter Tryz.func83, Tryz.ntmps83
 go_wp2_with fail
 refine HA.out.mono ?_
 rintro _ w ⟨rfl, rfl⟩
 go_wp2
 go_ret
 exact ⟨false, rfl, by simp [HR.out], H.out, Fr.refl _ _⟩
 }
 | true => {
 have A1 := has_w hL a
 rw [hva] at A1
 have HA := Lib.hid A1; clear A1
 cases hvb : inV n b with
 | false => {
 have HR := Lib.hid (show ¬ ConnI n E a b from fun e => by rw [e.2.1] at hvb; cases hvb)
 have B1 := has_w hL b
 rw [hvb] at B1
 have HB := Lib.hid B1; clear B1 hva hvb
 go_enter Tryz.func83, Tryz.ntmps83
 go_wp2_with fail
 refine HA.out.mono ?_
 rintro _ w ⟨rfl, rfl⟩
 go_wp2_with fail
 refine HB.out.mono ?_
 rintro _ w ⟨rfl, rfl⟩
 go_wp2
 go_ret
 exact ⟨false, rfl, by simp [HR.out], H.out, Fr.refl _ _⟩
 }
 | true => {
 have B1 := has_w hL b
 rw [hvb] at B1
 have HB := Lib.hid B1; clear B1
 obtain ⟨v, rfl, hv⟩ := inV_nat hva
 obtain ⟨u, rfl, hu⟩ := inV_nat hvb
 have HC := Lib.hid (show ConnI n E v u ↔ Conn E v u from ⟨fun e => e.2.2, fun e => ⟨hva, hvb, e⟩⟩)
 clear hva hvb
 by_cases hvu : v = u
 {
 subst hvu
 go_enter Tryz.func83, Tryz.ntmps83
 go_wp2_with fail
 refine HA.out.mono ?_
 rintro _ w ⟨rfl, rfl⟩
 go_wp2_with fail
 refine HB.out.mono ?_
 rintro _ w ⟨rfl, rfl⟩
 go_wp2
 go_ret
 refine ⟨true, rfl, ?_, H.out, Fr.refl _ _⟩
 simp only [true_iff]; exact HC.out.2 (Conn.refl E v)
 }
 {
 have hb : ((v : Int) == (u : Int)) = false := beq_eq_false_iff_ne.2 (by omega)
 have Hne := Lib.hid hvu; clear hvu
 go_enter Tryz.func83, Tryz.ntmps83
 go_wp2_with fail
 refine HA.out.mono ?_
 rintro _ w ⟨rfl, rfl⟩
 go_wp2_with fail
 refine HB.out.mono ?_
 rintro _ w ⟨rfl, rfl⟩
 go_wp2_with fail
 refine (expose_v hL HF.out v (by omega)).mono ?_
 rintro _ w2 ⟨m1, τ1, l1, R1, rfl, hL1, hE1, hF1⟩
 have HE1 := Lib.hid hE1; clear hE1
 go_wp2_with fail
 refine (expose_v hL1 HE1.out.lf u (by omega)).mono ?_
 rintro _ w3 ⟨m2, τ2, l2, R2, rfl, hL2, hE2, hF2⟩
 have HE2 := Lib.hid hE2; clear hE2
 have a2 := hL2.nodes.c2 (v + 1) (by omega)
 have d1 := hL2.hd.cell 1
 simp only [List.getElem?_cons_zero, List.getElem?_cons_succ] at d1
 have hv2 : ((v + 1 : Nat) : Int) < ((n + 1 : Nat) : Int) := by omega
 have hres : ((τ2 (v + 1)).up ≠ 0) ↔ Conn E v u := by {
 rw [conn_rt HF.out.rtd HE.out]
 constructor
 {
 intro e
 apply Classical.byContradiction
 intro hc
 have h1 := HE2.out.frame (v + 1) hc
 rw [h1, (HE1.out.lf.rep _ (List.mem_cons_self)).1.2.1] at e
 exact e rfl
 }
 {
 intro e
 exact top_up HE2.out.lf (List.mem_cons_self) rfl (by simp [BT.root]) (by omega) (by omega) (by simp only [BT.root]; have := Hne.out; omega) e
 }
 }
 have Hres := Lib.hid hres; clear hres
 have hFr : Fr [g] w w3 := hF1.then hF2
 have hLG : LG w3 pf g n E key ed := ⟨cap, τ2, _, par, d, rt, hL2, HE2.out.lf, HE.out, fun x hx => by rw [HE2.out.key, HE1.out.key]; exact HK.out x hx⟩
 have HLG := Lib.hid hLG; clear hLG
 by_cases hup : (τ2 (v + 1)).up = 0
 {
 rw [hup] at a2
 have Hup := Lib.hid hup; clear hup
 go_wp2
 go_ret
 exact ⟨false, rfl, by simp only [Bool.false_eq_true, false_iff]; exact fun e => Hres.out.2 (HC.out.1 e) Hup.out, HLG.out, hFr⟩
 }
 {
 have hb0 : (((τ2 (v + 1)).up : Int) != 0) = true := bne_iff_ne.2 (by omega)
 have Hup := Lib.hid hup; clear hup
 go_wp2
 go_ret
 exact ⟨true, rfl, by simp only [true_iff]; exact HC.out.2 (Hres.out.1 Hup.out), HLG.out, hFr⟩
 }
 }
 }
 }
theorem path_v {w : World} {pf g n cap : Nat} {σ : Tbl} {ed : Int} (h : LctAt w pf g (n + 1) cap σ ed) {par d rt : Nat → Nat} {F : Fst} (hF : LF (n + 1) σ F par d rt) (v u : Nat) (hv : v < n) (hu : u < n) :
    Calls Tryz.prog 132 #[.pointer (some ⟨pf, 0, none⟩), .int .i64 ((v : Int) + 1), .int .i64 ((u : Int) + 1)] w fun e w' => e = .returned (.tuple #[]) ∧ ∃ τ l R par' d' rt', LctAt w' pf g (n + 1) cap τ ed ∧ Pathed (n + 1) σ par rt (v + 1) (u + 1) τ l R par' d' rt' ∧ Fr [g] w w' :=
  path_w h hF (v + 1) (u + 1) (by omega) (by omega) (by omega) (by omega)
theorem Pathed.lg {w : World} {pf g n cap : Nat} {σ τ : Tbl} {E : Nat → Nat → Prop} {key : Nat → Int} {ed : Int} {par rt par' d' rt' : Nat → Nat} {i j : Nat} {l : BT} {R : Fst} (h : Pathed (n + 1) σ par rt i j τ l R par' d' rt') (hL : LctAt w pf g (n + 1) cap τ ed)
    (hE : ∀ v u, E v u ↔ Adj par (v + 1) (u + 1)) (hk : ∀ v, v < n → (σ (v + 1)).key = key v) : LG w pf g n E key ed :=
  ⟨cap, τ, _, par', d', rt', hL, h.lf, fun v u => (hE v u).trans (h.adj _ _).symm, fun v hv => by rw [h.key]; exact hk v hv⟩
theorem Pathed.at {n : Nat} {σ τ : Tbl} {E : Nat → Nat → Prop} {par rt par' d' rt' : Nat → Nat} {v u : Nat} {l : BT} {R : Fst} (h : Pathed (n + 1) σ par rt (v + 1) (u + 1) τ l R par' d' rt')
    (hE : ∀ v u, E v u ↔ Adj par (v + 1) (u + 1)) (hr : rt (v + 1) = rt (u + 1)) : ∃ p, IsPath E v u p ∧ p.map (· + 1) = l.seq ++ [u + 1] ∧ (∀ x ∈ p, x < n) := by
 obtain ⟨h1, h2⟩ := path_unshift hE (h.path hr)
 refine ⟨_, h1, h2, fun x hx => ?_⟩
 have : x + 1 ∈ l.seq ++ [u + 1] := by rw [← h2]; exact List.mem_map.2 ⟨x, hx, rfl⟩
 have hm : x + 1 ∈ (BT.node false l (u + 1) .nil).nodes := by rw [← seq_mem]; simpa [BT.seq] using this
 have := (h.lf.lt (List.mem_cons_self) hm).2
 omega
theorem size_w {w : World} {pf g n : Nat} {E : Nat → Nat → Prop} {key : Nat → Int} {ed : Int} (h : LG w pf g n E key ed) (a : Int) :
    Calls Tryz.prog 116 #[.pointer (some ⟨pf, 0, none⟩), .int .i64 a] w fun e w' => e = .returned (.int .i64 (if inV n a then (csize n E a.toNat : Int) else 0)) ∧ LG w' pf g n E key ed ∧ Fr [g] w w' := by
 have H := Lib.hid h
 obtain ⟨cap, σ, F, par, d, rt, hL, hF, hE, hk⟩ := h
 have HF := Lib.hid hF; clear hF
 have HE := Lib.hid hE; clear hE
 have HK := Lib.hid hk; clear hk
 have hN := hL.le
 have A1 := has_w hL a
 cases hva : inV n a with
 | false => {
 rw [hva] at A1
 have HA := Lib.hid A1; clear A1 hva
 go_enter Tryz.func116, Tryz.ntmps116
 go_wp2_with fail
 refine HA.out.mono ?_
 rintro _ w ⟨rfl, rfl⟩
 go_wp2
 go_ret
 exact ⟨rfl, H.out, Fr.refl _ _⟩
 }
 | true => {
 rw [hva] at A1
 have HA := Lib.hid A1; clear A1
 obtain ⟨v, rfl, hv⟩ := inV_nat hva
 clear hva
 go_enter Tryz.func116, Tryz.ntmps116
 go_wp2_with fail
 refine HA.out.mono ?_
 rintro _ w ⟨rfl, rfl⟩
 go_wp2_with fail
 refine (expose_v hL HF.out v hv).mono ?_
 rintro _ w2 ⟨m1, τ1, l1, R1, rfl, hL1, hE1, hF1⟩
 have hres : (τ1 (v + 1)).total = (csize n E v : Int) := by {
 have h1 := (hE1.lf.rep _ (List.mem_cons_self)).2.2.2.2.1
 have h2 := hE1.lf.size (x := v + 1) (by simp [BT.nodes])
 rw [h1, h2]
 have hp : (fnodes ((BT.node false l1 (v + 1) BT.nil, 0) :: R1)).Perm ((List.range n).map (· + 1)) := by {
 refine (List.perm_ext_iff_of_nodup hE1.lf.nd (nodup_map_succ.2 List.nodup_range)).2 (fun x => ?_)
 rw [hE1.lf.mem]
 simp only [List.mem_map, List.mem_range]
 exact ⟨fun h => ⟨x - 1, by omega, by omega⟩, fun ⟨y, hy, e⟩ => by omega⟩
 }
 have e : ((fnodes ((BT.node false l1 (v + 1) BT.nil, 0) :: R1)).filter (fun y => decide (rt y = rt (v + 1)))).length = csize n E v := by {
 rw [(hp.filter _).length_eq, List.filter_map, List.length_map]
 unfold Proofs.YtgmnemndjjmgkaaGreat.csize
 congr 1
 refine List.filter_congr (fun x _ => ?_)
 show decide (rt (x + 1) = rt (v + 1)) = _
 refine decide_eq_decide.2 ?_
 rw [conn_rt HF.out.rtd HE.out]; exact eq_comm
 }
 rw [e]
 have := csize_le n E v
 unfold wrap64; omega
 }
 have HE1 := Lib.hid hE1; clear hE1
 have a8 := hL1.nodes.c8 (v + 1) (by omega)
 rw [hres] at a8
 clear hres
 have d1 := hL1.hd.cell 1
 simp only [List.getElem?_cons_zero, List.getElem?_cons_succ] at d1
 have hv2 : ((v + 1 : Nat) : Int) < ((n + 1 : Nat) : Int) := by omega
 go_wp2
 go_ret
 exact ⟨rfl, ⟨cap, τ1, _, par, d, rt, hL1, HE1.out.lf, HE.out, fun x hx => by rw [HE1.out.key]; exact HK.out x hx⟩, hF1⟩
 }
def LM (w : World) (pf g n : Nat) (E : Nat → Nat → Prop) (key : Nat → Int) : Prop := LG w pf g n E key ((n : Int) - nc n E)
theorem dist_w {w : World} {pf g n : Nat} {E : Nat → Nat → Prop} {key : Nat → Int} {ed : Int} (h : LG w pf g n E key ed) (a b : Int) :
    Calls Tryz.prog 179 #[.pointer (some ⟨pf, 0, none⟩), .int .i64 a, .int .i64 b] w fun e w' => ∃ x : Int, e = .returned (.int .i64 x) ∧ ((¬ ConnI n E a b ∧ x = -1) ∨ ∃ (v u : Nat) (p : List Nat), a = v ∧ b = u ∧ v < n ∧ u < n ∧ IsPath E v u p ∧ x = (p.length : Int) - 1) ∧ LG w' pf g n E key ed ∧ Fr [g] w w' := by
 go_enter Tryz.func179, Tryz.ntmps179
 go_wp2_with fail
 refine (connected_w h a b).mono ?_
 rintro _ w2 ⟨r, rfl, hr, h2, hF2⟩
 have HR := Lib.hid hr; clear hr
 cases r with
 | false => {
 have H2 := Lib.hid h2; clear h2 h
 go_wp2
 go_ret
 exact ⟨-1, rfl, .inl ⟨fun e => (by have := HR.out.2 e; cases this), rfl⟩, H2.out, hF2⟩
 }
 | true => {
 obtain ⟨va, vb, hc⟩ := HR.out.1 rfl
 obtain ⟨v, rfl, hv⟩ := inV_nat va
 obtain ⟨u, rfl, hu⟩ := inV_nat vb
 clear va vb HR h
 obtain ⟨cap, σ, F, par, d, rt, hL, hF, hE, hk⟩ := h2
 have hrt := (conn_rt hF.rtd hE).1 hc
 have HF := Lib.hid hF; clear hF
 have HE := Lib.hid hE; clear hE
 have HK := Lib.hid hk; clear hk
 have hN := hL.le
 go_wp2_with fail
 refine (path_v hL HF.out v u hv hu).mono ?_
 rintro _ w3 ⟨rfl, τ, l, R, par', d', rt', hL3, hP, hF3⟩
 obtain ⟨p, hp1, hp2, hp3⟩ := hP.at HE.out hrt
 have hpl : (τ (u + 1)).size = (p.length : Int) ∧ p.length ≤ n ∧ 0 < p.length := by {
 have h1 := (hP.lf.rep _ (List.mem_cons_self)).2.2.2.1
 have h2 : (BT.node false l (u + 1) .nil).nodes.length = p.length := by {
 rw [← (BT.seq_perm _).length_eq]
 have := congrArg List.length hp2
 simpa [BT.seq] using this.symm
 }
 have h3 := nodup_le hp1.nd hp3
 have h4 : 0 < p.length := List.length_pos_iff.2 hp1.ne
 refine ⟨?_, h3, h4⟩
 rw [h1, h2]; unfold wrap64; omega
 }
 obtain ⟨q1, q2, q3⟩ := hpl
 have a5 := hL3.nodes.c5 (u + 1) (by omega)
 rw [q1] at a5
 have HP := Lib.hid hP; clear hP
 have Hp := Lib.hid hp1; clear hp1 hp2 hp3 q1
 have d1 := hL3.hd.cell 1
 simp only [List.getElem?_cons_zero, List.getElem?_cons_succ] at d1
 have hu2 : ((u + 1 : Nat) : Int) < ((n + 1 : Nat) : Int) := by omega
 go_wp2
 go_ret
 exact ⟨_, rfl, .inr ⟨v, u, p, rfl, rfl, hv, hu, Hp.out, rfl⟩, HP.out.lg hL3 HE.out HK.out, hF2.then hF3⟩
 }
def FirstOf (key : Nat → Int) (p : List Nat) (m : Nat) : Prop := m ∈ p ∧ ∀ x ∈ p, x ≠ m → key m < key x ∨ (key m = key x ∧ m < x)
theorem min_w {w : World} {pf g n : Nat} {E : Nat → Nat → Prop} {key : Nat → Int} {ed : Int} (h : LG w pf g n E key ed) (a b : Int) : Calls Tryz.prog 82 #[.pointer (some ⟨pf, 0, none⟩), .int .i64 a, .int .i64 b] w fun e w' => ((¬ ConnI n E a b ∧ e = .returned (.tuple #[.int .i64 0, .bool false])) ∨ ∃ (v u : Nat) (p : List Nat) (m : Nat), a = v ∧ b = u ∧ v < n ∧ u < n ∧ IsPath E v u p ∧ (∀ x ∈ p, x < n) ∧ FirstOf key p m ∧ e = .returned (.tuple #[.int .i64 m, .bool true])) ∧ LG w' pf g n E key ed ∧ Fr [g] w w' := by
 go_enter Tryz.func82, Tryz.ntmps82
 go_wp2_with fail
 refine (connected_w h a b).mono ?_
 rintro _ w2 ⟨r, rfl, hr, h2, hF2⟩
 have HR := Lib.hid hr; clear hr
 cases r with
 | false => {
 have H2 := Lib.hid h2; clear h2 h
 go_wp2
 go_ret2
 exact ⟨.inl ⟨fun e => (by have := HR.out.2 e; cases this), rfl⟩, H2.out, hF2⟩
 }
 | true => {
 obtain ⟨va, vb, hc⟩ := HR.out.1 rfl
 obtain ⟨v, rfl, hv⟩ := inV_nat va
 obtain ⟨u, rfl, hu⟩ := inV_nat vb
 clear va vb HR h
 obtain ⟨cap, σ, F, par, d, rt, hL, hF, hE, hk⟩ := h2
 have hrt := (conn_rt hF.rtd hE).1 hc
 have HF := Lib.hid hF; clear hF
 have HE := Lib.hid hE; clear hE
 have HK := Lib.hid hk; clear hk
 have hN := hL.le
 go_wp2_with fail
 refine (path_v hL HF.out v u hv hu).mono ?_
 rintro _ w3 ⟨rfl, τ, l, R, par', d', rt', hL3, hP, hF3⟩
 obtain ⟨p, hp1, hp2, hp3⟩ := hP.at HE.out hrt
 have hbest : ∃ m, (τ (u + 1)).first = m + 1 ∧ m < n ∧ FirstOf key p m := by {
 have h1 := (hP.lf.rep _ (List.mem_cons_self)).2.2.2.2.2
 have hmem : ∀ x, x ∈ (BT.node false l (u + 1) .nil).nodes ↔ x ∈ p.map (· + 1) := by intro x; rw [← seq_mem, hp2]; simp [BT.seq]
 have hkey : ∀ x, x < n → (τ (x + 1)).key = key x := fun x hx => by rw [hP.key]; exact HK.out x hx
 obtain ⟨m, hm, e⟩ := List.mem_map.1 ((hmem _).1 h1.1)
 refine ⟨m, e.symm, hp3 m hm, hm, fun x hx hne => ?_⟩
 have := h1.2 (x + 1) ((hmem _).2 (List.mem_map.2 ⟨x, hx, rfl⟩)) (by rw [← e]; omega)
 rw [← e] at this
 unfold beforeB at this
 rw [hkey m (hp3 m hm), hkey x (hp3 x hx)] at this
 simp only [Bool.or_eq_true, Bool.and_eq_true, decide_eq_true_eq] at this
 omega
 }
 obtain ⟨m, q1, q2, q3⟩ := hbest
 have a6 := hL3.nodes.c6 (u + 1) (by omega)
 rw [q1] at a6
 have HP := Lib.hid hP; clear hP
 have Hp := Lib.hid (And.intro hp1 (And.intro hp3 q3)); clear hp1 hp2 hp3 q1 q3
 have d1 := hL3.hd.cell 1
 simp only [List.getElem?_cons_zero, List.getElem?_cons_succ] at d1
 have hu2 : ((u + 1 : Nat) : Int) < ((n + 1 : Nat) : Int) := by omega
 have hw1 : ((m + 1 : Nat) : Int) - 1 = m := by omega
 go_wp2
 go_ret2
 exact ⟨.inr ⟨v, u, p, m, rfl, rfl, hv, hu, Hp.out.1, Hp.out.2.1, Hp.out.2.2, rfl⟩, HP.out.lg hL3 HE.out HK.out, hF2.then hF3⟩
 }
end Go.Proofs.YtgmnemndjjmgkaaGreat
namespace Go.Proofs.YtgmnemndjjmgkaaGreat
open Go.RowKit Classical
set_option maxRecDepth 10000
set_option maxHeartbeats 800000
theorem check_w {w : World} {pf g n cap : Nat} {σ : Tbl} {ed : Int} (h : LctAt w pf g (n + 1) cap σ ed) (b m : Nat) (f : Nat → Int) (hm : m ≤ 100) (hb : ∀ k, k < m → w.cell? ⟨b, k, none⟩ = some (.int .i64 (f k))) :
    Calls Tryz.prog 178 #[.pointer (some ⟨pf, 0, none⟩), .slice (some ⟨b, 0, none⟩) m m] w fun e w' => ((e = .returned (.int .i64 0) ∧ ∀ k, k < m → inV n (f k) = true) ∨ (e = .returned (.int .i64 3) ∧ ∃ k, k < m ∧ inV n (f k) = false)) ∧ w' = w := by
 have c0 := h.hd.cell 0
 simp only [List.getElem?_cons_zero] at c0
 have hV := Lib.hid (valid_w c0)
 clear c0
 have HB := Lib.hid hb; clear hb
 go_enter Tryz.func178, Tryz.ntmps178
 go_wp2_with fail
 refine hV.out.mono ?_
 rintro _ w ⟨rfl, rfl⟩
 go_wp2
 go_loopw [12] (fun x wr => ∃ k : Nat, k ≤ m ∧ x = .int .i64 k ∧ wr = w ∧ ∀ j, j < k → inV n (f j) = true) (fun x _ => m - (intOf x).toNat)
 case atStart => exact ⟨0, Nat.zero_le _, rfl, rfl, fun j hj => by omega⟩
 case round =>
  obtain ⟨k, hk, rfl, rfl, hall⟩ := hrel
  have Hall := Lib.hid hall; clear hall
  by_cases hlt : k < m
  {
  have hc := HB.out k hlt
  have hA := has_w h (f k)
  cases hv : inV n (f k) with
  | true => {
  rw [hv] at hA
  have HA := Lib.hid hA; clear hA
  have Hv := Lib.hid hv; clear hv
  go_wp2_with fail
  refine HA.out.mono ?_
  rintro _ w0 ⟨rfl, rfl⟩
  go_wp2
  exact ⟨⟨k + 1, by omega, by go_num, trivial, fun j hj => by
    by_cases e : j = k
    · rw [e]; exact Hv.out
    · exact Hall.out j (by omega)⟩, by simp [intOf]; omega⟩
  }
  | false => {
  rw [hv] at hA
  have HA := Lib.hid hA; clear hA
  have Hv := Lib.hid hv; clear hv
  go_wp2_with fail
  refine HA.out.mono ?_
  rintro _ w0 ⟨rfl, rfl⟩
  go_wp2
  go_ret
  exact ⟨.inr ⟨rfl, k, hlt, Hv.out⟩, rfl⟩
  }
  }
  {
  go_wp2
  go_ret
  exact ⟨.inl ⟨rfl, fun j hj => Hall.out j (by omega)⟩, rfl⟩
  }
theorem lead_v {w : World} {pf g n cap : Nat} {σ : Tbl} {ed : Int} (h : LctAt w pf g (n + 1) cap σ ed) {par d rt : Nat → Nat} {F : Fst} (hF : LF (n + 1) σ F par d rt) (v : Nat) (hv : v < n) :
    Calls Tryz.prog 172 #[.pointer (some ⟨pf, 0, none⟩), .int .i64 ((v : Int) + 1)] w fun e w' => e = .returned (.tuple #[]) ∧ ∃ τ l R par' d' rt', LctAt w' pf g (n + 1) cap τ ed ∧ LF (n + 1) τ ((.node true l (v + 1) .nil, 0) :: R) par' d' rt' ∧ (∀ x, (τ x).key = (σ x).key) ∧
      (∀ x y, Adj par' x y ↔ Adj par x y) ∧ (∀ x y, rt' x = rt' y ↔ rt x = rt y) ∧ rt' (v + 1) = v + 1 ∧ Fr [g] w w' := lead_w h hF (v + 1) (by omega) (by omega)
theorem refresh_v {w : World} {pf g n cap : Nat} {σ : Tbl} {ed : Int} (h : LctAt w pf g (n + 1) cap σ ed) (v : Nat) (hv : v < n) (hR : InR (n + 1) σ) (h0 : (σ (v + 1)).k0 ≠ v + 1) (h1 : (σ (v + 1)).k1 ≠ v + 1) :
    Calls Tryz.prog 174 #[.pointer (some ⟨pf, 0, none⟩), .int .i64 ((v : Int) + 1)] w fun e w' => e = .returned (.tuple #[]) ∧ LctAt w' pf g (n + 1) cap (refresh σ (v + 1)) ed ∧ Fr [g] w w' := refresh_w h (v + 1) (by omega) hR h0 h1
theorem LctAt.edges {w w0 : World} {pf g N cap : Nat} {σ : Tbl} {ed : Int} (h : LctAt w pf g N cap σ ed) (hF : Fr [g] w0 w) (e : Int) :
    LctAt (w.setCell ⟨pf, 2, none⟩ (.int .i64 e)) pf g N cap σ e ∧ Fr [pf, g] w0 (w.setCell ⟨pf, 2, none⟩ (.int .i64 e)) := by
 refine ⟨⟨?_, h.nodes.same (Below.heap_setCell _ _ _ _ (fun e => h.ne e.symm)), h.ne, h.le, h.cap⟩, (hF.mono (S' := [pf, g]) (fun b hb => .inl (by simp at hb; simp [hb]))).setCell _ _ (.inl (by simp))⟩
 have := h.hd.set 2 (.int .i64 e)
 simpa using this
noncomputable def linkCode (n : Nat) (E : Nat → Nat → Prop) (a b : Int) : Int :=
  if inV n a = true ∧ inV n b = true then (if a = b then 9 else if Conn E a.toNat b.toNat then 6 else 0) else 3
noncomputable def linkE (n : Nat) (E : Nat → Nat → Prop) (a b : Int) : Nat → Nat → Prop := if linkCode n E a b = 0 then addE E a.toNat b.toNat else E
theorem link_w {w : World} {pf g n : Nat} {E : Nat → Nat → Prop} {key : Nat → Int} (h : LM w pf g n E key) (a b : Int) :
    Calls Tryz.prog 197 #[.pointer (some ⟨pf, 0, none⟩), .int .i64 a, .int .i64 b] w fun e w' => e = .returned (.int .i64 (linkCode n E a b)) ∧ LM w' pf g n (linkE n E a b) key ∧ Fr [pf, g] w w' := by
  have H := Lib.hid h
  have hfrs := Lib.hid (LG.frs h)
  obtain ⟨hp1, hg1, hn1⟩ := LG.lts h
  obtain ⟨cap, σ, F, par, d, rt, hL, hF, hE, hk⟩ := h
  clear hF hE hk
  have hLa : LctAt (w.alloc (.cells #[.int .i64 a, .int .i64 b] 3)) pf g (n + 1) cap σ ((n : Int) - nc n E) := hL.below ((Below.refl _ w).alloc (Nat.le_refl _) _) hp1 hg1
  have hblk := Blk.new w [.int .i64 a, .int .i64 b] 3
  have hFa : Fr [] w (w.alloc (.cells #[.int .i64 a, .int .i64 b] 3)) := (Fr.refl _ _).alloc _
  have HMa := Lib.hid (LG.fr H.out hFa (by simp) (by simp))
  have hCk := check_w hLa w.heap.size 2 (fun k => if k = 0 then a else b) (by decide) (fun k hk => by
    rw [hblk.cell]
    rcases (show k = 0 ∨ k = 1 by omega) with rfl | rfl <;> rfl)
  have HCk := Lib.hid hCk; clear hCk hblk
  clear hLa hL
  go_enter Tryz.func197, Tryz.ntmps197
  go_wp2_with fail
  refine HCk.out.mono ?_
  rintro _ w1 ⟨hcode, rfl⟩
  clear HCk
  generalize w.alloc (.cells #[.int .i64 a, .int .i64 b] 3) = w1 at *
  rcases hcode with ⟨rfl, hall⟩ | ⟨rfl, k, hk, hbad⟩
  · have va : inV n a = true := hall 0 (by decide)
    have vb : inV n b = true := hall 1 (by decide)
    clear hall
    by_cases hab : a = b
    · have hlc : linkCode n E a b = 9 := by unfold linkCode; rw [if_pos ⟨va, vb⟩, if_pos hab]
      have hle : linkE n E a b = E := by unfold linkE; rw [hlc]; simp
      have Hlc := Lib.hid (And.intro hlc hle); clear hlc hle
      have hb : (a == b) = true := beq_iff_eq.2 hab
      clear va vb hab
      go_wp2
      go_ret
      rw [Hlc.out.1, Hlc.out.2]
      exact ⟨rfl, HMa.out, hFa.mono (by simp)⟩
    · have hb : (a == b) = false := beq_eq_false_iff_ne.2 hab
      have HL0 := Lib.hid (And.intro va (And.intro vb hab)); clear hab
      go_wp2_with fail
      refine (connected_w HMa.out a b).mono ?_
      rintro _ w2 ⟨r, rfl, hr, hM2, hF2⟩
      cases r with
      | true =>
        obtain ⟨_, _, hc⟩ := hr.1 rfl
        have hlc : linkCode n E a b = 6 := by unfold linkCode; rw [if_pos ⟨va, vb⟩, if_neg HL0.out.2.2, if_pos hc]
        have hle : linkE n E a b = E := by unfold linkE; rw [hlc]; simp
        have Hlc := Lib.hid (And.intro hlc hle); clear hlc hle hr
        have HM2 := Lib.hid hM2; clear hM2 va vb hc
        go_wp2
        go_ret
        rw [Hlc.out.1, Hlc.out.2]
        exact ⟨rfl, HM2.out, (hFa.mono (S' := [pf, g]) (by simp)).trans hF2 (fun q hq => .inl (by simp at hq; simp [hq]))⟩
      | false =>
        have hnc : ¬ Conn E a.toNat b.toNat := fun e => by have := hr.2 ⟨va, vb, e⟩; cases this
        have hlc : linkCode n E a b = 0 := by unfold linkCode; rw [if_pos ⟨va, vb⟩, if_neg HL0.out.2.2, if_neg hnc]
        have hle : linkE n E a b = addE E a.toNat b.toNat := by unfold linkE; rw [hlc]; simp
        have Hlc := Lib.hid (And.intro hlc hle); clear hlc hle hr
        obtain ⟨v, rfl, hv⟩ := inV_nat va
        obtain ⟨u, rfl, hu⟩ := inV_nat vb
        simp only [Int.toNat_natCast] at hnc Hlc
        have HN := Lib.hid hnc
        clear va vb HL0
        obtain ⟨cap2, σ2, F2, par2, d2, rt2, hL2, hLF2, hE2, hk2⟩ := hM2
        have hrt : rt2 (v + 1) ≠ rt2 (u + 1) := fun e => hnc ((conn_rt hLF2.rtd hE2).2 e)
        clear hnc
        have HF2 := Lib.hid hLF2; clear hLF2
        have HE2 := Lib.hid hE2; clear hE2
        have HK2 := Lib.hid hk2; clear hk2
        have HRt := Lib.hid hrt; clear hrt
        have hN := hL2.le
        go_wp2_with fail
        refine (lead_v hL2 HF2.out v hv).mono ?_
        rintro _ w3 ⟨rfl, τ3, l3, R3, par3, d3, rt3, hL3, hLF3, hk3, hadj3, hrt3, hri3, hF3⟩
        have HF3 := Lib.hid hLF3; clear hLF3
        have HQ3 := Lib.hid (And.intro hk3 (And.intro hadj3 (And.intro hrt3 hri3))); clear hk3 hadj3 hrt3 hri3
        go_wp2_with fail
        refine (expose_v hL3 HF3.out u hu).mono ?_
        rintro _ w4 ⟨m4, τ4, l4, R4, rfl, hL4, hE4, hF4⟩
        have key : (∃ par' d' rt' F', LF (n + 1) (refresh (lnk2 τ4 (v + 1) (u + 1)) (u + 1)) F' par' d' rt' ∧ (∀ x y, Adj par' x y ↔ Adj par2 x y ∨ (x = v + 1 ∧ y = u + 1) ∨ (x = u + 1 ∧ y = v + 1))) ∧
            (∀ x, (refresh (lnk2 τ4 (v + 1) (u + 1)) (u + 1) x).key = (σ2 x).key) ∧ (lnk2 τ4 (v + 1) (u + 1) (u + 1)).k0 ≠ u + 1 ∧ (lnk2 τ4 (v + 1) (u + 1) (u + 1)).k1 ≠ u + 1 ∧ InR (n + 1) (lnk2 τ4 (v + 1) (u + 1)) := by
          obtain ⟨hk3, hadj3, hrt3, hri3⟩ := HQ3.out
          have hne3 : rt3 (v + 1) ≠ rt3 (u + 1) := fun e => HRt.out ((hrt3 _ _).1 e)
          have hin := hE4.trees _ (List.mem_cons_self) ⟨v + 1, by simp [BT.nodes], hne3⟩
          obtain ⟨R5, hR5⟩ := mem_split_perm hin
          have hlf := hE4.lf.perm ((List.Perm.cons _ hR5).trans (List.Perm.swap _ _ _))
          obtain ⟨⟨par', d', rt', a1, a2⟩, a3, a4, a5, a6⟩ := hlf.link (a := v + 1) rfl (by omega) hri3 (fun e => hne3 (by rw [hri3, e]))
          exact ⟨⟨par', d', rt', _, a1, fun x y => by rw [a2, hadj3]⟩, fun x => by rw [a3, hE4.key, hk3], a4, a5, a6⟩
        have Key := Lib.hid key; clear key hE4
        have d4 := hL4.hd.cell 1
        simp only [List.getElem?_cons_zero, List.getElem?_cons_succ] at d4
        have hfz4 := hL4.nodes.frozen
        have a2 := hL4.nodes.c2 (v + 1) (by omega)
        obtain ⟨hL5, hF5⟩ := hL4.st2 (Fr.refl [g] w4) (i := v + 1) (by omega) (u + 1)
        have hL5' : LctAt (w4.setCell ⟨g, (v + 1) * 9 + 2, none⟩ (.int .i64 ((u : Int) + 1))) pf g (n + 1) cap2 (lnk1 τ4 (v + 1) (u + 1)) ((n : Int) - nc n E) := hL5
        have hF5' : Fr [g] w4 (w4.setCell ⟨g, (v + 1) * 9 + 2, none⟩ (.int .i64 ((u : Int) + 1))) := hF5
        have HL5 := Lib.hid hL5'; clear hL5 hL5' hF5
        have hv2 : ((v + 1 : Nat) : Int) < ((n + 1 : Nat) : Int) := by omega
        have hu2 : ((u + 1 : Nat) : Int) < ((n + 1 : Nat) : Int) := by omega
        go_wp2
        generalize w4.setCell ⟨g, (v + 1) * 9 + 2, none⟩ (.int .i64 ((u : Int) + 1)) = w5 at *
        have hL5 := HL5.out
        clear HL5 d4 hfz4 a2
        have d5 := hL5.hd.cell 1
        simp only [List.getElem?_cons_zero, List.getElem?_cons_succ] at d5
        have hfz5 := hL5.nodes.frozen
        have b7 := hL5.nodes.c7 (u + 1) (by omega)
        have b8 := hL5.nodes.c8 (v + 1) (by omega)
        have hwu : IntKind.i64.wrap ((u : Int) + 1) = (u : Int) + 1 := IntWalk.i64_in _ (by omega)
        have hwv : IntKind.i64.wrap ((v : Int) + 1) = (v : Int) + 1 := IntWalk.i64_in _ (by omega)
        have htu : ((u : Int) + 1).toNat = u + 1 := by omega
        have htv : ((v : Int) + 1).toNat = v + 1 := by omega
        have hcu : 0 ≤ (u : Int) + 1 := by omega
        have hcv : 0 ≤ (v : Int) + 1 := by omega
        have hcu2 : (u : Int) + 1 < (n : Int) + 1 := by omega
        have hcv2 : (v : Int) + 1 < (n : Int) + 1 := by omega
        refine region_one 21 (fun w' => LctAt w' pf g (n + 1) cap2 (lnk2 τ4 (v + 1) (u + 1)) ((n : Int) - nc n E) ∧ Fr [g] w5 w') (by kernel_rfl) (by kernel_rfl) (by kernel_rfl) ?_
        iterate 21 (refine gWalk_pre (by decide) (fun K hK => ?_); go_simp; refine hK _ ?_; clear hK K)
        refine gWalk_write rfl undef (fun w' hw' => ?_) ?_
        · obtain ⟨nq, rfl⟩ := hw'
          go_simp
          rw [iw64]
          exact (hL5.eqv (Eqv.drewN w5 nq)).st7 ((Fr.refl [g] w5).drewN nq) (i := u + 1) (by omega) _
        refine gWalk_nil ?_
        rintro w6 ⟨hL6, hF6⟩
        clear b7 b8 d5 hfz5
        go_wp2_with fail
        refine (refresh_v hL6 u hu Key.out.2.2.2.2 Key.out.2.2.1 Key.out.2.2.2.1).mono ?_
        rintro _ w7 ⟨rfl, hL7, hF7⟩
        have c7 := hL7.hd.cell 2
        simp only [List.getElem?_cons_zero, List.getElem?_cons_succ] at c7
        have hfz7 := hL7.hd.frozen 2
        obtain ⟨par', d', rt', F', q1, q2⟩ := Key.out.1
        have hAE : ∀ x y, addE E v u x y ↔ Adj par' (x + 1) (y + 1) := by
          intro x y
          rw [q2]
          unfold addE
          rw [HE2.out x y]
          simp only [Nat.add_right_cancel_iff]
        have hcnt := nc_add (n := n) hfrs.out ⟨par', d', rt', q1.rtd, hAE⟩ HN.out hv hu
        have hnc1 := nc_le n (addE E v u)
        have hed : IntKind.i64.wrap ((n : Int) - nc n E + 1) = (n : Int) - nc n (addE E v u) := by
          rw [show (n : Int) - nc n E + 1 = (n : Int) - nc n (addE E v u) by omega]; exact IntWalk.i64_in _ (by omega)
        obtain ⟨hL8, hF8⟩ := hL7.edges (hF2.then (hF3.then (hF4.then (hF5'.then (hF6.then hF7))))) ((n : Int) - nc n (addE E v u))
        have Hfin := Lib.hid (show LM _ pf g n (addE E v u) key from ⟨cap2, _, F', par', d', rt', hL8, q1, hAE, fun x hx => by rw [Key.out.2.1]; exact HK2.out x hx⟩)
        have hnq : nc n E = nc n (addE E v u) + 1 := hcnt.symm
        rw [hnq] at c7
        have hed2 : (n : Int) - ((nc n (addE E v u) + 1 : Nat) : Int) + 1 = (n : Int) - nc n (addE E v u) := by omega
        clear hL8 q1 q2 hAE hcnt hnq hed Key
        generalize nc n (addE E v u) = z at *
        go_wp2
        go_ret
        rw [Hlc.out.1, Hlc.out.2]
        have e : (n : Int) - ((z : Int) + 1) + 1 = (n : Int) - z := by omega
        rw [e]
        exact ⟨rfl, Hfin.out, (hFa.mono (S' := [pf, g]) (by simp)).trans hF8 (fun q hq => .inl hq)⟩
  · have hlc : linkCode n E a b = 3 := by
      unfold linkCode; rw [if_neg]
      rintro ⟨h1, h2⟩
      rcases (show k = 0 ∨ k = 1 by omega) with rfl | rfl
      · have hbad : inV n a = false := hbad; rw [h1] at hbad; cases hbad
      · have hbad : inV n b = false := hbad; rw [h2] at hbad; cases hbad
    have hle : linkE n E a b = E := by unfold linkE; rw [hlc]; simp
    have Hlc := Lib.hid (And.intro hlc hle); clear hlc hle hbad
    go_wp2
    go_ret
    rw [Hlc.out.1, Hlc.out.2]
    exact ⟨rfl, HMa.out, hFa.mono (by simp)⟩
end Go.Proofs.YtgmnemndjjmgkaaGreat
