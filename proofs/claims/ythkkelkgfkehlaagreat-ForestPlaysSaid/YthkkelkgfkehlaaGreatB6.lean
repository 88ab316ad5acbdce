/- lct: slices.Backward over a row of places. -/
import Derived.Test.YthkkelkgfkehlaaGreatB5
import Derived.Sort.QuietTacIn
import Derived.RangeFuncNested
import Derived.Test.YthkkelkgfkehlaaGreatB1
import Derived.RangeFuncBound
import Derived.RangeFuncCalls
import Derived.RangeFuncLeaves
import Derived.Shelf.Abstract
import Derived.Shelf.RegionOpen
import Derived.OwnWalkIn
import Derived.TacticsInMore
import Derived.LoopNIn
import Derived.LoopIn
import Derived.Test.YthkkelkgfkehlaaGreatB4
/- lct: how many trees a forest has, and how an edge changes that. -/
namespace Go.Proofs.YthkkelkgfkehlaaGreat
open Go.RowKit Classical

/-- The vertex is the first one of its tree. -/
def IsFirst (E : Nat → Nat → Prop) (v : Nat) : Prop := ∀ u, u < v → ¬ Conn E v u
noncomputable def nc (n : Nat) (E : Nat → Nat → Prop) : Nat := ((List.range n).filter fun v => decide (IsFirst E v)).length
noncomputable def csize (n : Nat) (E : Nat → Nat → Prop) (v : Nat) : Nat := ((List.range n).filter fun u => decide (Conn E v u)).length

theorem nc_le (n : Nat) (E : Nat → Nat → Prop) : nc n E ≤ n := by
  unfold nc
  have := List.length_filter_le (fun v => decide (IsFirst E v)) (List.range n)
  simpa using this
theorem csize_le (n : Nat) (E : Nat → Nat → Prop) (v : Nat) : csize n E v ≤ n := by
  unfold csize
  have := List.length_filter_le (fun u => decide (Conn E v u)) (List.range n)
  simpa using this
theorem conn_congr {E E' : Nat → Nat → Prop} (h : ∀ v u, E v u ↔ E' v u) (a b : Nat) : Conn E a b ↔ Conn E' a b :=
  ⟨fun ⟨p, hp⟩ => ⟨p, hp.mono (fun x y => (h x y).1)⟩, fun ⟨p, hp⟩ => ⟨p, hp.mono (fun x y => (h x y).2)⟩⟩
theorem E_ext {E E' : Nat → Nat → Prop} (h : ∀ v u, E v u ↔ E' v u) : E = E' := funext fun v => funext fun u => propext (h v u)

theorem filter_drop_one {P P' : Nat → Bool} {m : Nat} : ∀ {l : List Nat}, l.Nodup → m ∈ l → P m = true → P' m = false → (∀ x ∈ l, x ≠ m → P' x = P x) → (l.filter P').length + 1 = (l.filter P).length
  | y :: l, hn, hm, h1, h2, h3 => by
    have hn' := List.nodup_cons.1 hn
    by_cases e : y = m
    · subst e
      have : l.filter P' = l.filter P := List.filter_congr (fun x hx => h3 x (by simp [hx]) (by rintro rfl; exact hn'.1 hx))
      simp [h1, h2, this]
    · have hml : m ∈ l := (List.mem_cons.1 hm).resolve_left (fun h => e h.symm)
      have ih := filter_drop_one hn'.2 hml h1 h2 (fun x hx => h3 x (by simp [hx]))
      have hy := h3 y (by simp) e
      cases hp : P y with
      | true => simp [hy, hp, ih]
      | false => simp [hy, hp, ih]

/-- The edges with one more. -/
def addE (E : Nat → Nat → Prop) (a b : Nat) : Nat → Nat → Prop := fun v u => E v u ∨ (v = a ∧ u = b) ∨ (v = b ∧ u = a)
def delE (E : Nat → Nat → Prop) (a b : Nat) : Nat → Nat → Prop := fun v u => E v u ∧ ¬ (v = a ∧ u = b) ∧ ¬ (v = b ∧ u = a)

section
variable {E : Nat → Nat → Prop} {a b n : Nat}
theorem conn_of_edge {v u : Nat} (h : Frs E) (he : E v u) : Conn E v u := ⟨_, h.edge he⟩
theorem conn_add (h : Frs E) (h' : Frs (addE E a b)) (x y : Nat) : Conn (addE E a b) x y ↔ Conn E x y ∨ (Conn E x a ∧ Conn E b y) ∨ (Conn E x b ∧ Conn E a y) := by
  constructor
  · rintro ⟨p, l, rfl, hw, _, hl⟩
    have key : ∀ {l : List Nat} {x : Nat}, Wk (addE E a b) x l → ∀ y ∈ x :: l, Conn E x y ∨ (Conn E x a ∧ Conn E b y) ∨ (Conn E x b ∧ Conn E a y) := by
      intro l
      induction l with
      | nil => intro x _ y hy; simp at hy; subst hy; exact .inl (Conn.refl E y)
      | cons z l ih =>
        intro x ⟨h1, h2⟩ y hy
        rcases List.mem_cons.1 hy with rfl | hy
        · exact .inl (Conn.refl E y)
        have hz := ih h2 y hy
        rcases h1 with h1 | ⟨rfl, rfl⟩ | ⟨rfl, rfl⟩
        · have hxz := conn_of_edge h h1
          rcases hz with hz | ⟨hz1, hz2⟩ | ⟨hz1, hz2⟩
          · exact .inl (h.ctrans hxz hz)
          · exact .inr (.inl ⟨h.ctrans hxz hz1, hz2⟩)
          · exact .inr (.inr ⟨h.ctrans hxz hz1, hz2⟩)
        · rcases hz with hz | ⟨hz1, hz2⟩ | ⟨hz1, hz2⟩
          · exact .inr (.inl ⟨Conn.refl E x, hz⟩)
          · exact .inr (.inl ⟨Conn.refl E x, hz2⟩)
          · exact .inl hz2
        · rcases hz with hz | ⟨hz1, hz2⟩ | ⟨hz1, hz2⟩
          · exact .inr (.inr ⟨Conn.refl E x, hz⟩)
          · exact .inl hz2
          · exact .inr (.inr ⟨Conn.refl E x, hz2⟩)
    exact key hw y (List.mem_of_getLast? hl)
  · have hm : ∀ {x y}, Conn E x y → Conn (addE E a b) x y := fun ⟨p, hp⟩ => ⟨p, hp.mono (fun _ _ e => .inl e)⟩
    have hab : Conn (addE E a b) a b := conn_of_edge h' (.inr (.inl ⟨rfl, rfl⟩))
    rintro (e | ⟨e1, e2⟩ | ⟨e1, e2⟩)
    · exact hm e
    · exact h'.ctrans (hm e1) (h'.ctrans hab (hm e2))
    · exact h'.ctrans (hm e1) (h'.ctrans (h'.csymm hab) (hm e2))

theorem least_ex {P : Nat → Prop} {n : Nat} (h : P n) : ∃ m, m ≤ n ∧ P m ∧ ∀ k, k < m → ¬ P k := by
  induction n using Nat.strongRecOn with
  | _ n ih =>
    by_cases hm : ∃ m, m < n ∧ P m
    · obtain ⟨m, hlt, hp⟩ := hm
      obtain ⟨m', h1, h2, h3⟩ := ih m hlt hp
      exact ⟨m', by omega, h2, h3⟩
    · exact ⟨n, Nat.le_refl _, h, fun k hk hp => hm ⟨k, hk, hp⟩⟩

theorem nc_add (h : Frs E) (h' : Frs (addE E a b)) (hab : ¬ Conn E a b) (ha : a < n) (hb : b < n) : nc n (addE E a b) + 1 = nc n E := by
  obtain ⟨fa, ha1, ha2, ha3⟩ := least_ex (P := fun k => Conn E a k) (Conn.refl E a)
  obtain ⟨fb, hb1, hb2, hb3⟩ := least_ex (P := fun k => Conn E b k) (Conn.refl E b)
  have hne : fa ≠ fb := by rintro rfl; exact hab (h.ctrans ha2 (h.csymm hb2))
  have hfa : IsFirst E fa := fun k hk hc => ha3 k hk (h.ctrans ha2 hc)
  have hfb : IsFirst E fb := fun k hk hc => hb3 k hk (h.ctrans hb2 hc)
  -- of the two first vertices the later one is no first vertex any more
  have key : ∀ {a b fa fb : Nat}, fa < fb → Conn E a fa → Conn E b fb → IsFirst E fa → IsFirst E fb → ¬ Conn E a b → Frs (addE E a b) → b < n → fb ≤ b → (∀ k, k < fa → ¬ Conn E a k) → nc n (addE E a b) + 1 = nc n E := by
    intro a b fa fb hlt hca hcb hfa hfb hab h' hbn hfbb hmin
    have hbc := conn_add (a := a) (b := b) h h'
    unfold nc
    refine filter_drop_one (m := fb) List.nodup_range (List.mem_range.2 (by omega)) (decide_eq_true hfb) (decide_eq_false ?_) ?_
    · intro hf
      exact hf fa hlt ((hbc fb fa).2 (.inr (.inr ⟨h.csymm hcb, hca⟩)))
    · intro x _ hx
      refine decide_eq_decide.2 ⟨fun hf u hu hc => hf u hu ((hbc x u).2 (.inl hc)), fun hf u hu hc => ?_⟩
      rcases (hbc x u).1 hc with e | ⟨e1, e2⟩ | ⟨e1, e2⟩
      · exact hf u hu e
      · -- x is with a, u with b: then x = fa, and fb ≤ u
        have hxfa : Conn E x fa := h.ctrans e1 hca
        have h1 : x = fa := by
          rcases Nat.lt_trichotomy x fa with q | q | q
          · exact absurd (h.csymm hxfa) (hfa x q)
          · exact q
          · exact absurd hxfa (hf fa q)
        have : ¬ u < fb := fun q => hfb u q (h.ctrans (h.csymm hcb) e2)
        omega
      · have hxfb : Conn E x fb := h.ctrans e1 hcb
        rcases Nat.lt_trichotomy x fb with q | q | q
        · exact absurd (h.csymm hxfb) (hfb x q)
        · exact absurd q hx
        · exact absurd hxfb (hf fb q)
  rcases Nat.lt_or_gt_of_ne hne with q | q
  · exact key q ha2 hb2 hfa hfb hab h' hb hb1 ha3
  · have e : addE E a b = addE E b a := E_ext (fun v u => by unfold addE; constructor <;> (rintro (e | e | e); exact .inl e; exact .inr (.inr e); exact .inr (.inl e)))
    rw [e]
    exact key q hb2 ha2 hfb hfa (fun e => hab (h.csymm e)) (by rw [← e]; exact h') ha ha1 hb3

theorem add_del (h : Frs E) (he : E a b) : addE (delE E a b) a b = E := by
  refine E_ext (fun v u => ?_)
  unfold addE delE
  constructor
  · rintro (e | ⟨rfl, rfl⟩ | ⟨rfl, rfl⟩)
    · exact e.1
    · exact he
    · exact h.symm he
  · intro e
    by_cases h1 : v = a ∧ u = b
    · exact .inr (.inl h1)
    · by_cases h2 : v = b ∧ u = a
      · exact .inr (.inr h2)
      · exact .inl ⟨e, h1, h2⟩
theorem del_sep (h : Frs E) (he : E a b) : ¬ Conn (delE E a b) a b := by
  rintro ⟨p, hp⟩
  have h1 := hp.mono (E' := E) (fun x y e => e.1)
  have h2 := h.unique h1 (h.edge he)
  subst h2
  obtain ⟨l, e, hw, _⟩ := hp
  simp at e
  subst e
  exact hw.1.2.1 ⟨rfl, rfl⟩
theorem nc_del (h : Frs E) (h' : Frs (delE E a b)) (he : E a b) (ha : a < n) (hb : b < n) : nc n (delE E a b) = nc n E + 1 := by
  have e := add_del h he
  have := nc_add (n := n) h' (by rw [e]; exact h) (del_sep h he) ha hb
  rw [e] at this; exact this.symm
end

theorem nc_none (n : Nat) : nc n (fun _ _ => False) = n := by
  unfold nc
  rw [List.filter_eq_self.2]
  · simp
  · intro v _
    refine decide_eq_true (fun u hu ⟨p, l, e, hw, _, hl⟩ => ?_)
    cases l with
    | nil => subst e; simp at hl; omega
    | cons x l => exact hw.1

end Go.Proofs.YthkkelkgfkehlaaGreat

/- forest: the plain law of a spanning forest whose edges expire as late as possible. -/
namespace Go.Proofs.YthkkelkgfkehlaaGreat
open Classical

/-- The edges: of each slot the two ends and the time. -/
abbrev EMap := Nat → Option (Nat × Nat × Int)
def updG (G : EMap) (s : Nat) (e : Option (Nat × Nat × Int)) : EMap := fun t => if t = s then e else G t
theorem updG_same (G : EMap) (s : Nat) (e : Option (Nat × Nat × Int)) : updG G s e s = e := by simp [updG]
theorem updG_other {G : EMap} {s t : Nat} {e : Option (Nat × Nat × Int)} (h : t ≠ s) : updG G s e t = G t := by simp [updG, h]

/-- Connected by the edges of some slots. -/
inductive Cx (G : EMap) (U : Nat → Prop) : Nat → Nat → Prop
  | refl (a : Nat) : Cx G U a a
  | step {a b c : Nat} (s : Nat) (x : Int) : Cx G U a b → U s → (G s = some (b, c, x) ∨ G s = some (c, b, x)) → Cx G U a c

section
variable {G G' : EMap} {U U' : Nat → Prop} {a b c p q s m : Nat} {x y : Int}
theorem Cx.trans (h : Cx G U a b) (h' : Cx G U b c) : Cx G U a c := by
  induction h' with
  | refl => exact h
  | step s x _ h1 h2 ih => exact .step s x ih h1 h2
theorem Cx.edge (hs : U s) (h : G s = some (a, b, x)) : Cx G U a b := .step s x (.refl a) hs (.inl h)
theorem Cx.edge' (hs : U s) (h : G s = some (a, b, x)) : Cx G U b a := .step s x (.refl b) hs (.inr h)
theorem Cx.symm (h : Cx G U a b) : Cx G U b a := by
  induction h with
  | refl => exact .refl _
  | step s x _ h1 h2 ih =>
    rcases h2 with h2 | h2
    · exact (Cx.edge' h1 h2).trans ih
    · exact (Cx.edge h1 h2).trans ih
theorem Cx.bind (h : Cx G U a b) (hs : ∀ s c d x, U s → G s = some (c, d, x) → Cx G' U' c d) : Cx G' U' a b := by
  induction h with
  | refl => exact .refl _
  | step s x _ h1 h2 ih =>
    rcases h2 with h2 | h2
    · exact ih.trans (hs _ _ _ _ h1 h2)
    · exact ih.trans (hs _ _ _ _ h1 h2).symm
theorem Cx.mono (h : Cx G U a b) (hs : ∀ s e, U s → G s = some e → U' s) : Cx G U' a b :=
  h.bind fun s _ _ _x h1 h2 => Cx.edge (hs s _ h1 h2) h2
theorem Cx.mono' (h : Cx G U a b) (hs : ∀ s e, U s → G s = some e → U' s ∧ G' s = some e) : Cx G' U' a b :=
  h.bind fun s _ _ _x h1 h2 => Cx.edge (hs s _ h1 h2).1 (hs s _ h1 h2).2
/-- One slot more. -/
theorem Cx.more (h : Cx G U p q) (hu : ∀ t, U t → U' t ∨ t = s) (hs : G s = some (a, b, x)) :
    Cx G U' p q ∨ (Cx G U' p a ∧ Cx G U' b q) ∨ (Cx G U' p b ∧ Cx G U' a q) := by
  induction h with
  | refl => exact .inl (.refl _)
  | @step c d t z _ h1 h2 ih =>
    rcases hu t h1 with h1 | rfl
    · have e : Cx G U' c d := .step t z (.refl _) h1 h2
      rcases ih with ih | ⟨i1, i2⟩ | ⟨i1, i2⟩
      · exact .inl (ih.trans e)
      · exact .inr (.inl ⟨i1, i2.trans e⟩)
      · exact .inr (.inr ⟨i1, i2.trans e⟩)
    · rw [hs] at h2
      simp only [Option.some.injEq, Prod.mk.injEq] at h2
      rcases h2 with ⟨rfl, rfl, rfl⟩ | ⟨rfl, rfl, rfl⟩
      · rcases ih with ih | ⟨i1, _⟩ | ⟨i1, _⟩
        · exact .inr (.inl ⟨ih, .refl _⟩)
        · exact .inr (.inl ⟨i1, .refl _⟩)
        · exact .inl i1
      · rcases ih with ih | ⟨i1, _⟩ | ⟨i1, _⟩
        · exact .inr (.inr ⟨ih, .refl _⟩)
        · exact .inl i1
        · exact .inr (.inr ⟨i1, .refl _⟩)

/-- The order of times and slots. -/
def bef (x : Int) (s : Nat) (y : Int) (t : Nat) : Prop := x < y ∨ (x = y ∧ s < t)
/-- The slot t has an edge after a time and slot. -/
def Aft (G : EMap) (s : Nat) (x : Int) (t : Nat) : Prop := ∃ a b y, G t = some (a, b, y) ∧ bef x s y t
def isTree (G : EMap) (s : Nat) : Prop := ∃ a b x, G s = some (a, b, x) ∧ ¬ Cx G (Aft G s x) a b

theorem bef_trans {z : Int} {t u : Nat} (h : bef x s y t) (h' : bef y t z u) : bef x s z u := by unfold bef at *; omega
theorem bef_irr (x : Int) (s : Nat) : ¬ bef x s x s := by unfold bef; omega
theorem bef_tri {t : Nat} (h : s ≠ t) (hn : ¬ bef x s y t) : bef y t x s := by unfold bef at *; omega

/-- Upward closed. -/
def Upw (G : EMap) (U : Nat → Prop) : Prop := ∀ t a b x u, U t → G t = some (a, b, x) → Aft G t x u → U u

theorem rank_lt {S : Nat} {t u : Nat} {z : Int} {e f : Nat} (hS : ∀ s e, G s = some e → s < S) (hu : G u = some (e, f, z)) (h : bef x t z u) :
    ((List.range S).filter fun v => decide (Aft G u z v)).length < ((List.range S).filter fun v => decide (Aft G t x v)).length := by
  have key : ∀ l : List Nat, ((l.filter fun v => decide (Aft G u z v)).length ≤ (l.filter fun v => decide (Aft G t x v)).length) ∧ (u ∈ l → (l.filter fun v => decide (Aft G u z v)).length < (l.filter fun v => decide (Aft G t x v)).length) := by
    intro l
    induction l with
    | nil => exact ⟨Nat.le_refl _, fun h => by simp at h⟩
    | cons v l ih =>
      have himp : Aft G u z v → Aft G t x v := fun ⟨a, b, y, h1, h2⟩ => ⟨a, b, y, h1, bef_trans h h2⟩
      by_cases h1 : Aft G u z v
      · have h2 := himp h1
        refine ⟨by simp [h1, h2, ih.1], fun hm => ?_⟩
        have hne : u ≠ v := by
          rintro rfl
          obtain ⟨a, b, y, e1, e2⟩ := h1
          rw [hu] at e1; simp only [Option.some.injEq, Prod.mk.injEq] at e1
          rw [e1.2.2] at e2; exact bef_irr _ _ e2
        have hm' : u ∈ l := by simpa [hne] using hm
        have := ih.2 hm'
        simp [h1, h2]; exact this
      · by_cases h2 : Aft G t x v
        · have := ih.1
          constructor
          · simp [h1, h2]; omega
          · intro _; simp [h1, h2]; omega
        · refine ⟨by simp [h1, h2, ih.1], fun hm => ?_⟩
          have hne : u ≠ v := by
            rintro rfl
            exact h2 ⟨e, f, z, hu, h⟩
          have hm' : u ∈ l := by simpa [hne] using hm
          have := ih.2 hm'
          simp [h1, h2]; exact this
  exact (key _).2 (List.mem_range.2 (hS _ _ hu))

/-- The tree edges connect what the edges connect. -/
theorem kru {S : Nat} (hS : ∀ s e, G s = some e → s < S) (hU : Upw G U) (h : Cx G U a b) : Cx G (fun t => U t ∧ isTree G t) a b := by
  have key : ∀ (k t : Nat) (c d : Nat) (z : Int), ((List.range S).filter fun v => decide (Aft G t z v)).length ≤ k → U t → G t = some (c, d, z) → Cx G (fun t => U t ∧ isTree G t) c d := by
    intro k
    induction k with
    | zero =>
      intro t c d z hk ht hg
      by_cases hT : isTree G t
      · exact Cx.edge ⟨ht, hT⟩ hg
      · have hc : Cx G (Aft G t z) c d := Classical.byContradiction fun hc => hT ⟨c, d, z, hg, hc⟩
        refine hc.bind fun u e f w hu hgu => ?_
        obtain ⟨_, _, y, e1, e2⟩ := hu
        rw [hgu] at e1; simp only [Option.some.injEq, Prod.mk.injEq] at e1
        rw [← e1.2.2] at e2
        have := rank_lt hS hgu e2
        omega
    | succ k ih =>
      intro t c d z hk ht hg
      by_cases hT : isTree G t
      · exact Cx.edge ⟨ht, hT⟩ hg
      · have hc : Cx G (Aft G t z) c d := Classical.byContradiction fun hc => hT ⟨c, d, z, hg, hc⟩
        refine hc.bind fun u e f w hu hgu => ?_
        have hUu := hU t c d z u ht hg hu
        obtain ⟨_, _, y, e1, e2⟩ := hu
        rw [hgu] at e1; simp only [Option.some.injEq, Prod.mk.injEq] at e1
        rw [← e1.2.2] at e2
        have := rank_lt hS hgu e2
        exact ih u e f w (by omega) hUu hgu
  exact h.bind fun t c d z h1 h2 => key _ t c d z (Nat.le_refl _) h1 h2

theorem upw_all (G : EMap) : Upw G (fun _ => True) := fun _ _ _ _ _ _ _ _ => trivial
theorem upw_aft (G : EMap) (s : Nat) (x : Int) : Upw G (Aft G s x) := by
  rintro t a b y u ⟨a', b', y', h1, h2⟩ h3 ⟨c, d, z, h4, h5⟩
  rw [h3] at h1; simp only [Option.some.injEq, Prod.mk.injEq] at h1
  obtain ⟨_, _, rfl⟩ := h1
  exact ⟨c, d, z, h4, bef_trans h2 h5⟩
theorem upw_from (hs : G s = some (a, b, x)) : Upw G (fun t => t = s ∨ Aft G s x t) := by
  rintro t c d y u (rfl | h1) h3 h4
  · rw [hs] at h3; simp only [Option.some.injEq, Prod.mk.injEq] at h3
    obtain ⟨_, _, rfl⟩ := h3
    exact .inr h4
  · exact .inr (upw_aft G s x t c d y u h1 h3 h4)
theorem kru_all {S : Nat} (hS : ∀ s e, G s = some e → s < S) (h : Cx G U a b) : Cx G (isTree G) a b :=
  (kru hS (upw_all G) (h.mono (fun _ _ _ _ => trivial))).mono (fun _ _ h _ => h.2)

-- an edge is added
section
variable {S t : Nat} {d : Nat} {z : Int} (hS : ∀ s e, G s = some e → s < S) (h0 : G s = none)
include h0
theorem aft_keep (h : Aft G t z q) (e : Option (Nat × Nat × Int)) : Aft (updG G s e) t z q := by
  obtain ⟨a, b, y, h1, h2⟩ := h
  have : q ≠ s := by rintro rfl; rw [h0] at h1; cases h1
  exact ⟨a, b, y, by rw [updG_other this]; exact h1, h2⟩
theorem cx_keep (h : Cx G (Aft G t z) p q) (e : Option (Nat × Nat × Int)) : Cx (updG G s e) (Aft (updG G s e) t z) p q :=
  h.mono' fun u f h1 h2 => ⟨aft_keep h0 h1 e, by rw [updG_other (fun e1 => by rw [e1, h0] at h2; cases h2)]; exact h2⟩
theorem cx_old (h : Cx (updG G s (some (a, b, x))) (Aft (updG G s (some (a, b, x))) t z) p q) (hn : ¬ bef z t x s) : Cx G (Aft G t z) p q := by
  refine h.mono' fun u f h1 h2 => ?_
  obtain ⟨c, d, y, h3, h4⟩ := h1
  have hu : u ≠ s := by
    rintro rfl
    rw [updG_same] at h3; simp only [Option.some.injEq, Prod.mk.injEq] at h3
    exact hn (by rw [h3.2.2]; exact h4)
  rw [updG_other hu] at h3 h2
  exact ⟨⟨c, d, y, h3, h4⟩, h2⟩
omit h0 in
theorem cx_new (h : Cx (updG G s (some (a, b, x))) (Aft (updG G s (some (a, b, x))) t z) p q) :
    Cx G (Aft G t z) p q ∨ (Cx G (Aft G t z) p a ∧ Cx G (Aft G t z) b q) ∨ (Cx G (Aft G t z) p b ∧ Cx G (Aft G t z) a q) := by
  have h1 := h.more (U' := fun u => u ≠ s ∧ Aft (updG G s (some (a, b, x))) t z u) (s := s) (fun u hu => if e : u = s then .inr e else .inl ⟨e, hu⟩) (updG_same _ _ _)
  have back : ∀ {p q : Nat}, Cx (updG G s (some (a, b, x))) (fun u => u ≠ s ∧ Aft (updG G s (some (a, b, x))) t z u) p q → Cx G (Aft G t z) p q := fun h => h.mono' fun u f h1 h2 => by
    obtain ⟨hu, c, d, y, h3, h4⟩ := h1
    rw [updG_other hu] at h3 h2
    exact ⟨⟨c, d, y, h3, h4⟩, h2⟩
  rcases h1 with h1 | ⟨h1, h2⟩ | ⟨h1, h2⟩
  · exact .inl (back h1)
  · exact .inr (.inl ⟨back h1, back h2⟩)
  · exact .inr (.inr ⟨back h1, back h2⟩)
theorem tree_back (ht : t ≠ s) (h : isTree (updG G s (some (a, b, x))) t) : isTree G t := by
  obtain ⟨c, d, z, h1, h2⟩ := h
  rw [updG_other ht] at h1
  exact ⟨c, d, z, h1, fun h => h2 (cx_keep h0 h _)⟩

include hS
theorem add_new (hn : ¬ Cx G (isTree G) a b) (t : Nat) : isTree (updG G s (some (a, b, x))) t ↔ isTree G t ∨ t = s := by
  constructor
  · intro h
    by_cases e : t = s
    · exact .inr e
    · exact .inl (tree_back h0 e h)
  · rintro (h | rfl)
    · obtain ⟨c, d, z, h1, h2⟩ := h
      have e : t ≠ s := by rintro rfl; rw [h0] at h1; cases h1
      refine ⟨c, d, z, by rw [updG_other e]; exact h1, fun h => ?_⟩
      have wk : ∀ {p q : Nat}, Cx G (Aft G t z) p q → Cx G (fun _ => True) p q := fun h => h.mono (fun _ _ _ _ => trivial)
      have ed : Cx G (fun _ => True) c d := Cx.edge (s := t) trivial h1
      rcases cx_new h with h | ⟨h3, h4⟩ | ⟨h3, h4⟩
      · exact h2 h
      · exact hn (kru_all hS (((wk h3).symm.trans ed).trans (wk h4).symm))
      · exact hn (kru_all hS (((wk h4).trans ed.symm).trans (wk h3)))
    · exact ⟨a, b, x, updG_same _ _ _, fun h => hn (kru_all hS (cx_old h0 h (bef_irr x t)))⟩

omit hS in
theorem add_late (hc : Cx G (Aft G s x) a b) (t : Nat) : isTree (updG G s (some (a, b, x))) t ↔ isTree G t := by
  constructor
  · intro h
    by_cases e : t = s
    · subst e
      obtain ⟨c, d, z, h1, h2⟩ := h
      rw [updG_same] at h1; simp only [Option.some.injEq, Prod.mk.injEq] at h1
      obtain ⟨rfl, rfl, rfl⟩ := h1
      exact absurd (cx_keep h0 hc _) h2
    · exact tree_back h0 e h
  · rintro ⟨c, d, z, h1, h2⟩
    have e : t ≠ s := by rintro rfl; rw [h0] at h1; cases h1
    refine ⟨c, d, z, by rw [updG_other e]; exact h1, fun h => h2 ?_⟩
    by_cases hb : bef z t x s
    · have hc' : Cx G (Aft G t z) a b := hc.mono fun u f ⟨a', b', y, h3, h4⟩ _ => ⟨a', b', y, h3, bef_trans hb h4⟩
      rcases cx_new h with h | ⟨h3, h4⟩ | ⟨h3, h4⟩
      · exact h
      · exact (h3.trans hc').trans h4
      · exact (h3.trans hc'.symm).trans h4
    · exact cx_old h0 h hb

theorem add_swap {ma mb : Nat} (hm : G m = some (ma, mb, y)) (hc : Cx G (fun t => isTree G t ∧ (t = m ∨ Aft G m y t)) a b) (hn : ¬ Cx G (fun t => isTree G t ∧ t ≠ m) a b) (hb : bef y m x s) (t : Nat) :
    isTree (updG G s (some (a, b, x))) t ↔ (isTree G t ∧ t ≠ m) ∨ t = s := by
  have hms : m ≠ s := by rintro rfl; rw [h0] at hm; cases hm
  constructor
  · intro h
    by_cases e : t = s
    · exact .inr e
    · refine .inl ⟨tree_back h0 e h, ?_⟩
      rintro rfl
      obtain ⟨c, d, z, h1, h2⟩ := h
      rw [updG_other e, hm] at h1; simp only [Option.some.injEq, Prod.mk.injEq] at h1
      obtain ⟨rfl, rfl, rfl⟩ := h1
      have es : Cx (updG G s (some (a, b, x))) (Aft (updG G s (some (a, b, x))) t y) a b := Cx.edge (s := s) ⟨a, b, x, updG_same _ _ _, hb⟩ (updG_same _ _ _)
      have lift : ∀ {p q : Nat}, Cx G (fun u => isTree G u ∧ Aft G t y u) p q → Cx (updG G s (some (a, b, x))) (Aft (updG G s (some (a, b, x))) t y) p q := fun h => cx_keep h0 (h.mono fun _ _ h _ => h.2) _
      rcases hc.more (U' := fun u => isTree G u ∧ Aft G t y u) (s := t) (fun u hu => hu.2.elim .inr (fun h => .inl ⟨hu.1, h⟩)) hm with h | ⟨h3, h4⟩ | ⟨h3, h4⟩
      · refine hn (h.mono fun u _ hu _ => ⟨hu.1, ?_⟩)
        rintro rfl
        obtain ⟨_, _, y', e1, e2⟩ := hu.2
        rw [hm] at e1; simp only [Option.some.injEq, Prod.mk.injEq] at e1
        rw [← e1.2.2] at e2; exact bef_irr _ _ e2
      · exact h2 (((lift h3).symm.trans es).trans (lift h4).symm)
      · exact h2 (((lift h4).trans es.symm).trans (lift h3))
  · rintro (⟨h, htm⟩ | rfl)
    · obtain ⟨c, d, z, h1, h2⟩ := h
      have e : t ≠ s := by rintro rfl; rw [h0] at h1; cases h1
      refine ⟨c, d, z, by rw [updG_other e]; exact h1, fun h => ?_⟩
      by_cases hb1 : bef z t y m
      · have hc' : Cx G (Aft G t z) a b := hc.mono fun u f hu _ => by
          rcases hu.2 with rfl | ⟨a', b', y', h3, h4⟩
          · exact ⟨ma, mb, y, hm, hb1⟩
          · exact ⟨a', b', y', h3, bef_trans hb1 h4⟩
        rcases cx_new h with h | ⟨h3, h4⟩ | ⟨h3, h4⟩
        · exact h2 h
        · exact h2 ((h3.trans hc').trans h4)
        · exact h2 ((h3.trans hc'.symm).trans h4)
      · have hmt := bef_tri htm hb1
        have up : ∀ {p q : Nat}, Cx G (Aft G t z) p q → Cx G (fun u => u = t ∨ Aft G t z u) p q := fun h => h.mono fun _ _ h _ => .inr h
        have ed : Cx G (fun u => u = t ∨ Aft G t z u) c d := Cx.edge (s := t) (.inl rfl) h1
        have fin : Cx G (fun u => u = t ∨ Aft G t z u) a b → False := fun hab => by
          refine hn ((kru hS (upw_from h1) hab).mono fun u _ hu _ => ⟨hu.2, ?_⟩)
          rintro rfl
          rcases hu.1 with rfl | ⟨_, _, y', e1, e2⟩
          · exact htm rfl
          · rw [hm] at e1; simp only [Option.some.injEq, Prod.mk.injEq] at e1
            rw [← e1.2.2] at e2
            exact bef_irr _ _ (bef_trans hmt e2)
        rcases cx_new h with h | ⟨h3, h4⟩ | ⟨h3, h4⟩
        · exact h2 h
        · exact fin (((up h3).symm.trans ed).trans (up h4).symm)
        · exact fin (((up h4).trans ed.symm).trans (up h3))
    · refine ⟨a, b, x, updG_same _ _ _, fun h => ?_⟩
      have h1 := kru hS (upw_aft G t x) (cx_old h0 h (bef_irr x t))
      refine hn (h1.mono fun u _ hu _ => ⟨hu.2, ?_⟩)
      rintro rfl
      obtain ⟨_, _, y', e1, e2⟩ := hu.1
      rw [hm] at e1; simp only [Option.some.injEq, Prod.mk.injEq] at e1
      rw [← e1.2.2] at e2
      exact bef_irr _ _ (bef_trans hb e2)
end

/-- The first edge of all is taken away. -/
theorem del_first {ma mb : Nat} (hm : G m = some (ma, mb, y)) (hf : ∀ t a b z, G t = some (a, b, z) → ¬ bef z t y m) (t : Nat) : isTree (updG G m none) t ↔ isTree G t ∧ t ≠ m := by
  have aft : ∀ {t a b : Nat} {z : Int} (u : Nat), G t = some (a, b, z) → t ≠ m → (Aft (updG G m none) t z u ↔ Aft G t z u) := by
    intro t a b z u ht hne
    constructor
    · rintro ⟨c, d, w, h1, h2⟩
      have : u ≠ m := by rintro rfl; rw [updG_same] at h1; cases h1
      rw [updG_other this] at h1
      exact ⟨c, d, w, h1, h2⟩
    · rintro ⟨c, d, w, h1, h2⟩
      have : u ≠ m := by
        rintro rfl
        rw [hm] at h1; simp only [Option.some.injEq, Prod.mk.injEq] at h1
        rw [← h1.2.2] at h2
        exact hf t a b z ht h2
      exact ⟨c, d, w, by rw [updG_other this]; exact h1, h2⟩
  have cx : ∀ {t a b c d : Nat} {z : Int}, G t = some (a, b, z) → t ≠ m → (Cx (updG G m none) (Aft (updG G m none) t z) c d ↔ Cx G (Aft G t z) c d) := by
    intro t a b c d z ht hne
    constructor
    · intro h
      refine h.mono' fun u f h1 h2 => ⟨(aft u ht hne).1 h1, ?_⟩
      have : u ≠ m := by rintro rfl; rw [updG_same] at h2; cases h2
      rw [updG_other this] at h2; exact h2
    · intro h
      refine h.mono' fun u f h1 h2 => ?_
      have h3 := (aft u ht hne).2 h1
      have : u ≠ m := by rintro rfl; obtain ⟨_, _, _, e1, _⟩ := h3; rw [updG_same] at e1; cases e1
      exact ⟨h3, by rw [updG_other this]; exact h2⟩
  constructor
  · rintro ⟨a, b, z, h1, h2⟩
    have hne : t ≠ m := by rintro rfl; rw [updG_same] at h1; cases h1
    rw [updG_other hne] at h1
    exact ⟨⟨a, b, z, h1, fun h => h2 ((cx h1 hne).2 h)⟩, hne⟩
  · rintro ⟨⟨a, b, z, h1, h2⟩, hne⟩
    exact ⟨a, b, z, by rw [updG_other hne]; exact h1, fun h => h2 ((cx h1 hne).1 h)⟩
end
end Go.Proofs.YthkkelkgfkehlaaGreat

/- A region that draws its order and only reads, inside the round of a loop over a range-function: one walk in the order of the text serves. -/
namespace Go.Proofs.YthkkelkgfkehlaaGreat
open Go.RowKit

section
variable {F : Fence} {n : Nat} {P : Program} {ops : Array Oper} {md : Region.Mode} {C : World → Prop}

theorem semAt_plain (ro : Option Nat) (ρ : Operand → Value) (o : Oper) (h : ∀ c, o.op ≠ .defer c) : Oper.semAt ro ρ o = execOp ρ o := by
  cases ro with
  | none => exact Oper.semAt_none ρ o
  | some l => exact Oper.semAt_some l ρ o h

theorem quiet_op {o : Oper} {a : Act} {K : Act → Prop} {K' : Act → World → Prop} {Q' : Exit → Act → World → Prop} {w : World} (hd : ∀ c, o.op ≠ .defer c) (hw : C w) (h : ∀ a w', C w' → K a → K' a w')
    (ha : o.askedIn F P a C) (hh : o.quietIn F n P a C K) : o.wpIn F n P a w K' Q' := by
  obtain ⟨v, h1, h2⟩ := hh
  have h3 := h1 w hw
  unfold Oper.quietAtIn at h3
  refine ⟨ha w hw, ?_⟩
  rw [semAt_plain _ _ _ hd]
  generalize (execOp a.eval o).run P w = r at *
  cases r with
  | halt x w' => exact h3.elim
  | ok x w' =>
    cases x with
    | value u => obtain ⟨rfl, rfl⟩ := h3; exact h _ _ hw h2
    | skip => obtain ⟨rfl, rfl⟩ := h3; exact h _ _ hw h2
    | enter f args => obtain ⟨rfl, hd, hc⟩ := h3; exact ⟨hd, hc.mono fun e w'' ⟨he, hw''⟩ => by subst he; exact h _ _ hw'' h2⟩
    | _ => exact h3.elim

theorem quiet_opAt {i : Nat} {a : Act} {K : Act → Prop} {K' : Act → World → Prop} {Q' : Exit → Act → World → Prop} {w : World} (hd : ∀ o ∈ ops.toList, ∀ c, o.op ≠ .defer c) (hC : C w) (h : ∀ a w', C w' → K a → K' a w')
    (hh : qOpIn F n P ops C i K a) : wpOpIn F n P ops Q' i K' a w := by
  unfold qOpIn at hh
  unfold wpOpIn
  split
  · rename_i ho; simp only [ho] at hh; exact h _ _ hC hh
  · rename_i o ho
    simp only [ho] at hh
    obtain ⟨ha, hh⟩ := hh
    have hm : o ∈ ops.toList := by rw [Array.mem_toList_iff]; exact Array.mem_of_getElem? ho
    split
    · rename_i hw; simp only [hw, if_true] at hh; exact quiet_op (hd o hm) hC h ha hh
    · rename_i hw; simp only [hw] at hh; exact ⟨ha w hC, h _ _ hC hh⟩

theorem quiet_any {Q : Act → Prop} {Q' : Exit → Act → World → Prop} (hd : ∀ o ∈ ops.toList, ∀ c, o.op ≠ .defer c) (hQ : ∀ a w, C w → Q a → Q' .normal a w) : ∀ (fuel : Nat) (listed : Array Bool) (a : Act) (w : World), C w →
    wpAnyQIn F n P md ops C Q fuel listed a → wpAnyIn F n P md ops Q' fuel listed a w
  | 0, _, _, _, hw, h => ⟨h.1, hQ _ _ hw h.2⟩
  | fuel + 1, _, _, _, hw, h => ⟨fun h0 => hQ _ _ hw (h.1 h0), fun i hi => quiet_opAt hd hw (fun a' w' hw' => quiet_any hd hQ fuel _ a' w' hw') (h.2 i hi)⟩

def noDefer (o : Oper) : Bool := match o.op with
  | .defer _ => false
  | _ => true

theorem quiet_region {id : Nat} {Q : Exit → Act → World → Prop} {a : Act} {w : World} {l : List Oper} (hm : P.follows .mixedOrders = true) (hB : Region.lexB .any l.toArray = true) (hd : l.all noDefer = true)
    (h : wpQuietIn F n P l.toArray (fun w' => ∃ n, w' = w.drewN n) (fun a' => ∀ w', (∃ n, w' = w.drewN n) → Q .normal a' w') l a) : (Code.region id l.toArray true).wpIn F n P Q a w := by
  simp only [Region.lexB, Bool.and_eq_true] at hB
  have hd' : ∀ o ∈ l.toArray.toList, ∀ c, o.op ≠ .defer c := by
    intro o ho c e
    have := List.all_eq_true.1 hd o (by simpa using ho)
    simp [noDefer, e] at this
  refine wpIn_region_any hm (quiet_any (Q := fun a' => ∀ w', (∃ n, w' = w.drewN n) → Q .normal a' w') (C := fun w' => ∃ n, w' = w.drewN n) hd' (fun _ w' hw' h => h w' hw') _ _ _ _ ⟨1, rfl⟩ ?_)
  have := wpAnyQIn_lex (F := F) (n := n) (C := fun w' => ∃ n, w' = w.drewN n) (md := .any) hB.1 l 0 (Array.replicate l.toArray.size false) a (by simp) (by simpa using hB.2) h
  simpa using this
end
end Go.Proofs.YthkkelkgfkehlaaGreat

namespace Go.Proofs.YthkkelkgfkehlaaGreat
open Go.RowKit Go.Shelf
set_option maxRecDepth 4000
set_option maxHeartbeats 400000
attribute [local go_sem] Oper.semAt_some

/-- Of the blocks below n₀ only g may have changed. -/
structure Bx (n₀ g : Nat) (w w' : World) : Prop where
  os : w'.os = w.os
  tape : w'.tape = w.tape
  output : w'.output = w.output
  size : w.heap.size ≤ w'.heap.size
  keep : ∀ k, k < n₀ → k ≠ g → w'.heap[k]? = w.heap[k]?

section
variable {n₀ g : Nat} {w w' w'' : World}
theorem Bx.refl (n₀ g : Nat) (w : World) : Bx n₀ g w w := ⟨rfl, rfl, rfl, Nat.le_refl _, fun _ _ _ => rfl⟩
theorem Bx.trans (h : Bx n₀ g w w') (k : Bx n₀ g w' w'') : Bx n₀ g w w'' :=
  ⟨k.os.trans h.os, k.tape.trans h.tape, k.output.trans h.output, Nat.le_trans h.size k.size, fun i hi hn => (k.keep i hi hn).trans (h.keep i hi hn)⟩
theorem Bx.of_fr (h : Fr [g] w w') (hn : n₀ ≤ w.heap.size) : Bx n₀ g w w' := ⟨h.os, h.tape, h.output, h.size, fun k hk hne => h.keep k (by omega) (by simpa using hne)⟩
theorem Bx.of_below (h : Below n₀ w w') : Bx n₀ g w w' := ⟨h.os, h.tape, h.output, h.size, fun k hk _ => h.block k hk⟩
theorem Bx.fr (h : Bx w.heap.size g w w') : Fr [g] w w' := ⟨h.os, h.tape, h.output, h.size, fun k hk hn => h.keep k hk (by simpa using hn)⟩
theorem Bx.mono {n : Nat} (h : Bx n₀ g w w') (hn : n ≤ n₀) : Bx n g w w' := ⟨h.os, h.tape, h.output, h.size, fun k hk => h.keep k (by omega)⟩
theorem Bx.cell {p : Addr} (h : Bx n₀ g w w') (hp : p.block < n₀) (hg : p.block ≠ g) : w'.cell? p = w.cell? p := World.cell?_of_block (h.keep _ hp hg)
theorem Bx.grown {row : Option Nat} (h : Bx n₀ g w w') (hg : w'.grownBy w'' row) (hn : n₀ ≤ w'.heap.size) (hr : ∀ k, row = some k → n₀ ≤ k) : Bx n₀ g w w'' :=
  h.trans ⟨hg.os, hg.tape, hg.output, hg.size, fun k hk _ => hg.block k (by omega) (fun e => by have := hr k e.symm; omega)⟩
theorem Bx.alloc (h : Bx n₀ g w w') (hn : n₀ ≤ w'.heap.size) (o : Obj) : Bx n₀ g w (w'.alloc o) := h.grown (World.grownBy_alloc _ _ none) hn (fun _ e => by cases e)
end
theorem bxK_b {n₀ g : Nat} {w : World} (hn : n₀ ≤ w.heap.size) (W : World) (l : Nat) (o o' : Obj) (hl : w.heap.size ≤ l) (h : W.heap[l]? = some o) (_ : o.isCells = false) (_ : o.isWalk = false) : Bx n₀ g W (W.putObj l o') :=
  (Bx.refl n₀ g W).grown (grownBy_putObj' W l o') (by have := (Array.getElem?_eq_some_iff.1 h).1; omega) (fun k e => by cases e; omega)
theorem ownFrom_bx {β : Type} {n₀ g B : Nat} {w₀ : World} (hn : n₀ ≤ w₀.heap.size) (hB : n₀ ≤ B) : OwnFrom B (fun (_ : β) W => Bx n₀ g w₀ W) :=
  fun _ _ _ _ hs hg hr => hs.grown hg (Nat.le_trans hn hs.size) (fun k e => Nat.le_trans hB (hr k e).1)
theorem keepsOthers_fr {g : Nat} {w w' : World} {arr : Array Value} {t : TypeId} {z : Nat × Nat} (h : Fr [g] w w') (hg : w.heap[g]? = some (.cells arr t z)) : KeepsOthers w w' :=
  ⟨h.size, fun k o hk ho => by
    have hkg : k ≠ g := by
      rintro rfl; rw [hg] at hk; cases hk; cases ho
    exact (h.keep k (Array.getElem?_eq_some_iff.1 hk).1 (by simpa using hkg)).trans hk⟩

/-- An index with its place, as the range-function yields them. -/
abbrev Pl (N : Nat) := { x : Nat × Nat // x.2 < N }
def bk (N m : Nat) (P : Nat → Nat) (hP : ∀ i, P i < N) (k : Nat) : Pl N := ⟨(m - 1 - k, P (m - 1 - k)), hP _⟩
def bks (N m : Nat) (P : Nat → Nat) (hP : ∀ i, P i < N) (k : Nat) : List (Pl N) := (List.range k).map (bk N m P hP)
theorem bks_succ (N m : Nat) (P : Nat → Nat) (hP : ∀ i, P i < N) (k : Nat) : bks N m P hP (k + 1) = bks N m P hP k ++ [bk N m P hP k] := by simp [bks, List.range_succ]

theorem back_in (v : Value) (hv : v.oneCell' = true) (w : World) :
    CallsIn Fence.wide 9 Tryz.prog 90 #[v] w fun e w' => e = .returned (.func (.func 100) #[] #[.pointer (some ⟨w.heap.size, 0, none⟩)]) ∧ w' = w.alloc (.cells #[v] 40) := by
  refine callsIn_of_wp Tryz.func90 rfl trivial ?_ rfl
  simp only [Tryz.ntmps90, List.size_toArray, List.length_cons, List.length_nil, Nat.reduceAdd, Nat.reduceSub, Array.replicate_succ, Array.replicate_zero, List.push_toArray, List.append_toArray, List.nil_append, List.cons_append]
  gi_wp2
  go_ret
  exact ⟨rfl, rfl⟩

theorem back1_in (nf l Bb gp m cap N g B : Nat) (P : Nat → Nat) (hP : ∀ i, P i < N) (_hN : N ≤ 65537) (hm : m ≤ 65537) (hnf : 2 ≤ nf) (hBb : Bb < B) (hgp : gp < B) (hbg : Bb ≠ g) (hpg : gp ≠ g)
    (J Jx : List (Pl N) → World → Prop)
    (hY : ∀ pre x W, J pre W → pre.length < m → YieldAt Fence.wide (nf - 1) Tryz.prog l #[.int .i64 x.1.1, .int .i64 x.1.2] W fun e W' =>
      (e = .returned (.bool true) ∧ J (pre ++ [x]) W' ∧ Bx B g W W') ∨ (e = .returned (.bool false) ∧ Jx (pre ++ [x]) W'))
    (W : World) (hc : W.cell? ⟨Bb, 0, none⟩ = some (.slice (some ⟨gp, 0, none⟩) m cap)) (_hmc : m ≤ cap) (hp : ∀ i, i < m → W.cell? ⟨gp, i, none⟩ = some (.int .i64 (P i))) (h0 : J [] W) :
    CallsIn Fence.wide nf Tryz.prog 100 #[.func (.yield l) #[] #[], .pointer (some ⟨Bb, 0, none⟩)] W fun e W' => (∃ v, e = .returned v) ∧
      ((∃ ys, ys = bks N m P hP m ∧ J ys W') ∨ (∃ pre, True ∧ Jx pre W')) := by
  have HP := Lib.hid hp; clear hp
  refine callsIn_of_wp Tryz.func100 rfl trivial ?_ rfl
  simp only [Tryz.ntmps100, List.size_toArray, List.length_cons, List.length_nil, Nat.reduceAdd, Nat.reduceSub, Array.replicate_succ, Array.replicate_zero, List.push_toArray, List.append_toArray, List.nil_append, List.cons_append]
  gi_wp2
  gi_loopw [3] (fun x wr => ∃ i : Nat, i ≤ m ∧ x = .int .i64 ((i : Int) - 1) ∧ Bx B g W wr ∧ J (bks N m P hP (m - i)) wr) (fun x _ => (intOf x + 1).toNat)
  case atStart => exact ⟨m, Nat.le_refl _, by go_num, Bx.refl _ _ _, by rw [Nat.sub_self]; exact h0⟩
  case round =>
    obtain ⟨i, hi, rfl, hB, hJ⟩ := hrel
    cases i with
    | zero =>
      rw [show ((0 : Nat) : Int) - 1 = -1 by rfl]
      gi_wp2
      go_end0
      exact ⟨⟨_, rfl⟩, .inl ⟨_, rfl, hJ⟩⟩
    | succ j =>
      rw [show ((j + 1 : Nat) : Int) - 1 = (j : Int) by omega]
      have rc := (hB.cell (p := ⟨Bb, 0, none⟩) hBb hbg).trans hc
      have rp := (hB.cell (p := ⟨gp, j, none⟩) hgp hpg).trans (HP.out j (by omega))
      obtain ⟨fn, tmps, assign, body, hy, hRd⟩ := hY (bks N m P hP (m - (j + 1))) (bk N m P hP (m - (j + 1))) wr hJ (by simp [bks]; omega)
      have e0 : (bk N m P hP (m - (j + 1))).1.1 = j := by simp only [bk]; omega
      have e1 : (bk N m P hP (m - (j + 1))).1.2 = P j := by simp only [bk]; rw [show m - 1 - (m - (j + 1)) = j by omega]
      rw [e0, e1] at hy
      clear e0 e1
      have hjm : (j : Int) < m := by omega
      gi_wp2
      refine ⟨fun _ => by omega, ?_⟩
      refine hRd.mono ?_
      rintro e W3 (⟨rfl, hJ3, hk3⟩ | ⟨rfl, hJx3⟩)
      · clear rc rp
        gi_wp2
        go_roundw
        case rel => exact ⟨j, by omega, by go_num, hB.trans hk3, by rw [show m - j = (m - (j + 1)) + 1 by omega, bks_succ]; exact hJ3⟩
        case measure => simp [intOf]
      · gi_wp2
        refine bodyPost_ret (results_none rfl _ _ _) rfl ?_
        exact ⟨⟨_, rfl⟩, .inr ⟨_, trivial, hJx3⟩⟩

end Go.Proofs.YthkkelkgfkehlaaGreat
