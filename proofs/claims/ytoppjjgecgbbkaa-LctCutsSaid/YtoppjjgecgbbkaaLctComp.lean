/- lct: how many trees a forest has, and how an edge changes that. -/
import Derived.Test.YtoppjjgecgbbkaaLctVert
namespace Go.Proofs.Ytoppjjgecgbbkaa
open Go.RowKit Classical

/-- The vertex is the first one of its tree. -/
def IsFirst (E : Nat → Nat → Prop) (v : Nat) : Prop := ∀ u, u < v → ¬ Conn E v u
noncomputable def nc (n : Nat) (E : Nat → Nat → Prop) : Nat := ((List.range n).filter fun v => decide (IsFirst E v)).length
noncomputable def csize (n : Nat) (E : Nat → Nat → Prop) (v : Nat) : Nat := ((List.range n).filter fun u => decide (Conn E v u)).length

theorem nc_le (n : Nat) (E : Nat → Nat → Prop) : nc n E ≤ n := by
  unfold nc
  have := List.length_filter_le (fun v => decide (IsFirst E v)) (List.range n)
  simpa using this
theorem csize_le (n : Nat) (E : Nat → Nat → Prop) (v : Nat) : csize n E v ≤ n := by
  unfold csize
  have := List.length_filter_le (fun u => decide (Conn E v u)) (List.range n)
  simpa using this
theorem conn_congr {E E' : Nat → Nat → Prop} (h : ∀ v u, E v u ↔ E' v u) (a b : Nat) : Conn E a b ↔ Conn E' a b :=
  ⟨fun ⟨p, hp⟩ => ⟨p, hp.mono (fun x y => (h x y).1)⟩, fun ⟨p, hp⟩ => ⟨p, hp.mono (fun x y => (h x y).2)⟩⟩
theorem E_ext {E E' : Nat → Nat → Prop} (h : ∀ v u, E v u ↔ E' v u) : E = E' := funext fun v => funext fun u => propext (h v u)

theorem filter_drop_one {P P' : Nat → Bool} {m : Nat} : ∀ {l : List Nat}, l.Nodup → m ∈ l → P m = true → P' m = false → (∀ x ∈ l, x ≠ m → P' x = P x) → (l.filter P').length + 1 = (l.filter P).length
  | y :: l, hn, hm, h1, h2, h3 => by
    have hn' := List.nodup_cons.1 hn
    by_cases e : y = m
    · subst e
      have : l.filter P' = l.filter P := List.filter_congr (fun x hx => h3 x (by simp [hx]) (by rintro rfl; exact hn'.1 hx))
      simp [h1, h2, this]
    · have hml : m ∈ l := (List.mem_cons.1 hm).resolve_left (fun h => e h.symm)
      have ih := filter_drop_one hn'.2 hml h1 h2 (fun x hx => h3 x (by simp [hx]))
      have hy := h3 y (by simp) e
      cases hp : P y with
      | true => simp [hy, hp, ih]
      | false => simp [hy, hp, ih]

/-- The edges with one more. -/
def addE (E : Nat → Nat → Prop) (a b : Nat) : Nat → Nat → Prop := fun v u => E v u ∨ (v = a ∧ u = b) ∨ (v = b ∧ u = a)
def delE (E : Nat → Nat → Prop) (a b : Nat) : Nat → Nat → Prop := fun v u => E v u ∧ ¬ (v = a ∧ u = b) ∧ ¬ (v = b ∧ u = a)

section
variable {E : Nat → Nat → Prop} {a b n : Nat}
theorem conn_of_edge {v u : Nat} (h : Frs E) (he : E v u) : Conn E v u := ⟨_, h.edge he⟩
theorem conn_add (h : Frs E) (h' : Frs (addE E a b)) (x y : Nat) : Conn (addE E a b) x y ↔ Conn E x y ∨ (Conn E x a ∧ Conn E b y) ∨ (Conn E x b ∧ Conn E a y) := by
  constructor
  · rintro ⟨p, l, rfl, hw, _, hl⟩
    have key : ∀ {l : List Nat} {x : Nat}, Wk (addE E a b) x l → ∀ y ∈ x :: l, Conn E x y ∨ (Conn E x a ∧ Conn E b y) ∨ (Conn E x b ∧ Conn E a y) := by
      intro l
      induction l with
      | nil => intro x _ y hy; simp at hy; subst hy; exact .inl (Conn.refl E y)
      | cons z l ih =>
        intro x ⟨h1, h2⟩ y hy
        rcases List.mem_cons.1 hy with rfl | hy
        · exact .inl (Conn.refl E y)
        have hz := ih h2 y hy
        rcases h1 with h1 | ⟨rfl, rfl⟩ | ⟨rfl, rfl⟩
        · have hxz := conn_of_edge h h1
          rcases hz with hz | ⟨hz1, hz2⟩ | ⟨hz1, hz2⟩
          · exact .inl (h.ctrans hxz hz)
          · exact .inr (.inl ⟨h.ctrans hxz hz1, hz2⟩)
          · exact .inr (.inr ⟨h.ctrans hxz hz1, hz2⟩)
        · rcases hz with hz | ⟨hz1, hz2⟩ | ⟨hz1, hz2⟩
          · exact .inr (.inl ⟨Conn.refl E x, hz⟩)
          · exact .inr (.inl ⟨Conn.refl E x, hz2⟩)
          · exact .inl hz2
        · rcases hz with hz | ⟨hz1, hz2⟩ | ⟨hz1, hz2⟩
          · exact .inr (.inr ⟨Conn.refl E x, hz⟩)
          · exact .inl hz2
          · exact .inr (.inr ⟨Conn.refl E x, hz2⟩)
    exact key hw y (List.mem_of_getLast? hl)
  · have hm : ∀ {x y}, Conn E x y → Conn (addE E a b) x y := fun ⟨p, hp⟩ => ⟨p, hp.mono (fun _ _ e => .inl e)⟩
    have hab : Conn (addE E a b) a b := conn_of_edge h' (.inr (.inl ⟨rfl, rfl⟩))
    rintro (e | ⟨e1, e2⟩ | ⟨e1, e2⟩)
    · exact hm e
    · exact h'.ctrans (hm e1) (h'.ctrans hab (hm e2))
    · exact h'.ctrans (hm e1) (h'.ctrans (h'.csymm hab) (hm e2))

theorem least_ex {P : Nat → Prop} {n : Nat} (h : P n) : ∃ m, m ≤ n ∧ P m ∧ ∀ k, k < m → ¬ P k := by
  induction n using Nat.strongRecOn with
  | _ n ih =>
    by_cases hm : ∃ m, m < n ∧ P m
    · obtain ⟨m, hlt, hp⟩ := hm
      obtain ⟨m', h1, h2, h3⟩ := ih m hlt hp
      exact ⟨m', by omega, h2, h3⟩
    · exact ⟨n, Nat.le_refl _, h, fun k hk hp => hm ⟨k, hk, hp⟩⟩

theorem nc_add (h : Frs E) (h' : Frs (addE E a b)) (hab : ¬ Conn E a b) (ha : a < n) (hb : b < n) : nc n (addE E a b) + 1 = nc n E := by
  obtain ⟨fa, ha1, ha2, ha3⟩ := least_ex (P := fun k => Conn E a k) (Conn.refl E a)
  obtain ⟨fb, hb1, hb2, hb3⟩ := least_ex (P := fun k => Conn E b k) (Conn.refl E b)
  have hne : fa ≠ fb := by rintro rfl; exact hab (h.ctrans ha2 (h.csymm hb2))
  have hfa : IsFirst E fa := fun k hk hc => ha3 k hk (h.ctrans ha2 hc)
  have hfb : IsFirst E fb := fun k hk hc => hb3 k hk (h.ctrans hb2 hc)
  -- of the two first vertices the later one is no first vertex any more
  have key : ∀ {a b fa fb : Nat}, fa < fb → Conn E a fa → Conn E b fb → IsFirst E fa → IsFirst E fb → ¬ Conn E a b → Frs (addE E a b) → b < n → fb ≤ b → (∀ k, k < fa → ¬ Conn E a k) → nc n (addE E a b) + 1 = nc n E := by
    intro a b fa fb hlt hca hcb hfa hfb hab h' hbn hfbb hmin
    have hbc := conn_add (a := a) (b := b) h h'
    unfold nc
    refine filter_drop_one (m := fb) List.nodup_range (List.mem_range.2 (by omega)) (decide_eq_true hfb) (decide_eq_false ?_) ?_
    · intro hf
      exact hf fa hlt ((hbc fb fa).2 (.inr (.inr ⟨h.csymm hcb, hca⟩)))
    · intro x _ hx
      refine decide_eq_decide.2 ⟨fun hf u hu hc => hf u hu ((hbc x u).2 (.inl hc)), fun hf u hu hc => ?_⟩
      rcases (hbc x u).1 hc with e | ⟨e1, e2⟩ | ⟨e1, e2⟩
      · exact hf u hu e
      · -- x is with a, u with b: then x = fa, and fb ≤ u
        have hxfa : Conn E x fa := h.ctrans e1 hca
        have h1 : x = fa := by
          rcases Nat.lt_trichotomy x fa with q | q | q
          · exact absurd (h.csymm hxfa) (hfa x q)
          · exact q
          · exact absurd hxfa (hf fa q)
        have : ¬ u < fb := fun q => hfb u q (h.ctrans (h.csymm hcb) e2)
        omega
      · have hxfb : Conn E x fb := h.ctrans e1 hcb
        rcases Nat.lt_trichotomy x fb with q | q | q
        · exact absurd (h.csymm hxfb) (hfb x q)
        · exact absurd q hx
        · exact absurd hxfb (hf fb q)
  rcases Nat.lt_or_gt_of_ne hne with q | q
  · exact key q ha2 hb2 hfa hfb hab h' hb hb1 ha3
  · have e : addE E a b = addE E b a := E_ext (fun v u => by unfold addE; constructor <;> (rintro (e | e | e); exact .inl e; exact .inr (.inr e); exact .inr (.inl e)))
    rw [e]
    exact key q hb2 ha2 hfb hfa (fun e => hab (h.csymm e)) (by rw [← e]; exact h') ha ha1 hb3

theorem add_del (h : Frs E) (he : E a b) : addE (delE E a b) a b = E := by
  refine E_ext (fun v u => ?_)
  unfold addE delE
  constructor
  · rintro (e | ⟨rfl, rfl⟩ | ⟨rfl, rfl⟩)
    · exact e.1
    · exact he
    · exact h.symm he
  · intro e
    by_cases h1 : v = a ∧ u = b
    · exact .inr (.inl h1)
    · by_cases h2 : v = b ∧ u = a
      · exact .inr (.inr h2)
      · exact .inl ⟨e, h1, h2⟩
theorem del_sep (h : Frs E) (he : E a b) : ¬ Conn (delE E a b) a b := by
  rintro ⟨p, hp⟩
  have h1 := hp.mono (E' := E) (fun x y e => e.1)
  have h2 := h.unique h1 (h.edge he)
  subst h2
  obtain ⟨l, e, hw, _⟩ := hp
  simp at e
  subst e
  exact hw.1.2.1 ⟨rfl, rfl⟩
theorem nc_del (h : Frs E) (h' : Frs (delE E a b)) (he : E a b) (ha : a < n) (hb : b < n) : nc n (delE E a b) = nc n E + 1 := by
  have e := add_del h he
  have := nc_add (n := n) h' (by rw [e]; exact h) (del_sep h he) ha hb
  rw [e] at this; exact this.symm
end

theorem nc_none (n : Nat) : nc n (fun _ _ => False) = n := by
  unfold nc
  rw [List.filter_eq_self.2]
  · simp
  · intro v _
    refine decide_eq_true (fun u hu ⟨p, l, e, hw, _, hl⟩ => ?_)
    cases l with
    | nil => subst e; simp at hl; omega
    | cons x l => exact hw.1

end Go.Proofs.Ytoppjjgecgbbkaa
