/- lct: the forest over its vertices 0 .. n-1 (vertex v lies at the place v+1). -/
import Derived.Test.YtoppjjgecgbbkaaLctPath
namespace Go.Proofs.Ytoppjjgecgbbkaa
open Go.RowKit

theorem last_snoc (l : List Nat) (x : Nat) : (l ++ [x]).getLast? = some x := by simp
theorem last_app (l m : List Nat) (x : Nat) : (l ++ x :: m).getLast? = (x :: m).getLast? := by
  rw [List.getLast?_append]
  cases h : (x :: m).getLast? with
  | none => rw [List.getLast?_eq_none_iff] at h; cases h
  | some y => rfl

def Conn (E : Nat → Nat → Prop) (a b : Nat) : Prop := ∃ p, IsPath E a b p

theorem wk_map {E : Nat → Nat → Prop} {par : Nat → Nat} (h : ∀ v u, E v u ↔ Adj par (v + 1) (u + 1)) : ∀ {a : Nat} {l : List Nat}, Wk E a l ↔ Wk (Adj par) (a + 1) (l.map (· + 1))
  | _, [] => Iff.rfl
  | a, x :: l => by simp only [Wk, List.map_cons]; rw [h, wk_map h]
theorem nodup_map_succ {l : List Nat} : (l.map (· + 1)).Nodup ↔ l.Nodup := by
  constructor
  · intro h; exact (List.pairwise_map.1 h).imp (fun {a b} hab e => hab (by rw [e]))
  · intro h; exact List.pairwise_map.2 (h.imp (fun {a b} hab => by omega))
theorem map_pred_succ {l : List Nat} (h : ∀ x ∈ l, x ≠ 0) : (l.map (· - 1)).map (· + 1) = l := by
  rw [List.map_map]
  refine (List.map_congr_left (fun x hx => ?_)).trans (List.map_id l)
  have := h x hx
  show x - 1 + 1 = id x
  simp; omega
theorem map_succ_pred (l : List Nat) : (l.map (· + 1)).map (· - 1) = l := by
  rw [List.map_map]
  exact (List.map_congr_left (fun x hx => by show x + 1 - 1 = id x; simp)).trans (List.map_id l)

theorem path_shift {E : Nat → Nat → Prop} {par : Nat → Nat} (h : ∀ v u, E v u ↔ Adj par (v + 1) (u + 1)) {v u : Nat} {p : List Nat} : IsPath E v u p ↔ IsPath (Adj par) (v + 1) (u + 1) (p.map (· + 1)) := by
  constructor
  · rintro ⟨l, rfl, h2, h3, h4⟩
    refine ⟨l.map (· + 1), rfl, (wk_map h).1 h2, nodup_map_succ.2 h3, ?_⟩
    rw [List.getLast?_map, h4]; rfl
  · rintro ⟨l, h1, h2, h3, h4⟩
    cases p with
    | nil => cases h1
    | cons x p =>
      simp only [List.map_cons, List.cons.injEq] at h1
      obtain ⟨e, rfl⟩ := h1
      obtain rfl : x = v := by omega
      refine ⟨p, rfl, (wk_map h).2 h2, nodup_map_succ.1 h3, ?_⟩
      rw [List.getLast?_map] at h4
      cases hl : (x :: p).getLast? with
      | none => rw [hl] at h4; cases h4
      | some y => rw [hl] at h4; simp at h4; rw [h4]
theorem path_unshift {E : Nat → Nat → Prop} {par : Nat → Nat} (h : ∀ v u, E v u ↔ Adj par (v + 1) (u + 1)) {v u : Nat} {q : List Nat} (hq : IsPath (Adj par) (v + 1) (u + 1) q) : IsPath E v u (q.map (· - 1)) ∧ (q.map (· - 1)).map (· + 1) = q := by
  have hn : ∀ x ∈ q, x ≠ 0 := by
    obtain ⟨l, rfl, h2, _⟩ := hq
    intro x hx
    rcases List.mem_cons.1 hx with rfl | hx
    · omega
    · exact wk_ne h2 x hx
  have e := map_pred_succ hn
  exact ⟨(path_shift h).2 (by rw [e]; exact hq), e⟩

/-- A forest. -/
def Frs (E : Nat → Nat → Prop) : Prop := ∃ par d rt, Rtd par d rt ∧ ∀ v u, E v u ↔ Adj par (v + 1) (u + 1)

section
variable {E : Nat → Nat → Prop} {a b c : Nat} {p q r : List Nat}
theorem Frs.symm (h : Frs E) {v u : Nat} (he : E v u) : E u v := by
  obtain ⟨par, d, rt, _, h2⟩ := h
  exact (h2 u v).2 ((h2 v u).1 he).symm
theorem Frs.irrefl (h : Frs E) (v : Nat) : ¬ E v v := by
  obtain ⟨par, d, rt, h1, h2⟩ := h
  exact fun e => h1.irrefl _ ((h2 v v).1 e)
theorem Frs.unique (h : Frs E) (hp : IsPath E a b p) (hq : IsPath E a b q) : p = q := by
  obtain ⟨par, d, rt, h1, h2⟩ := h
  have := h1.unique (by omega) ((path_shift h2).1 hp) ((path_shift h2).1 hq)
  rw [← map_succ_pred p, this, map_succ_pred]
theorem conn_rt {par d rt : Nat → Nat} (h1 : Rtd par d rt) (h2 : ∀ v u, E v u ↔ Adj par (v + 1) (u + 1)) : Conn E a b ↔ rt (a + 1) = rt (b + 1) := by
  rw [← h1.conn (by omega) (by omega)]
  constructor
  · rintro ⟨p, hp⟩; exact ⟨_, (path_shift h2).1 hp⟩
  · rintro ⟨p, hp⟩; exact ⟨_, (path_unshift h2 hp).1⟩
theorem isPath_self (E : Nat → Nat → Prop) (a : Nat) : IsPath E a a [a] := ⟨[], rfl, trivial, by simp, rfl⟩
theorem Conn.refl (E : Nat → Nat → Prop) (a : Nat) : Conn E a a := ⟨[a], isPath_self E a⟩
theorem Frs.csymm (h : Frs E) (hc : Conn E a b) : Conn E b a := by
  obtain ⟨par, d, rt, h1, h2⟩ := h
  exact (conn_rt h1 h2).2 ((conn_rt h1 h2).1 hc).symm
theorem Frs.ctrans (h : Frs E) (hc : Conn E a b) (hd : Conn E b c) : Conn E a c := by
  obtain ⟨par, d, rt, h1, h2⟩ := h
  exact (conn_rt h1 h2).2 (((conn_rt h1 h2).1 hc).trans ((conn_rt h1 h2).1 hd))
theorem Frs.edge (h : Frs E) (he : E a b) : IsPath E a b [a, b] := by
  refine ⟨[b], rfl, ⟨he, trivial⟩, ?_, rfl⟩
  have : a ≠ b := by rintro rfl; exact h.irrefl a he
  simp [this]

theorem wk_append {x : Nat} {l m : List Nat} : Wk E a (l ++ x :: m) ↔ Wk E a (l ++ [x]) ∧ Wk E x m := by
  induction l generalizing a with
  | nil => simp [Wk]
  | cons y l ih => simp only [List.cons_append, Wk]; rw [ih, and_assoc]
theorem wk_rev (h : ∀ v u, E v u → E u v) : ∀ {l : List Nat} {a b : Nat}, Wk E a (l ++ [b]) → Wk E b (l.reverse ++ [a])
  | [], a, b, ⟨h1, _⟩ => ⟨h _ _ h1, trivial⟩
  | x :: l, a, b, ⟨h1, h2⟩ => by
    have := wk_rev h h2
    rw [List.reverse_cons, List.append_assoc]
    exact wk_append.2 ⟨this, h _ _ h1, trivial⟩
theorem IsPath.rev (h : ∀ v u, E v u → E u v) (hp : IsPath E a b p) : IsPath E b a p.reverse := by
  obtain ⟨l, rfl, h2, h3, h4⟩ := hp
  have hnr : (a :: l).reverse.Nodup := (List.reverse_perm _).nodup_iff.2 h3
  rcases List.eq_nil_or_concat l with rfl | ⟨S, x, rfl⟩
  · simp at h4; subst h4; exact isPath_self E a
  · rw [List.concat_eq_append] at *
    have hx : x = b := by rw [← List.cons_append, last_snoc] at h4; exact Option.some.inj h4
    subst hx
    refine ⟨S.reverse ++ [a], by simp, wk_rev h h2, hnr, by rw [List.reverse_cons, last_snoc]⟩
/-- A path that leads over a vertex. -/
theorem IsPath.split {A B : List Nat} {m : Nat} (hp : IsPath E a b (A ++ m :: B)) : IsPath E a m (A ++ [m]) ∧ IsPath E m b (m :: B) := by
  obtain ⟨l, h1, h2, h3, h4⟩ := hp
  have hn := List.nodup_append.1 h3
  have e : A ++ m :: B = (A ++ [m]) ++ B := by simp
  have hl : (m :: B).getLast? = some b := by rw [← h4, last_app]
  refine ⟨?_, B, rfl, ?_, hn.2.1, hl⟩
  · have hna : (A ++ [m]).Nodup := by rw [e] at h3; exact (List.nodup_append.1 h3).1
    cases A with
    | nil => simp at h1; obtain ⟨rfl, rfl⟩ := h1; exact isPath_self E m
    | cons x A =>
      simp at h1; obtain ⟨rfl, rfl⟩ := h1
      exact ⟨A ++ [m], rfl, (wk_append.1 h2).1, hna, last_snoc _ _⟩
  · cases A with
    | nil => simp at h1; obtain ⟨rfl, rfl⟩ := h1; exact h2
    | cons x A => simp at h1; obtain ⟨rfl, rfl⟩ := h1; exact (wk_append.1 h2).2
theorem IsPath.join {A B : List Nat} {m : Nat} (hp : IsPath E a m (A ++ [m])) (hq : IsPath E m b (m :: B)) (hd : (A ++ m :: B).Nodup) : IsPath E a b (A ++ m :: B) := by
  obtain ⟨l, h1, h2, h3, h4⟩ := hp
  obtain ⟨l', h1', h2', h3', h4'⟩ := hq
  simp at h1'; subst h1'
  cases A with
  | nil => simp at h1; obtain ⟨rfl, rfl⟩ := h1; exact ⟨B, rfl, h2', hd, h4'⟩
  | cons x A =>
    simp at h1; obtain ⟨rfl, rfl⟩ := h1
    refine ⟨A ++ m :: B, rfl, wk_append.2 ⟨h2, h2'⟩, hd, ?_⟩
    rw [last_app]; exact h4'
theorem IsPath.first (hp : IsPath E a b p) : ∃ l, p = a :: l := by obtain ⟨l, h, _⟩ := hp; exact ⟨l, h⟩
theorem IsPath.last (hp : IsPath E a b p) : p.getLast? = some b := by obtain ⟨l, _, _, _, h⟩ := hp; exact h
theorem IsPath.nd (hp : IsPath E a b p) : p.Nodup := by obtain ⟨l, _, _, h, _⟩ := hp; exact h
theorem IsPath.ne (hp : IsPath E a b p) : p ≠ [] := by obtain ⟨l, rfl, _⟩ := hp; simp
theorem IsPath.mem_conn (hp : IsPath E a b p) {x : Nat} (hx : x ∈ p) : Conn E a x := by
  obtain ⟨A, B, rfl⟩ := List.append_of_mem hx
  exact ⟨_, hp.split.1⟩
end

end Go.Proofs.Ytoppjjgecgbbkaa
