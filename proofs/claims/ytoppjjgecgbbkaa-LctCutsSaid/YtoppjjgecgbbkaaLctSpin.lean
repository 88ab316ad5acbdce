/- lct: the rotations of a splay, as steps of trees. -/
import Derived.Test.YtoppjjgecgbbkaaLctWay
namespace Go.Proofs.Ytoppjjgecgbbkaa
open Go.RowKit

theorem Out.congr {σ τ : Tbl} {u : Nat} {ns ms : List Nat} (h : Out σ u ns) (hr : Rotated σ τ ms) (hm : ∀ x, x ∈ ns ↔ x ∈ ms) : Out τ u ns := by
  rcases h with h | ⟨h1, h2, h3⟩
  · exact .inl h
  · right
    rw [hr.other u (fun e => h1 ((hm u).2 e))]
    exact ⟨h1, h2, h3⟩
theorem Out.perm {σ : Tbl} {u : Nat} {ns ms : List Nat} (h : Out σ u ns) (hm : ∀ x, x ∈ ns ↔ x ∈ ms) : Out σ u ms := by
  rcases h with h | ⟨h1, h2, h3⟩
  · exact .inl h
  · exact .inr ⟨fun e => h1 ((hm _).2 e), fun e => h2 ((hm _).2 e), fun e => h3 ((hm _).2 e)⟩

theorem side_frame {σ : Tbl} {a : Fm} {c : List Fm} {t : BT} {u : Nat} (h : Rep σ (plug (a :: c) t) u) (h0 : t.root ≠ 0) (hnd : (plug (a :: c) t).nodes.Nodup) : sideOf σ t.root = (sd a.s, true) ∧ (σ t.root).up = a.p := by
  obtain ⟨hT, hC⟩ := rep_plug.1 h
  obtain ⟨⟨hp0, _, _, hpk, hpo⟩, hRo, _⟩ := hC
  have hup : (σ t.root).up = a.p := by
    cases t with
    | nil => exact absurd rfl h0
    | node f l v r => exact hT.1.2.1
  refine ⟨?_, hup⟩
  refine sideOf_frame h0 hp0 hup hpk hpo ?_
  intro e
  have hor : a.o.root ≠ 0 := by rw [e]; exact h0
  have h1 := BT.root_mem hor
  have h2 := BT.root_mem h0
  have := (plug_nodes (a :: c) t).nodup_iff.1 hnd
  rw [List.nodup_append] at this
  exact this.2.2 _ h2 _ (by simp only [cnodes, List.cons_append, List.mem_cons, List.mem_append]; exact .inr (.inl h1)) e.symm

theorem InR.rotate {N : Nat} {σ : Tbl} (h : InR N σ) {i : Nat} (hi : i < N) (q0 : (rot3 σ i (σ i).up).k0 ≠ (σ i).up) (q1 : (rot3 σ i (σ i).up).k1 ≠ (σ i).up) (q2 : (rot3 σ i i).k0 ≠ i) (q3 : (rot3 σ i i).k1 ≠ i) : InR N (rotate σ i) := by
  have hp := (h i hi).2.2.1
  have hR1 := h.rot1 hi
  have hR2 : InR N (rot2 σ i) := hR1.hang hp (hR1.kid hi _)
  have hR3 : InR N (rot3 σ i) := hR2.hang hi hp
  unfold Proofs.Ytoppjjgecgbbkaa.rotate
  exact (hR3.refresh hp q0 q1).refresh hi (by rw [refresh_links.1]; exact q2) (by rw [refresh_links.2.1]; exact q3)

def RotOK (σ : Tbl) (i : Nat) : Prop := (rot3 σ i (σ i).up).k0 ≠ (σ i).up ∧ (rot3 σ i (σ i).up).k1 ≠ (σ i).up ∧ (rot3 σ i i).k0 ≠ i ∧ (rot3 σ i i).k1 ≠ i

/-- A node i on its way to the root; t₀ is the tree at the start. -/
structure Spin (N : Nat) (σ τ : Tbl) (u i : Nat) (t₀ : BT) (c : List Fm) (l r : BT) : Prop where
  rep : Rep τ (plug c (.node false l i r)) u
  ff : ∀ a ∈ c, a.f = false
  seq : (plug c (.node false l i r)).seq = t₀.seq
  perm : (plug c (.node false l i r)).nodes.Perm t₀.nodes
  rot : Rotated σ τ t₀.nodes
  inR : InR N τ

section
variable {N : Nat} {σ τ : Tbl} {u i : Nat} {t₀ : BT} {a b : Fm} {c : List Fm} {l r : BT}
theorem Spin.nd (h : Spin N σ τ u i t₀ c l r) (hnd : t₀.nodes.Nodup) : (plug c (.node false l i r)).nodes.Nodup := h.perm.nodup_iff.2 hnd
theorem Spin.out (h : Spin N σ τ u i t₀ c l r) (hO : Out σ u t₀.nodes) : Out τ u (plug c (.node false l i r)).nodes :=
  (hO.congr h.rot (fun _ => Iff.rfl)).perm (fun _ => h.perm.mem_iff.symm)
theorem Spin.zig (h : Spin N σ τ u i t₀ (a :: c) l r) (hnd : t₀.nodes.Nodup) (hO : Out σ u t₀.nodes) (hi : i < N) : RotOK τ i ∧ ∃ l' r', Spin N σ (rotate τ i) u i t₀ c l' r' := by
  obtain ⟨h1, h2, h3⟩ := rotate_rep h.rep (h.ff a (by simp)) (h.nd hnd) (h.out hO)
  obtain ⟨l', r', e⟩ : ∃ l' r', rotT a l i r = .node false l' i r' := by unfold rotT; split <;> exact ⟨_, _, rfl⟩
  have hn : (plug c (.node false l' i r')).nodes.Perm (plug (a :: c) (.node false l i r)).nodes := by
    rw [← e]; simp only [plug]
    refine (plug_nodes c _).trans (.trans ?_ (plug_nodes c _).symm)
    rw [rotT_nodes]
  refine ⟨h3, l', r', by rw [← e]; exact h1, fun b hb => h.ff b (by simp [hb]), ?_, hn.trans h.perm, ?_, h.inR.rotate hi h3.1 h3.2.1 h3.2.2.1 h3.2.2.2⟩
  · rw [← h.seq, ← e]; simp only [plug]; exact plug_seq c (rotT_seq a (h.ff a (by simp)) l i r)
  · exact h.rot.trans (h2.perm (fun _ => h.perm.mem_iff))
theorem Spin.zigp (h : Spin N σ τ u i t₀ (a :: b :: c) l r) (hs : a.s = b.s) (hnd : t₀.nodes.Nodup) (hO : Out σ u t₀.nodes) (hp : a.p < N) : RotOK τ a.p ∧ ∃ a', Spin N σ (rotate τ a.p) u i t₀ (a' :: c) l r := by
  have hrep := h.rep
  have hnd' := h.nd hnd
  have hO' := h.out hO
  have haf := h.ff a (by simp)
  have hbf := h.ff b (by simp)
  have hperm := h.perm
  have hseq := h.seq
  obtain ⟨s, f, p, o⟩ := a
  obtain ⟨s', f', p', o'⟩ := b
  dsimp only at haf hbf hs hp ⊢
  subst haf; subst hbf; subst hs
  have ff : ∀ x ∈ c, x.f = false := fun x hx => h.ff x (by simp [hx])
  cases s with
  | false =>
    have key := rotate_rep (σ := τ) (a := ⟨false, false, p', o'⟩) (c := c) (l := .node false l i r) (i := p) (r := o) (u := u) hrep rfl hnd' hO'
    obtain ⟨h1, h2, h3⟩ := key
    refine ⟨h3, ⟨false, false, p, .node false o p' o'⟩, h1, ?_, ?_, ?_, h.rot.trans (h2.perm (fun _ => hperm.mem_iff)), h.inR.rotate hp h3.1 h3.2.1 h3.2.2.1 h3.2.2.2⟩
    · intro x hx; rcases List.mem_cons.1 hx with rfl | hx; exact rfl; exact ff x hx
    · rw [← hseq]; simp only [plug]; exact plug_seq c (by simp [Fm.fill, BT.seq])
    · refine .trans ?_ hperm; simp only [plug]
      refine (plug_nodes c _).trans (.trans (.append_right _ ?_) (plug_nodes c _).symm)
      simp [Fm.fill, BT.nodes]
  | true =>
    have key := rotate_rep (σ := τ) (a := ⟨true, false, p', o'⟩) (c := c) (l := o) (i := p) (r := .node false l i r) (u := u) hrep rfl hnd' hO'
    obtain ⟨h1, h2, h3⟩ := key
    refine ⟨h3, ⟨true, false, p, .node false o' p' o⟩, h1, ?_, ?_, ?_, h.rot.trans (h2.perm (fun _ => hperm.mem_iff)), h.inR.rotate hp h3.1 h3.2.1 h3.2.2.1 h3.2.2.2⟩
    · intro x hx; rcases List.mem_cons.1 hx with rfl | hx; exact rfl; exact ff x hx
    · rw [← hseq]; simp only [plug]; exact plug_seq c (by simp [Fm.fill, BT.seq])
    · refine .trans ?_ hperm; simp only [plug]
      refine (plug_nodes c _).trans (.trans (.append_right _ ?_) (plug_nodes c _).symm)
      simp [Fm.fill, BT.nodes]
end

end Go.Proofs.Ytoppjjgecgbbkaa
