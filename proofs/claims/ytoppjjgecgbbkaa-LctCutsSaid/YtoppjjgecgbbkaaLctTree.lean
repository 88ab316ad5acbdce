/- lct: splay trees as data, and how the table represents them. -/
import Derived.Test.YtoppjjgecgbbkaaLctRotate
namespace Go.Proofs.Ytoppjjgecgbbkaa
open Go.RowKit

inductive BT where
  | nil
  | node (f : Bool) (l : BT) (v : Nat) (r : BT)

namespace BT
def root : BT → Nat
  | nil => 0
  | node _ _ v _ => v
def nodes : BT → List Nat
  | nil => []
  | node _ l v r => l.nodes ++ v :: r.nodes
/-- The vertices in the order of the path. -/
def seq : BT → List Nat
  | nil => []
  | node f l v r => if f then (l.seq ++ v :: r.seq).reverse else l.seq ++ v :: r.seq
def flip : BT → BT
  | nil => nil
  | node f l v r => node (!f) l v r

theorem seq_flip (t : BT) : t.flip.seq = t.seq.reverse := by
  cases t with
  | nil => rfl
  | node f l v r => cases f <;> simp [flip, seq]
theorem nodes_flip (t : BT) : t.flip.nodes = t.nodes := by cases t <;> rfl
theorem root_flip (t : BT) : t.flip.root = t.root := by cases t <;> rfl
theorem seq_perm (t : BT) : t.seq.Perm t.nodes := by
  induction t with
  | nil => exact .nil
  | node f l v r hl hr =>
    have h : (l.seq ++ v :: r.seq).Perm (l.nodes ++ v :: r.nodes) := hl.append (hr.cons v)
    cases f with
    | false => simpa [seq, nodes] using h
    | true => simp only [seq, nodes, if_true]; exact (List.reverse_perm _).trans h
theorem root_mem {t : BT} (h : t.root ≠ 0) : t.root ∈ t.nodes := by
  cases t with
  | nil => exact absurd rfl h
  | node f l v r => simp [root, nodes]
end BT

/-- The vertices and all that hangs from them. -/
def tot (σ : Tbl) (l : List Nat) : Int := (l.map fun v => 1 + (σ v).light).sum
def IsBest (σ : Tbl) (l : List Nat) (x : Nat) : Prop := x ∈ l ∧ ∀ y ∈ l, y ≠ x → beforeB σ x y = true

def Rep (σ : Tbl) : BT → Nat → Prop
  | .nil, _ => True
  | .node f l v r, u => (v ≠ 0 ∧ (σ v).up = u ∧ (σ v).flip = f ∧ (σ v).k0 = l.root ∧ (σ v).k1 = r.root) ∧ Rep σ l v ∧ Rep σ r v ∧
      (σ v).size = wrap64 (BT.node f l v r).nodes.length ∧ (σ v).total = wrap64 (tot σ (BT.node f l v r).nodes) ∧ IsBest σ (BT.node f l v r).nodes (σ v).first

theorem tot_congr {σ σ' : Tbl} {l : List Nat} (h : ∀ x ∈ l, (σ' x).light = (σ x).light) : tot σ' l = tot σ l := by
  unfold tot; congr 1; exact List.map_congr_left (fun x hx => by rw [h x hx])
theorem tot_perm {σ : Tbl} {l m : List Nat} (h : l.Perm m) : tot σ l = tot σ m := by
  unfold tot
  induction h with
  | nil => rfl
  | cons x _ ih => simp [ih]
  | swap x y l => simp; omega
  | trans _ _ h1 h2 => exact h1.trans h2
theorem best_congr {σ σ' : Tbl} {l : List Nat} {x : Nat} (h : ∀ x ∈ l, (σ' x).key = (σ x).key) (hb : IsBest σ l x) : IsBest σ' l x := by
  refine ⟨hb.1, fun y hy hne => ?_⟩
  have := hb.2 y hy hne
  unfold beforeB at this ⊢
  rw [h x hb.1, h y hy]; exact this

theorem Rep.congr {σ σ' : Tbl} : ∀ {t : BT} {u : Nat}, (∀ x ∈ t.nodes, σ' x = σ x) → Rep σ t u → Rep σ' t u
  | .nil, _, _, _ => trivial
  | .node f l v r, u, h, ⟨h1, hl, hr, h2, h3, h4⟩ => by
    have hv := h v (by simp [BT.nodes])
    refine ⟨by rw [hv]; exact h1, hl.congr (fun x hx => h x (by simp [BT.nodes, hx])), hr.congr (fun x hx => h x (by simp [BT.nodes, hx])), by rw [hv]; exact h2, ?_, ?_⟩
    · rw [hv, tot_congr (fun x hx => by rw [h x hx])]; exact h3
    · rw [hv]; exact best_congr (fun x hx => by rw [h x hx]) h4

/-- The pointer upwards of the root is another one. -/
theorem Rep.reup {σ σ' : Tbl} {t : BT} {u u' : Nat} (h : Rep σ t u) (hnd : t.nodes.Nodup) (ho : ∀ x ∈ t.nodes, x ≠ t.root → σ' x = σ x) (hr : t.root ≠ 0 → σ' t.root = { σ t.root with up := u' }) : Rep σ' t u' := by
  cases t with
  | nil => trivial
  | node f l v r =>
    obtain ⟨h1, hl, hrr, h2, h3, h4⟩ := h
    have hv : σ' v = { σ v with up := u' } := hr h1.1
    have hnl : ∀ x ∈ l.nodes, x ≠ v := by
      intro x hx e; subst e
      simp only [BT.nodes] at hnd
      exact (List.nodup_append.1 hnd).2.2 x hx x (by simp) rfl
    have hnr : ∀ x ∈ r.nodes, x ≠ v := by
      intro x hx e; subst e
      simp only [BT.nodes] at hnd
      exact (List.nodup_cons.1 (List.nodup_append.1 hnd).2.1).1 hx
    have hlk : ∀ x ∈ (BT.node f l v r).nodes, (σ' x).light = (σ x).light ∧ (σ' x).key = (σ x).key := by
      intro x hx
      by_cases e : x = v
      · subst e; rw [hv]; exact ⟨rfl, rfl⟩
      · rw [ho x hx e]; exact ⟨rfl, rfl⟩
    refine ⟨by rw [hv]; exact ⟨h1.1, rfl, h1.2.2⟩, hl.congr (fun x hx => ho x (by simp [BT.nodes, hx]) (hnl x hx)), hrr.congr (fun x hx => ho x (by simp [BT.nodes, hx]) (hnr x hx)), by rw [hv]; exact h2, ?_, ?_⟩
    · rw [hv, tot_congr (fun x hx => (hlk x hx).1)]; exact h3
    · rw [hv]; exact best_congr (fun x hx => (hlk x hx).2) h4

theorem wrap64_add (a b : Int) : wrap64 (wrap64 a + wrap64 b) = wrap64 (a + b) := by unfold wrap64; omega
theorem wrap64_add_r (a b : Int) : wrap64 (a + wrap64 b) = wrap64 (a + b) := by unfold wrap64; omega
theorem wrap64_add_l (a b : Int) : wrap64 (wrap64 a + b) = wrap64 (a + b) := by unfold wrap64; omega

theorem before_total {σ : Tbl} {x y : Nat} (h : x ≠ y) : beforeB σ x y = !beforeB σ y x := by
  unfold beforeB
  by_cases h1 : (σ x).key < (σ y).key
  · have h2 : ¬ (σ y).key < (σ x).key := by omega
    have h3 : ¬ (σ y).key = (σ x).key := by omega
    simp [h1, h2, h3]
  · by_cases h2 : (σ y).key < (σ x).key
    · have h3 : ¬ (σ x).key = (σ y).key := by omega
      simp [h1, h2, h3]
    · have h3 : (σ x).key = (σ y).key := by omega
      by_cases h4 : x < y
      · have : ¬ y < x := by omega
        simp [h3, h4, this]
      · have : y < x := by omega
        simp [h3, h4, this]
theorem before_trans {σ : Tbl} {x y z : Nat} (h1 : beforeB σ x y = true) (h2 : beforeB σ y z = true) : beforeB σ x z = true := by
  unfold beforeB at *
  simp only [Bool.or_eq_true, Bool.and_eq_true, decide_eq_true_eq] at *
  omega
theorem before_irrefl {σ : Tbl} {x : Nat} : beforeB σ x x = false := by unfold beforeB; simp

/-- The better one of the best of two lists. -/
theorem best_join {σ : Tbl} {l m : List Nat} {x y : Nat} (hx : IsBest σ l x) (hy : IsBest σ m y) : IsBest σ (l ++ m) (if beforeB σ y x then y else x) := by
  by_cases hb : beforeB σ y x = true
  · rw [if_pos hb]
    refine ⟨by simp [hy.1], fun z hz hne => ?_⟩
    rcases List.mem_append.1 hz with hz | hz
    · by_cases e : z = x
      · rw [e]; exact hb
      · exact before_trans hb (hx.2 z hz e)
    · exact hy.2 z hz hne
  · rw [if_neg hb]
    refine ⟨by simp [hx.1], fun z hz hne => ?_⟩
    rcases List.mem_append.1 hz with hz | hz
    · exact hx.2 z hz hne
    · by_cases e : x = y
      · exact hy.2 z hz (by rw [← e]; exact hne) |> fun h => by rw [e]; exact h
      · have hxy : beforeB σ x y = true := by rw [before_total e]; simpa using hb
        by_cases e' : z = y
        · rw [e']; exact hxy
        · exact before_trans hxy (hy.2 z hz e')
theorem best_perm {σ : Tbl} {l m : List Nat} {x : Nat} (h : l.Perm m) (hx : IsBest σ l x) : IsBest σ m x :=
  ⟨h.mem_iff.1 hx.1, fun y hy => hx.2 y (h.mem_iff.2 hy)⟩
theorem best_unique {σ : Tbl} {l : List Nat} {x y : Nat} (hx : IsBest σ l x) (hy : IsBest σ l y) : x = y := by
  apply Classical.byContradiction
  intro e
  have h1 := hx.2 y hy.1 (fun h => e h.symm)
  have h2 := hy.2 x hx.1 e
  have := before_trans h1 h2
  rw [before_irrefl] at this; cases this

/-- What one kid adds to what is kept. -/
theorem refKid_rep {σ : Tbl} {i : Nat} {k : BT} {l : List Nat} (hi : i ∉ k.nodes) (hk : Rep σ k i) (hsz : (σ i).size = wrap64 l.length) (htot : (σ i).total = wrap64 (tot σ l)) (hb : IsBest σ l (σ i).first) :
    (refKid σ i k.root i).size = wrap64 (l ++ k.nodes).length ∧ (refKid σ i k.root i).total = wrap64 (tot σ (l ++ k.nodes)) ∧ IsBest σ (l ++ k.nodes) (refKid σ i k.root i).first := by
  cases k with
  | nil => simpa [refKid, BT.root, BT.nodes] using ⟨hsz, htot, hb⟩
  | node f a v b =>
    obtain ⟨h1, _, _, h2, h3, h4⟩ := hk
    have hvi : v ≠ i := by rintro rfl; exact hi (by simp [BT.nodes])
    have hj := best_join hb h4
    have hbef : ∀ τ : Tbl, (∀ x, (τ x).key = (σ x).key) → ∀ x y, beforeB τ x y = beforeB σ x y := by
      intro τ hτ x y; unfold beforeB; rw [hτ, hτ]
    have hfirst : (refKid σ i v i).first = if beforeB σ (σ v).first (σ i).first then (σ v).first else (σ i).first := by
      unfold refKid
      rw [if_neg h1.1]
      simp only [upd_same, upd_other hvi]
      rw [hbef _ (fun x => by by_cases e : x = i <;> simp [Tbl.upd, e])]
      split <;> simp [upd_same]
    have hsize : (refKid σ i v i).size = wrap64 ((σ i).size + (σ v).size) ∧ (refKid σ i v i).total = wrap64 ((σ i).total + (σ v).total) := by
      unfold refKid
      rw [if_neg h1.1]
      simp only [upd_same, upd_other hvi]
      split <;> simp [upd_same]
    show (refKid σ i v i).size = _ ∧ (refKid σ i v i).total = _ ∧ IsBest σ _ (refKid σ i v i).first
    refine ⟨?_, ?_, ?_⟩
    · rw [hsize.1, hsz, h2, wrap64_add, List.length_append, Int.natCast_add]
    · rw [hsize.2, htot, h3, wrap64_add]; unfold tot; rw [List.map_append, List.sum_append]
    · rw [hfirst]; exact hj

/-- refresh makes of two trees one. -/
theorem refresh_rep {σ : Tbl} {f : Bool} {l r : BT} {v u : Nat} (hv : v ≠ 0) (hup : (σ v).up = u) (hf : (σ v).flip = f) (h0 : (σ v).k0 = l.root) (h1 : (σ v).k1 = r.root) (hl : Rep σ l v) (hr : Rep σ r v) (nl : v ∉ l.nodes) (nr : v ∉ r.nodes) :
    Rep (refresh σ v) (.node f l v r) u := by
  have hlk := @refresh_links σ v v
  have hc : ∀ x, x ≠ v → refresh σ v x = σ x := fun x hx => refresh_other hx
  have key : (refresh σ v v).size = wrap64 (([v] ++ l.nodes) ++ r.nodes).length ∧ (refresh σ v v).total = wrap64 (tot σ (([v] ++ l.nodes) ++ r.nodes)) ∧ IsBest σ (([v] ++ l.nodes) ++ r.nodes) (refresh σ v v).first := by
    have a := refKid_rep (σ := ref0 σ v) (i := v) (k := l) (l := [v]) nl (hl.congr (fun x hx => by rw [ref0, upd_other (by rintro rfl; exact nl hx)])) (by simp [ref0, upd_same, wrap64]) (by simp [ref0, upd_same, tot]) (by simp [ref0, upd_same, IsBest])
    have hk0 : ∀ x, (ref0 σ v x).light = (σ x).light ∧ (ref0 σ v x).key = (σ x).key := by
      intro x; by_cases e : x = v
      · subst e; simp [ref0, upd_same]
      · simp [ref0, upd_other e]
    have hk1 : ∀ x, (refKid (ref0 σ v) v l.root x).light = (σ x).light ∧ (refKid (ref0 σ v) v l.root x).key = (σ x).key := by
      intro x; have := @refKid_links (ref0 σ v) v l.root x
      exact ⟨this.2.2.2.2.2.trans (hk0 x).1, this.2.2.2.2.1.trans (hk0 x).2⟩
    have b := refKid_rep (σ := refKid (ref0 σ v) v l.root) (i := v) (k := r) (l := [v] ++ l.nodes) nr (hr.congr (fun x hx => by
      have : x ≠ v := by rintro rfl; exact nr hx
      rw [refKid_other this, ref0, upd_other this])) a.1 (by rw [a.2.1, tot_congr (fun x _ => (hk0 x).1), tot_congr (σ' := refKid (ref0 σ v) v l.root) (fun x _ => (hk1 x).1)]) (best_congr (fun x _ => by rw [(hk1 x).2, (hk0 x).2]) a.2.2)
    have e : refresh σ v = refKid (refKid (ref0 σ v) v l.root) v r.root := by
      show refKid (refKid (ref0 σ v) v (σ v).k0) v (σ v).k1 = _
      rw [h0, h1]
    rw [e]
    refine ⟨b.1, ?_, ?_⟩
    · rw [b.2.1, tot_congr (fun x _ => (hk1 x).1)]
    · exact best_congr (fun x _ => ((hk1 x).2).symm) b.2.2
  have hp : (([v] ++ l.nodes) ++ r.nodes).Perm (l.nodes ++ v :: r.nodes) := by
    simp only [List.cons_append]
    exact List.perm_middle.symm
  refine ⟨⟨hv, by rw [hlk.2.2.1]; exact hup, by rw [hlk.2.2.2.1]; exact hf, by rw [hlk.1]; exact h0, by rw [hlk.2.1]; exact h1⟩, hl.congr (fun x hx => hc x (by rintro rfl; exact nl hx)), hr.congr (fun x hx => hc x (by rintro rfl; exact nr hx)), ?_, ?_, ?_⟩
  · rw [key.1, hp.length_eq]; rfl
  · rw [key.2.1, tot_congr (σ := σ) (σ' := refresh σ v) (fun x _ => refresh_links.2.2.2.2.2), tot_perm hp]; rfl
  · exact best_congr (fun x _ => refresh_links.2.2.2.2.1) (best_perm hp key.2.2)

end Go.Proofs.Ytoppjjgecgbbkaa
