/- lct: what holds between two rounds of expose. -/
import Derived.Test.YtoppjjgecgbbkaaLctForest
namespace Go.Proofs.Ytoppjjgecgbbkaa
open Go.RowKit

section
variable {N : Nat} {σ : Tbl} {F R : Fst} {par d rt : Nat → Nat} {t : BT} {u : Nat}
/-- The vertices of a path lie in one tree of the forest. -/
theorem LF.same (h : LF N σ F par d rt) {p : BT × Nat} (hp : p ∈ F) : (∀ x ∈ p.1.nodes, ∀ y ∈ p.1.nodes, rt x = rt y) ∧ (p.2 ≠ 0 → ∀ x ∈ p.1.nodes, rt x = rt p.2) := by
  have hc := h.ch p hp
  have h0 := h.seq0 hp
  have hu : p.2 ≠ 0 → ∀ x ∈ p.1.nodes, rt x = rt p.2 := fun hu x hx => ch_rt h.rt1 hc h0 hu x (seq_mem.2 hx)
  refine ⟨fun x hx y hy => ?_, hu⟩
  by_cases e : p.2 = 0
  · rw [e] at hc
    have hx' := seq_mem.2 hx
    have hy' := seq_mem.2 hy
    generalize p.1.seq = s at *
    cases s with
    | nil => cases hx'
    | cons z s => rw [ch_rt_head h.rt0 h.rt1 hc h0 x hx', ch_rt_head h.rt0 h.rt1 hc h0 y hy']
  · rw [hu e x hx, hu e y hy]

theorem LF.addNil (h : LF N σ F par d rt) {j : Nat} (hj : j < N) : LF N σ ((.nil, j) :: F) par d rt := by
  have e : fnodes ((BT.nil, j) :: F) = fnodes F := by rw [fnodes_cons]; rfl
  refine ⟨fun p hp => ?_, by rw [e]; exact h.nd, fun x => by rw [e]; exact h.mem x, fun p hp => ?_, fun p hp => ?_, h.dep, h.none, h.rt0, h.rt1, fun v h1 h2 => ?_, h.zero, h.pos⟩
  · rcases List.mem_cons.1 hp with rfl | hp
    · trivial
    · exact h.rep p hp
  · rcases List.mem_cons.1 hp with rfl | hp
    · exact hj
    · exact h.up p hp
  · rcases List.mem_cons.1 hp with rfl | hp
    · trivial
    · exact h.ch p hp
  · rw [h.light v h1 h2]; simp [lsum, BT.nodes, tot]

theorem LF.disj (h : LF N σ ((t, u) :: R) par d rt) {p : BT × Nat} (hp : p ∈ R) : ∀ x ∈ t.nodes, x ∉ p.1.nodes := by
  have hnd := h.nd
  rw [fnodes_cons, List.nodup_append] at hnd
  exact fun x hx hxp => hnd.2.2 x hx x (mem_fnodes.2 ⟨p, hp, hxp⟩) rfl
end

theorem last_eq {l r S : List Nat} {i : Nat} (h : l ++ i :: r = S ++ [i]) (hnd : (l ++ i :: r).Nodup) : r = [] ∧ l = S := by
  have hi : i ∉ l := fun e => (List.nodup_append.1 hnd).2.2 i e i (by simp) rfl
  have hr : i ∉ r := (List.nodup_cons.1 (List.nodup_append.1 hnd).2.1).1
  rcases List.eq_nil_or_concat r with rfl | ⟨r', x, rfl⟩
  · exact ⟨rfl, by simpa using h⟩
  · rw [List.concat_eq_append] at h hr
    rw [← List.cons_append, ← List.append_assoc] at h
    have := List.append_inj_right' h rfl
    simp at this
    exact absurd (by simp [this]) hr
theorem nil_of_seq {t : BT} (h : t.seq = []) : t = .nil := by
  cases t with
  | nil => rfl
  | node f l v r => cases f <;> simp [BT.seq] at h

structure XI (N : Nat) (σ : Tbl) (F : Fst) (par d rt : Nat → Nat) (i : Nat) (τ : Tbl) (B : BT) (j : Nat) (R : Fst) : Prop where
  lf : LF N τ ((B, j) :: R) par d rt
  key : ∀ x, (τ x).key = (σ x).key
  frame : ∀ x, rt x ≠ rt i → τ x = σ x
  trees : ∀ p ∈ F, (∃ x ∈ p.1.nodes, rt x ≠ rt i) → p ∈ R
  rtj : j ≠ 0 → rt j = rt i
  rtB : ∀ x ∈ B.nodes, rt x = rt i
  last : (B = .nil ∧ j = i) ∨ ∃ S, B.seq = S ++ [i]
  tops : j ≠ 0 → ∀ T, (T, 0) ∈ F ↔ (T, 0) ∈ R
  fin : j = 0 → ∃ T0 A Bq Rq, (T0, 0) ∈ F ∧ T0.seq = A ++ B.root :: Rq ∧ B.seq = A ++ B.root :: Bq ∧ ∀ x ∈ Bq, x ∉ T0.nodes

section
variable {N : Nat} {σ τ τ' : Tbl} {F R R2 : Fst} {par d rt : Nat → Nat} {i j u : Nat} {t B l r : BT}
theorem XI.start (h : LF N σ F par d rt) (hi : i < N) (h0 : 0 < i) : XI N σ F par d rt i σ .nil i F :=
  ⟨h.addNil hi, fun _ => rfl, fun _ _ => rfl, fun _ hp _ => hp, fun _ => rfl, fun _ hx => (by cases hx), .inl ⟨rfl, rfl⟩, fun _ _ => Iff.rfl, fun e => by omega⟩

/-- The tree of j is found among the others. -/
theorem XI.split (h : XI N σ F par d rt i τ B j R) (hj : j ≠ 0) : ∃ t u R2, R.Perm ((t, u) :: R2) ∧ j ∈ t.nodes := by
  have hjN : j < N := h.lf.up (B, j) (by simp)
  obtain ⟨p, hp, hxp⟩ := mem_fnodes.1 ((h.lf.mem j).2 ⟨by omega, hjN⟩)
  have hpR : p ∈ R := by
    rcases List.mem_cons.1 hp with rfl | hp
    · rcases h.lf.outs with e | ⟨e, _⟩
      · exact absurd e hj
      · exact absurd hxp e
    · exact hp
  obtain ⟨R2, h2⟩ := mem_split_perm hpR
  exact ⟨p.1, p.2, R2, h2, hxp⟩
theorem XI.lf2 (h : XI N σ F par d rt i τ B j R) (hR : R.Perm ((t, u) :: R2)) : LF N τ ((t, u) :: (B, j) :: R2) par d rt :=
  h.lf.perm ((List.Perm.cons _ hR).trans (List.Perm.swap _ _ _))

theorem XI.next (h : XI N σ F par d rt i τ B j R) (hj : j ≠ 0) (hR : R.Perm ((t, u) :: R2)) (hjt : j ∈ t.nodes)
    (hrep : Rep τ' (.node false l j r) u) (hseq : (BT.node false l j r).seq = t.seq) (hperm : (BT.node false l j r).nodes.Perm t.nodes) (hrot : Rotated τ τ' t.nodes) :
    XI N σ F par d rt i (xstep τ' j B.root) (.node false l j B) u ((r, j) :: R2) ∧ ((τ' j).k1 = r.root ∧ (xst2 τ' j B.root j).k0 ≠ j ∧ (xst2 τ' j B.root j).k1 ≠ j ∧ InR N (xst2 τ' j B.root)) ∧ (u ≠ 0 → d u < d j) ∧ (xstep τ' j B.root j).up = u := by
  have h2 := h.lf2 hR
  have h3 := h2.splay hrep hseq hperm hrot
  obtain ⟨h4, hoth, hkey, hk1, hq0, hq1, hin⟩ := h3.xstep
  have mt : (t, u) ∈ (t, u) :: (B, j) :: R2 := by simp
  have hst := h2.same mt
  have hrj := h.rtj hj
  have hrt : ∀ x ∈ t.nodes, rt x = rt i := fun x hx => (hst.1 x hx j hjt).trans hrj
  have hru : u ≠ 0 → rt u = rt i := fun hu => (hst.2 hu j hjt).symm.trans hrj
  have mB : (BT.node false l j B, u) ∈ (BT.node false l j B, u) :: (r, j) :: R2 := by simp
  refine ⟨⟨h4, fun x => (hkey x).trans ((hrot.lk x).2.trans (h.key x)), fun x hx => ?_, fun p hp hx => ?_, hru, fun x hx => ?_, .inr ?_, fun hu T => ?_, fun hu => ?_⟩, ⟨hk1, hq0, hq1, hin⟩, fun hu => ?_, ?_⟩
  · rw [hoth x (fun e => hx (by rw [e]; exact hrj)), hrot.other x (fun e => hx (hrt x e)), h.frame x hx]
  · have h5 := hR.mem_iff.1 (h.trees p hp hx)
    rcases List.mem_cons.1 h5 with rfl | h5
    · obtain ⟨x, hx, hne⟩ := hx; exact absurd (hrt x hx) hne
    · simp [h5]
  · exact ((h4.same mB).1 x hx j (by simp [BT.nodes])).trans hrj
  · simp only [BT.seq, Bool.false_eq_true, if_false]
    rcases h.last with ⟨rfl, rfl⟩ | ⟨S, hS⟩
    · exact ⟨l.seq, rfl⟩
    · exact ⟨l.seq ++ j :: S, by rw [hS]; simp⟩
  · rw [h.tops hj T, hR.mem_iff]
    simp only [List.mem_cons, Prod.mk.injEq]
    constructor
    · rintro (⟨_, e⟩ | e)
      · exact absurd e.symm hu
      · exact .inr e
    · rintro (⟨_, e⟩ | e)
      · exact absurd e.symm hj
      · exact .inr e
  · subst hu
    refine ⟨t, l.seq, B.seq, r.seq, (h.tops hj t).2 (hR.mem_iff.2 (by simp)), ?_, ?_, fun x hx => ?_⟩
    · rw [← hseq]; simp [BT.seq, BT.root]
    · simp [BT.seq, BT.root]
    · exact fun e => h2.disj (p := (B, j)) (by simp) x e (seq_mem.1 hx)
  · exact ch_dep h2.dep (h2.ch _ mt) (h2.seq0 mt) hu j (seq_mem.2 hjt)
  · exact (h4.rep _ mB).1.2.1

theorem XI.done (h : XI N σ F par d rt i τ B 0 R) (hi : i ≠ 0) : i ∈ B.nodes ∧ ∃ S, B.seq = S ++ [i] := by
  rcases h.last with ⟨_, e⟩ | ⟨S, hS⟩
  · exact absurd e.symm hi
  · exact ⟨seq_mem.1 (by rw [hS]; simp), S, hS⟩
end

/-- What expose makes. -/
structure Exposed (N : Nat) (σ : Tbl) (F : Fst) (par d rt : Nat → Nat) (i m : Nat) (τ : Tbl) (l : BT) (R : Fst) : Prop where
  lf : LF N τ ((.node false l i .nil, 0) :: R) par d rt
  key : ∀ x, (τ x).key = (σ x).key
  frame : ∀ x, rt x ≠ rt i → τ x = σ x
  trees : ∀ p ∈ F, (∃ x ∈ p.1.nodes, rt x ≠ rt i) → p ∈ R
  meets : ∃ T0 A Bq Rq, (T0, 0) ∈ F ∧ T0.seq = A ++ m :: Rq ∧ l.seq ++ [i] = A ++ m :: Bq ∧ ∀ x ∈ Bq, x ∉ T0.nodes

theorem XI.exposed {N : Nat} {σ τ τ' : Tbl} {F R : Fst} {par d rt : Nat → Nat} {i : Nat} {B l r : BT} (h : XI N σ F par d rt i τ B 0 R) (hi : i ≠ 0) (hrep : Rep τ' (.node false l i r) 0) (hseq : (BT.node false l i r).seq = B.seq) (hperm : (BT.node false l i r).nodes.Perm B.nodes) (hrot : Rotated τ τ' B.nodes) :
    Exposed N σ F par d rt i B.root τ' l R := by
  have h1 := h.lf.splay hrep hseq hperm hrot
  obtain ⟨hiB, S, hS⟩ := h.done hi
  have hnd : (l.seq ++ i :: r.seq).Nodup := by
    have := h1.nd
    rw [fnodes_cons, List.nodup_append] at this
    have h2 := (BT.seq_perm (.node false l i r)).nodup_iff.2 this.1
    simpa [BT.seq] using h2
  have he : l.seq ++ i :: r.seq = S ++ [i] := by
    have : (BT.node false l i r).seq = l.seq ++ i :: r.seq := by simp [BT.seq]
    rw [← this, hseq, hS]
  obtain ⟨hr, hl⟩ := last_eq he hnd
  have hrn := nil_of_seq hr
  subst hrn
  refine ⟨h1, fun x => ((hrot.lk x).2).trans (h.key x), fun x hx => ?_, h.trees, ?_⟩
  · rw [hrot.other x (fun e => hx (h.rtB x e)), h.frame x hx]
  · obtain ⟨T0, A, Bq, Rq, a1, a2, a3, a4⟩ := h.fin rfl
    exact ⟨T0, A, Bq, Rq, a1, a2, by rw [hl, ← hS]; exact a3, a4⟩

end Go.Proofs.Ytoppjjgecgbbkaa
