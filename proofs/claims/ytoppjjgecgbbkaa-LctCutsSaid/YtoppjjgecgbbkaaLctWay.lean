/- lct: the way from the root of a splay tree to a node; pushing along it; the sides of its nodes. -/
import Derived.Test.YtoppjjgecgbbkaaLctRot
namespace Go.Proofs.Ytoppjjgecgbbkaa
open Go.RowKit

def Way : BT → List Nat → Prop
  | .nil, _ => False
  | .node _ _ _ _, [] => False
  | .node _ l v r, x :: ps => x = v ∧ (ps = [] ∨ Way l ps ∨ Way r ps)

theorem way_flip (t : BT) (ps : List Nat) : Way t.flip ps ↔ Way t ps := by
  cases t with
  | nil => exact Iff.rfl
  | node f l v r => cases ps <;> exact Iff.rfl
theorem way_fill (a : Fm) {t : BT} {ps : List Nat} (h : Way t ps) : Way (a.fill t) (a.p :: ps) := by
  unfold Fm.fill
  split
  · exact ⟨rfl, .inr (.inr h)⟩
  · exact ⟨rfl, .inr (.inl h)⟩
theorem way_plug : ∀ (c : List Fm) {t : BT} {ps : List Nat}, Way t ps → Way (plug c t) ((c.map Fm.p).reverse ++ ps)
  | [], _, _, h => by simpa [plug] using h
  | a :: c, t, ps, h => by
    have := way_plug c (way_fill a h)
    simpa [plug] using this
theorem plug_snoc (c : List Fm) (a : Fm) (t : BT) : plug (c ++ [a]) t = a.fill (plug c t) := by
  induction c generalizing t with
  | nil => rfl
  | cons b c ih => exact ih (b.fill t)
theorem zip_ex {i : Nat} : ∀ {t : BT}, i ∈ t.nodes → ∃ c f l r, t = plug c (.node f l i r)
  | .nil, h => by cases h
  | .node f l v r, h => by
    simp only [BT.nodes, List.mem_append, List.mem_cons] at h
    rcases h with h | rfl | h
    · obtain ⟨c, f', l', r', e⟩ := zip_ex h
      exact ⟨c ++ [⟨false, f, v, r⟩], f', l', r', by rw [plug_snoc, ← e]; rfl⟩
    · exact ⟨[], f, l, r, rfl⟩
    · obtain ⟨c, f', l', r', e⟩ := zip_ex h
      exact ⟨c ++ [⟨true, f, v, l⟩], f', l', r', by rw [plug_snoc, ← e]; rfl⟩

/-- The places from a node up to the root: of each but the last the side is told. -/
theorem climb {σ : Tbl} : ∀ {c : List Fm} {t : BT} {u : Nat}, Rep σ (plug c t) u → t.root ≠ 0 → (plug c t).nodes.Nodup → Out σ u (plug c t).nodes →
    (∀ k x y, (t.root :: c.map Fm.p)[k]? = some x → (t.root :: c.map Fm.p)[k + 1]? = some y → (sideOf σ x).2 = true ∧ (σ x).up = y) ∧ (∀ x, (t.root :: c.map Fm.p)[c.length]? = some x → (sideOf σ x).2 = false)
  | [], t, u, h, h0, _, hO => by
    refine ⟨fun k x y _ h2 => by simp at h2, fun x hx => ?_⟩
    simp at hx; subst hx
    cases t with
    | nil => exact absurd rfl h0
    | node f l v r =>
      simp only [plug] at h hO
      show (sideOf σ v).snd = false
      rw [sideOf_out h.1.2.1 hO (by simp [BT.nodes])]
  | a :: c, t, u, h, h0, hnd, hO => by
    have hi := climb (c := c) (t := a.fill t) (u := u) h (by rw [fill_root]; exact ((rep_plug.1 h).2).1.1) hnd hO
    rw [fill_root] at hi
    obtain ⟨hT, hC⟩ := rep_plug.1 h
    obtain ⟨⟨hp0, _, _, hpk, hpo⟩, hRo, _⟩ := hC
    refine ⟨fun k x y h1 h2 => ?_, fun x hx => ?_⟩
    · cases k with
      | zero =>
        simp at h1 h2
        subst h1; subst h2
        have hup : (σ t.root).up = a.p := by
          cases t with
          | nil => exact absurd rfl h0
          | node f l v r => exact hT.1.2.1
        refine ⟨?_, hup⟩
        rw [sideOf_frame h0 hp0 hup hpk hpo]
        intro e
        have hor : a.o.root ≠ 0 := by rw [e]; exact h0
        have h1 := BT.root_mem hor
        have h2 := BT.root_mem h0
        have := (plug_nodes (a :: c) t).nodup_iff.1 hnd
        rw [List.nodup_append] at this
        exact this.2.2 _ h2 _ (by simp only [cnodes, List.cons_append, List.mem_cons, List.mem_append]; exact .inr (.inl h1)) e.symm
      | succ k => exact hi.1 k x y (by simpa using h1) (by simpa using h2)
    · exact hi.2 x (by simpa using hx)

theorem pushK_at (σ : Tbl) (k x : Nat) : pushK σ k x = if x = k ∧ k ≠ 0 then { σ x with flip := !(σ x).flip } else σ x := by
  unfold pushK
  by_cases h : k = 0
  · rw [if_pos h, if_neg (fun e => e.2 h)]
  · rw [if_neg h]
    by_cases e : x = k
    · subst e; rw [upd_same, if_pos ⟨rfl, h⟩]
    · rw [upd_other e, if_neg (fun h => e h.1)]
theorem InR.push {N : Nat} {σ : Tbl} (h : InR N σ) (i : Nat) (hi : i < N) : InR N (push σ i) := by
  have hK : ∀ (τ : Tbl) (k : Nat), InR N τ → InR N (pushK τ k) := by
    intro τ k hτ j hj
    rw [pushK_at]; split <;> exact hτ j hj
  unfold Proofs.Ytoppjjgecgbbkaa.push
  split
  · refine hK _ _ (hK _ _ ?_)
    exact h.upd ⟨(h i hi).2.1, (h i hi).1, (h i hi).2.2.1, (h i hi).2.2.2⟩
  · exact h

theorem Rep.flip {σ σ' : Tbl} {t : BT} {u : Nat} (h : Rep σ t u) (hnd : t.nodes.Nodup) (ho : ∀ x ∈ t.nodes, x ≠ t.root → σ' x = σ x) (hr : t.root ≠ 0 → σ' t.root = { σ t.root with flip := !(σ t.root).flip }) : Rep σ' t.flip u := by
  cases t with
  | nil => trivial
  | node f l v r =>
    obtain ⟨h1, hl, hrr, h2, h3, h4⟩ := h
    have hv : σ' v = { σ v with flip := !(σ v).flip } := hr h1.1
    simp only [BT.nodes, List.nodup_append, List.nodup_cons] at hnd
    have hnl : ∀ x ∈ l.nodes, x ≠ v := fun x hx e => hnd.2.2 x hx v (by simp) e
    have hnr : ∀ x ∈ r.nodes, x ≠ v := fun x hx e => hnd.2.1.1 (e ▸ hx)
    have hlk : ∀ x ∈ (BT.node f l v r).nodes, (σ' x).light = (σ x).light ∧ (σ' x).key = (σ x).key := by
      intro x hx
      by_cases e : x = v
      · subst e; rw [hv]; exact ⟨rfl, rfl⟩
      · rw [ho x hx e]; exact ⟨rfl, rfl⟩
    refine ⟨by rw [hv]; exact ⟨h1.1, h1.2.1, by rw [h1.2.2.1], h1.2.2.2⟩, hl.congr (fun x hx => ho x (by simp [BT.nodes, hx]) (hnl x hx)), hrr.congr (fun x hx => ho x (by simp [BT.nodes, hx]) (hnr x hx)), by rw [hv]; exact h2, ?_, ?_⟩
    · rw [hv]; show _ = wrap64 (tot σ' (BT.node f l v r).nodes); rw [tot_congr (fun x hx => (hlk x hx).1)]; exact h3
    · rw [hv]; exact best_congr (σ := σ) (fun x hx => (hlk x hx).2) h4

/-- A node whose pending reversal is carried out. -/
def BT.pushed : BT → BT
  | .nil => .nil
  | .node f l v r => if f then .node false r.flip v l.flip else .node false l v r

theorem pushed_seq (t : BT) : t.pushed.seq = t.seq := by
  cases t with
  | nil => rfl
  | node f l v r => cases f <;> simp [BT.pushed, BT.seq, BT.seq_flip]
theorem pushed_perm (t : BT) : t.pushed.nodes.Perm t.nodes := by
  cases t with
  | nil => exact .nil
  | node f l v r =>
    cases f with
    | false => exact .refl _
    | true =>
      simp only [BT.pushed, if_true, BT.nodes, BT.nodes_flip]
      exact List.perm_middle.trans (((List.perm_append_comm).cons v).trans List.perm_middle.symm)
theorem pushed_root (t : BT) : t.pushed.root = t.root := by
  cases t with
  | nil => rfl
  | node f l v r => cases f <;> rfl
theorem seqC : ∀ (c : List Fm) {t t' : BT}, t.seq = t'.seq → (plug c t).seq = (plug c t').seq := plug_seq

theorem push_rep {σ : Tbl} {c : List Fm} {f : Bool} {l r : BT} {v u : Nat} (h : Rep σ (plug c (.node f l v r)) u) (hnd : (plug c (.node f l v r)).nodes.Nodup) :
    Rep (push σ v) (plug c (BT.node f l v r).pushed) u ∧ Rotated σ (push σ v) (plug c (.node f l v r)).nodes := by
  have hpm := plug_nodes c (.node f l v r)
  have hnd' := hpm.nodup_iff.1 hnd
  have hmem : ∀ x, x ∈ (plug c (.node f l v r)).nodes ↔ x ∈ (BT.node f l v r).nodes ++ cnodes c := fun x => hpm.mem_iff
  obtain ⟨hT, hC⟩ := rep_plug.1 h
  obtain ⟨⟨hv0, hvu, hvf, hk0, hk1⟩, hl, hr, hs, ht, hb⟩ := id hT
  simp only [BT.nodes, List.nodup_append, List.nodup_cons, List.mem_append, List.mem_cons, List.append_assoc] at hnd' hmem
  cases f with
  | false =>
    have e : push σ v = σ := by unfold push; rw [if_neg (by simp [hvf])]
    rw [e]
    exact ⟨h, fun _ _ => rfl, fun _ => ⟨rfl, rfl⟩⟩
  | true =>
    have dvl : v ∉ l.nodes := by grind
    have dvr : v ∉ r.nodes := by grind
    have dlr : ∀ x ∈ l.nodes, x ∉ r.nodes := by grind
    have ndl : l.nodes.Nodup := by grind
    have ndr : r.nodes.Nodup := by grind
    have dvc : v ∉ cnodes c := by grind
    have dlc : ∀ x ∈ l.nodes, x ∉ cnodes c := by grind
    have drc : ∀ x ∈ r.nodes, x ∉ cnodes c := by grind
    have hlv : l.root ≠ v := fun e => dvl (e ▸ BT.root_mem (by rw [e]; exact hv0))
    have hrv : r.root ≠ v := fun e => dvr (e ▸ BT.root_mem (by rw [e]; exact hv0))
    have hx : ∀ x, push σ v x = if x = v then { σ v with flip := false, k0 := r.root, k1 := l.root } else if (x = l.root ∨ x = r.root) ∧ x ≠ 0 then { σ x with flip := !(σ x).flip } else σ x := by
      intro x
      unfold push
      rw [if_pos hvf]
      show pushK (pushK (push0 σ v) (σ v).k1) (σ v).k0 x = _
      rw [hk0, hk1, pushK_at]
      by_cases e : x = v
      · subst e
        rw [if_neg (fun h => hlv h.1.symm), pushK_at, if_neg (fun h => hrv h.1.symm), if_pos rfl]
        simp only [push0, upd_same, hk0, hk1]
      · rw [if_neg e]
        have e0 : push0 σ v x = σ x := by simp only [push0, upd_other e]
        by_cases e1 : x = l.root
        · by_cases e2 : x = 0
          · have hl0 : l.root = 0 := e1.symm.trans e2
            rw [if_neg (by simp [hl0]), pushK_at, if_neg (by rintro ⟨h1, h2⟩; exact h2 (h1.symm.trans e2)), if_neg (by simp [e2]), e0]
          · rw [if_pos ⟨e1, fun h => e2 (e1.trans h)⟩, if_pos ⟨.inl e1, e2⟩]
            have : pushK (push0 σ v) r.root x = σ x := by
              rw [pushK_at, if_neg (by rintro ⟨h1, h2⟩; exact dlr x (e1 ▸ BT.root_mem (fun h0 => e2 (e1.trans h0))) (h1 ▸ BT.root_mem h2)), e0]
            rw [this]
        · rw [if_neg (fun h => e1 h.1), pushK_at]
          by_cases e2 : x = r.root
          · by_cases e3 : x = 0
            · rw [if_neg (fun h => h.2 (e2.symm.trans e3)), if_neg (fun h => h.2 e3), e0]
            · rw [if_pos ⟨e2, fun h => e3 (e2.trans h)⟩, if_pos ⟨.inr e2, e3⟩, e0]
          · rw [if_neg (fun h => e2 h.1), if_neg (fun h => h.1.elim e1 e2), e0]
    have hlk : ∀ x, (push σ v x).light = (σ x).light ∧ (push σ v x).key = (σ x).key := by
      intro x; rw [hx]
      split
      · rename_i e; subst e; exact ⟨rfl, rfl⟩
      · split <;> exact ⟨rfl, rfl⟩
    have hoth : ∀ x, x ≠ v → x ∉ l.nodes → x ∉ r.nodes → push σ v x = σ x := by
      intro x e1 e2 e3
      rw [hx, if_neg e1, if_neg]
      rintro ⟨e | e, h0⟩
      · exact e2 (e ▸ BT.root_mem (fun h => h0 (e.trans h)))
      · exact e3 (e ▸ BT.root_mem (fun h => h0 (e.trans h)))
    have hvv : push σ v v = { σ v with flip := false, k0 := r.root, k1 := l.root } := by rw [hx, if_pos rfl]
    have hpp := pushed_perm (.node true l v r)
    refine ⟨rep_plug.2 ⟨?_, ?_⟩, fun x hxn => ?_, hlk⟩
    · simp only [BT.pushed, if_true]
      have hll : Rep (push σ v) l.flip v := hl.flip ndl (fun x hxn hne => by
          rw [hx, if_neg (by rintro rfl; exact dvl hxn), if_neg]
          rintro ⟨e | e, h0⟩
          · exact hne e
          · exact dlr x hxn (e ▸ BT.root_mem (fun h => h0 (e.trans h)))) (fun h0 => by rw [hx, if_neg hlv, if_pos ⟨.inl rfl, h0⟩])
      have hrr : Rep (push σ v) r.flip v := hr.flip ndr (fun x hxn hne => by
          rw [hx, if_neg (by rintro rfl; exact dvr hxn), if_neg]
          rintro ⟨e | e, h0⟩
          · exact dlr x (e ▸ BT.root_mem (fun h => h0 (e.trans h))) hxn
          · exact hne e) (fun h0 => by rw [hx, if_neg hrv, if_pos ⟨.inr rfl, h0⟩])
      refine ⟨⟨hv0, by rw [hvv]; exact hvu, by rw [hvv], by rw [hvv, BT.root_flip], by rw [hvv, BT.root_flip]⟩, hrr, hll, ?_, ?_, ?_⟩
      · rw [hvv]; show (σ v).size = _; rw [hs]; exact congrArg (fun n : Nat => wrap64 n) hpp.length_eq.symm
      · rw [hvv]; show (σ v).total = _; rw [tot_congr (fun x _ => (hlk x).1), ht]; exact congrArg wrap64 (tot_perm hpp.symm)
      · rw [hvv]; exact best_congr (fun x _ => (hlk x).2) (best_perm hpp.symm hb)
    · rw [pushed_root]
      refine RepC.perm hpp.symm (hC.congr (fun y hy => hoth y (fun e => dvc (e ▸ hy)) (fun h => dlc y h hy) (fun h => drc y h hy)) (fun y _ => hlk y))
    · have hx' : ¬ (x ∈ l.nodes ∨ x = v ∨ x ∈ r.nodes ∨ x ∈ cnodes c) := fun h => hxn ((hmem x).2 (by grind))
      simp only [not_or] at hx'
      exact hoth x hx'.2.1 hx'.1 hx'.2.2.1

def pushAll (σ : Tbl) (ps : List Nat) : Tbl := ps.foldl push σ
theorem Rotated.trans {σ τ υ : Tbl} {ns : List Nat} (h : Rotated σ τ ns) (k : Rotated τ υ ns) : Rotated σ υ ns :=
  ⟨fun x hx => (k.other x hx).trans (h.other x hx), fun x => ⟨(k.lk x).1.trans (h.lk x).1, (k.lk x).2.trans (h.lk x).2⟩⟩
theorem Rotated.refl (σ : Tbl) (ns : List Nat) : Rotated σ σ ns := ⟨fun _ _ => rfl, fun _ => ⟨rfl, rfl⟩⟩
theorem Rotated.perm {σ τ : Tbl} {ns ms : List Nat} (h : Rotated σ τ ns) (hm : ∀ x, x ∈ ns ↔ x ∈ ms) : Rotated σ τ ms := ⟨fun x hx => h.other x (fun e => hx ((hm x).1 e)), h.lk⟩

/-- Pushing from the root down to a node. -/
theorem pushAll_rep {σ : Tbl} : ∀ {ps : List Nat} {c : List Fm} {t : BT} {u i : Nat}, Rep σ (plug c t) u → (plug c t).nodes.Nodup → (∀ a ∈ c, a.f = false) → Way t (ps ++ [i]) →
    ∃ c' l r, Rep (pushAll σ (ps ++ [i])) (plug c' (.node false l i r)) u ∧ (∀ a ∈ c', a.f = false) ∧ (plug c' (.node false l i r)).seq = (plug c t).seq ∧ (plug c' (.node false l i r)).nodes.Perm (plug c t).nodes ∧
      Rotated σ (pushAll σ (ps ++ [i])) (plug c t).nodes
  | [], c, .nil, u, i, _, _, _, hw => hw.elim
  | [], c, .node f l v r, u, i, h, hnd, hc, hw => by
    obtain ⟨rfl, _⟩ : i = v ∧ _ := hw
    obtain ⟨h1, h2⟩ := push_rep h hnd
    have e : ∃ l' r', (BT.node f l i r).pushed = .node false l' i r' := by cases f <;> exact ⟨_, _, rfl⟩
    obtain ⟨l', r', e⟩ := e
    refine ⟨c, l', r', by rw [← e]; exact h1, hc, by rw [← e]; exact plug_seq c (pushed_seq _), ?_, h2⟩
    rw [← e]
    exact (plug_nodes c _).trans (((pushed_perm (.node f l i r)).append_right _).trans (plug_nodes c _).symm)
  | p :: ps, c, .nil, u, i, _, _, _, hw => hw.elim
  | p :: ps, c, .node f l v r, u, i, h, hnd, hc, hw => by
    obtain ⟨rfl, hw⟩ : p = v ∧ _ := hw
    obtain ⟨h1, h2⟩ := push_rep h hnd
    have hw : Way l (ps ++ [i]) ∨ Way r (ps ++ [i]) := hw.elim (fun e => by simp at e) id
    have e : ∃ l' r', (BT.node f l p r).pushed = .node false l' p r' ∧ (Way l' (ps ++ [i]) ∨ Way r' (ps ++ [i])) := by
      cases f with
      | false => exact ⟨_, _, rfl, hw⟩
      | true => exact ⟨_, _, rfl, hw.symm.imp (way_flip _ _).2 (way_flip _ _).2⟩
    obtain ⟨l', r', e, hw'⟩ := e
    have hperm : (plug c (.node false l' p r')).nodes.Perm (plug c (.node f l p r)).nodes := by
      rw [← e]; exact (plug_nodes c _).trans (((pushed_perm (.node f l p r)).append_right _).trans (plug_nodes c _).symm)
    have hseq : (plug c (.node false l' p r')).seq = (plug c (.node f l p r)).seq := by rw [← e]; exact plug_seq c (pushed_seq _)
    rw [e] at h1
    have step : ∀ (a : Fm) (t' : BT), a.fill t' = .node false l' p r' → a.f = false → Way t' (ps ++ [i]) →
        ∃ c' l r, Rep (pushAll (push σ p) (ps ++ [i])) (plug c' (.node false l i r)) u ∧ (∀ a ∈ c', a.f = false) ∧ (plug c' (.node false l i r)).seq = (plug c (.node false l' p r')).seq ∧ (plug c' (.node false l i r)).nodes.Perm (plug c (.node false l' p r')).nodes ∧
          Rotated (push σ p) (pushAll (push σ p) (ps ++ [i])) (plug c (.node false l' p r')).nodes := by
      intro a t' ha haf hwt
      have := pushAll_rep (σ := push σ p) (ps := ps) (c := a :: c) (t := t') (u := u) (i := i) (by simp only [plug]; rw [ha]; exact h1) (by simp only [plug]; rw [ha]; exact hperm.nodup_iff.2 hnd)
        (fun b hb => (List.mem_cons.1 hb).elim (fun e => by rw [e]; exact haf) (hc b)) hwt
      simp only [plug] at this
      rw [ha] at this
      exact this
    have fin : ∃ c' l r, Rep (pushAll (push σ p) (ps ++ [i])) (plug c' (.node false l i r)) u ∧ (∀ a ∈ c', a.f = false) ∧ (plug c' (.node false l i r)).seq = (plug c (.node false l' p r')).seq ∧ (plug c' (.node false l i r)).nodes.Perm (plug c (.node false l' p r')).nodes ∧
          Rotated (push σ p) (pushAll (push σ p) (ps ++ [i])) (plug c (.node false l' p r')).nodes := by
      rcases hw' with hw' | hw'
      · exact step ⟨false, false, p, r'⟩ l' rfl rfl hw'
      · exact step ⟨true, false, p, l'⟩ r' rfl rfl hw'
    obtain ⟨c', l2, r2, a1, a2, a3, a4, a5⟩ := fin
    refine ⟨c', l2, r2, a1, a2, a3.trans hseq, a4.trans hperm, ?_⟩
    exact h2.trans (a5.perm (fun x => hperm.mem_iff))

end Go.Proofs.Ytoppjjgecgbbkaa
