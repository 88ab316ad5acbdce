/- lct: splay. -/
import Derived.Test.YtoppjjgecgbbkaaLctPlaysZ3
import Derived.Sort.QuietTacIn
import Derived.RangeFuncNested
import Derived.Test.YtoppjjgecgbbkaaLctPlaysZ1
import Derived.RangeFuncBound
import Derived.RangeFuncCalls
import Derived.RangeFuncLeaves
import Derived.Shelf.Abstract
import Derived.Shelf.RegionOpen
import Derived.OwnWalkIn
import Derived.TacticsInMore
import Derived.LoopNIn
import Derived.LoopIn
import Derived.Deep.LoopGhost
/- lct: the way from the root of a splay tree to a node; pushing along it; the sides of its nodes. -/
namespace Go.Proofs.Ytoppjjgecgbbkaa
open Go.RowKit

def Way : BT → List Nat → Prop
  | .nil, _ => False
  | .node _ _ _ _, [] => False
  | .node _ l v r, x :: ps => x = v ∧ (ps = [] ∨ Way l ps ∨ Way r ps)

theorem way_flip (t : BT) (ps : List Nat) : Way t.flip ps ↔ Way t ps := by
  cases t with
  | nil => exact Iff.rfl
  | node f l v r => cases ps <;> exact Iff.rfl
theorem way_fill (a : Fm) {t : BT} {ps : List Nat} (h : Way t ps) : Way (a.fill t) (a.p :: ps) := by
  unfold Fm.fill
  split
  · exact ⟨rfl, .inr (.inr h)⟩
  · exact ⟨rfl, .inr (.inl h)⟩
theorem way_plug : ∀ (c : List Fm) {t : BT} {ps : List Nat}, Way t ps → Way (plug c t) ((c.map Fm.p).reverse ++ ps)
  | [], _, _, h => by simpa [plug] using h
  | a :: c, t, ps, h => by
    have := way_plug c (way_fill a h)
    simpa [plug] using this
theorem plug_snoc (c : List Fm) (a : Fm) (t : BT) : plug (c ++ [a]) t = a.fill (plug c t) := by
  induction c generalizing t with
  | nil => rfl
  | cons b c ih => exact ih (b.fill t)
theorem zip_ex {i : Nat} : ∀ {t : BT}, i ∈ t.nodes → ∃ c f l r, t = plug c (.node f l i r)
  | .nil, h => by cases h
  | .node f l v r, h => by
    simp only [BT.nodes, List.mem_append, List.mem_cons] at h
    rcases h with h | rfl | h
    · obtain ⟨c, f', l', r', e⟩ := zip_ex h
      exact ⟨c ++ [⟨false, f, v, r⟩], f', l', r', by rw [plug_snoc, ← e]; rfl⟩
    · exact ⟨[], f, l, r, rfl⟩
    · obtain ⟨c, f', l', r', e⟩ := zip_ex h
      exact ⟨c ++ [⟨true, f, v, l⟩], f', l', r', by rw [plug_snoc, ← e]; rfl⟩

/-- The places from a node up to the root: of each but the last the side is told. -/
theorem climb {σ : Tbl} : ∀ {c : List Fm} {t : BT} {u : Nat}, Rep σ (plug c t) u → t.root ≠ 0 → (plug c t).nodes.Nodup → Out σ u (plug c t).nodes →
    (∀ k x y, (t.root :: c.map Fm.p)[k]? = some x → (t.root :: c.map Fm.p)[k + 1]? = some y → (sideOf σ x).2 = true ∧ (σ x).up = y) ∧ (∀ x, (t.root :: c.map Fm.p)[c.length]? = some x → (sideOf σ x).2 = false)
  | [], t, u, h, h0, _, hO => by
    refine ⟨fun k x y _ h2 => by simp at h2, fun x hx => ?_⟩
    simp at hx; subst hx
    cases t with
    | nil => exact absurd rfl h0
    | node f l v r =>
      simp only [plug] at h hO
      show (sideOf σ v).snd = false
      rw [sideOf_out h.1.2.1 hO (by simp [BT.nodes])]
  | a :: c, t, u, h, h0, hnd, hO => by
    have hi := climb (c := c) (t := a.fill t) (u := u) h (by rw [fill_root]; exact ((rep_plug.1 h).2).1.1) hnd hO
    rw [fill_root] at hi
    obtain ⟨hT, hC⟩ := rep_plug.1 h
    obtain ⟨⟨hp0, _, _, hpk, hpo⟩, hRo, _⟩ := hC
    refine ⟨fun k x y h1 h2 => ?_, fun x hx => ?_⟩
    · cases k with
      | zero =>
        simp at h1 h2
        subst h1; subst h2
        have hup : (σ t.root).up = a.p := by
          cases t with
          | nil => exact absurd rfl h0
          | node f l v r => exact hT.1.2.1
        refine ⟨?_, hup⟩
        rw [sideOf_frame h0 hp0 hup hpk hpo]
        intro e
        have hor : a.o.root ≠ 0 := by rw [e]; exact h0
        have h1 := BT.root_mem hor
        have h2 := BT.root_mem h0
        have := (plug_nodes (a :: c) t).nodup_iff.1 hnd
        rw [List.nodup_append] at this
        exact this.2.2 _ h2 _ (by simp only [cnodes, List.cons_append, List.mem_cons, List.mem_append]; exact .inr (.inl h1)) e.symm
      | succ k => exact hi.1 k x y (by simpa using h1) (by simpa using h2)
    · exact hi.2 x (by simpa using hx)

theorem pushK_at (σ : Tbl) (k x : Nat) : pushK σ k x = if x = k ∧ k ≠ 0 then { σ x with flip := !(σ x).flip } else σ x := by
  unfold pushK
  by_cases h : k = 0
  · rw [if_pos h, if_neg (fun e => e.2 h)]
  · rw [if_neg h]
    by_cases e : x = k
    · subst e; rw [upd_same, if_pos ⟨rfl, h⟩]
    · rw [upd_other e, if_neg (fun h => e h.1)]
theorem InR.push {N : Nat} {σ : Tbl} (h : InR N σ) (i : Nat) (hi : i < N) : InR N (push σ i) := by
  have hK : ∀ (τ : Tbl) (k : Nat), InR N τ → InR N (pushK τ k) := by
    intro τ k hτ j hj
    rw [pushK_at]; split <;> exact hτ j hj
  unfold Proofs.Ytoppjjgecgbbkaa.push
  split
  · refine hK _ _ (hK _ _ ?_)
    exact h.upd ⟨(h i hi).2.1, (h i hi).1, (h i hi).2.2.1, (h i hi).2.2.2⟩
  · exact h

theorem Rep.flip {σ σ' : Tbl} {t : BT} {u : Nat} (h : Rep σ t u) (hnd : t.nodes.Nodup) (ho : ∀ x ∈ t.nodes, x ≠ t.root → σ' x = σ x) (hr : t.root ≠ 0 → σ' t.root = { σ t.root with flip := !(σ t.root).flip }) : Rep σ' t.flip u := by
  cases t with
  | nil => trivial
  | node f l v r =>
    obtain ⟨h1, hl, hrr, h2, h3, h4⟩ := h
    have hv : σ' v = { σ v with flip := !(σ v).flip } := hr h1.1
    simp only [BT.nodes, List.nodup_append, List.nodup_cons] at hnd
    have hnl : ∀ x ∈ l.nodes, x ≠ v := fun x hx e => hnd.2.2 x hx v (by simp) e
    have hnr : ∀ x ∈ r.nodes, x ≠ v := fun x hx e => hnd.2.1.1 (e ▸ hx)
    have hlk : ∀ x ∈ (BT.node f l v r).nodes, (σ' x).light = (σ x).light ∧ (σ' x).key = (σ x).key := by
      intro x hx
      by_cases e : x = v
      · subst e; rw [hv]; exact ⟨rfl, rfl⟩
      · rw [ho x hx e]; exact ⟨rfl, rfl⟩
    refine ⟨by rw [hv]; exact ⟨h1.1, h1.2.1, by rw [h1.2.2.1], h1.2.2.2⟩, hl.congr (fun x hx => ho x (by simp [BT.nodes, hx]) (hnl x hx)), hrr.congr (fun x hx => ho x (by simp [BT.nodes, hx]) (hnr x hx)), by rw [hv]; exact h2, ?_, ?_⟩
    · rw [hv]; show _ = wrap64 (tot σ' (BT.node f l v r).nodes); rw [tot_congr (fun x hx => (hlk x hx).1)]; exact h3
    · rw [hv]; exact best_congr (σ := σ) (fun x hx => (hlk x hx).2) h4

/-- A node whose pending reversal is carried out. -/
def BT.pushed : BT → BT
  | .nil => .nil
  | .node f l v r => if f then .node false r.flip v l.flip else .node false l v r

theorem pushed_seq (t : BT) : t.pushed.seq = t.seq := by
  cases t with
  | nil => rfl
  | node f l v r => cases f <;> simp [BT.pushed, BT.seq, BT.seq_flip]
theorem pushed_perm (t : BT) : t.pushed.nodes.Perm t.nodes := by
  cases t with
  | nil => exact .nil
  | node f l v r =>
    cases f with
    | false => exact .refl _
    | true =>
      simp only [BT.pushed, if_true, BT.nodes, BT.nodes_flip]
      exact List.perm_middle.trans (((List.perm_append_comm).cons v).trans List.perm_middle.symm)
theorem pushed_root (t : BT) : t.pushed.root = t.root := by
  cases t with
  | nil => rfl
  | node f l v r => cases f <;> rfl
theorem seqC : ∀ (c : List Fm) {t t' : BT}, t.seq = t'.seq → (plug c t).seq = (plug c t').seq := plug_seq

theorem push_rep {σ : Tbl} {c : List Fm} {f : Bool} {l r : BT} {v u : Nat} (h : Rep σ (plug c (.node f l v r)) u) (hnd : (plug c (.node f l v r)).nodes.Nodup) :
    Rep (push σ v) (plug c (BT.node f l v r).pushed) u ∧ Rotated σ (push σ v) (plug c (.node f l v r)).nodes := by
  have hpm := plug_nodes c (.node f l v r)
  have hnd' := hpm.nodup_iff.1 hnd
  have hmem : ∀ x, x ∈ (plug c (.node f l v r)).nodes ↔ x ∈ (BT.node f l v r).nodes ++ cnodes c := fun x => hpm.mem_iff
  obtain ⟨hT, hC⟩ := rep_plug.1 h
  obtain ⟨⟨hv0, hvu, hvf, hk0, hk1⟩, hl, hr, hs, ht, hb⟩ := id hT
  simp only [BT.nodes, List.nodup_append, List.nodup_cons, List.mem_append, List.mem_cons, List.append_assoc] at hnd' hmem
  cases f with
  | false =>
    have e : push σ v = σ := by unfold push; rw [if_neg (by simp [hvf])]
    rw [e]
    exact ⟨h, fun _ _ => rfl, fun _ => ⟨rfl, rfl⟩⟩
  | true =>
    have dvl : v ∉ l.nodes := by grind
    have dvr : v ∉ r.nodes := by grind
    have dlr : ∀ x ∈ l.nodes, x ∉ r.nodes := by grind
    have ndl : l.nodes.Nodup := by grind
    have ndr : r.nodes.Nodup := by grind
    have dvc : v ∉ cnodes c := by grind
    have dlc : ∀ x ∈ l.nodes, x ∉ cnodes c := by grind
    have drc : ∀ x ∈ r.nodes, x ∉ cnodes c := by grind
    have hlv : l.root ≠ v := fun e => dvl (e ▸ BT.root_mem (by rw [e]; exact hv0))
    have hrv : r.root ≠ v := fun e => dvr (e ▸ BT.root_mem (by rw [e]; exact hv0))
    have hx : ∀ x, push σ v x = if x = v then { σ v with flip := false, k0 := r.root, k1 := l.root } else if (x = l.root ∨ x = r.root) ∧ x ≠ 0 then { σ x with flip := !(σ x).flip } else σ x := by
      intro x
      unfold push
      rw [if_pos hvf]
      show pushK (pushK (push0 σ v) (σ v).k1) (σ v).k0 x = _
      rw [hk0, hk1, pushK_at]
      by_cases e : x = v
      · subst e
        rw [if_neg (fun h => hlv h.1.symm), pushK_at, if_neg (fun h => hrv h.1.symm), if_pos rfl]
        simp only [push0, upd_same, hk0, hk1]
      · rw [if_neg e]
        have e0 : push0 σ v x = σ x := by simp only [push0, upd_other e]
        by_cases e1 : x = l.root
        · by_cases e2 : x = 0
          · have hl0 : l.root = 0 := e1.symm.trans e2
            rw [if_neg (by simp [hl0]), pushK_at, if_neg (by rintro ⟨h1, h2⟩; exact h2 (h1.symm.trans e2)), if_neg (by simp [e2]), e0]
          · rw [if_pos ⟨e1, fun h => e2 (e1.trans h)⟩, if_pos ⟨.inl e1, e2⟩]
            have : pushK (push0 σ v) r.root x = σ x := by
              rw [pushK_at, if_neg (by rintro ⟨h1, h2⟩; exact dlr x (e1 ▸ BT.root_mem (fun h0 => e2 (e1.trans h0))) (h1 ▸ BT.root_mem h2)), e0]
            rw [this]
        · rw [if_neg (fun h => e1 h.1), pushK_at]
          by_cases e2 : x = r.root
          · by_cases e3 : x = 0
            · rw [if_neg (fun h => h.2 (e2.symm.trans e3)), if_neg (fun h => h.2 e3), e0]
            · rw [if_pos ⟨e2, fun h => e3 (e2.trans h)⟩, if_pos ⟨.inr e2, e3⟩, e0]
          · rw [if_neg (fun h => e2 h.1), if_neg (fun h => h.1.elim e1 e2), e0]
    have hlk : ∀ x, (push σ v x).light = (σ x).light ∧ (push σ v x).key = (σ x).key := by
      intro x; rw [hx]
      split
      · rename_i e; subst e; exact ⟨rfl, rfl⟩
      · split <;> exact ⟨rfl, rfl⟩
    have hoth : ∀ x, x ≠ v → x ∉ l.nodes → x ∉ r.nodes → push σ v x = σ x := by
      intro x e1 e2 e3
      rw [hx, if_neg e1, if_neg]
      rintro ⟨e | e, h0⟩
      · exact e2 (e ▸ BT.root_mem (fun h => h0 (e.trans h)))
      · exact e3 (e ▸ BT.root_mem (fun h => h0 (e.trans h)))
    have hvv : push σ v v = { σ v with flip := false, k0 := r.root, k1 := l.root } := by rw [hx, if_pos rfl]
    have hpp := pushed_perm (.node true l v r)
    refine ⟨rep_plug.2 ⟨?_, ?_⟩, fun x hxn => ?_, hlk⟩
    · simp only [BT.pushed, if_true]
      have hll : Rep (push σ v) l.flip v := hl.flip ndl (fun x hxn hne => by
          rw [hx, if_neg (by rintro rfl; exact dvl hxn), if_neg]
          rintro ⟨e | e, h0⟩
          · exact hne e
          · exact dlr x hxn (e ▸ BT.root_mem (fun h => h0 (e.trans h)))) (fun h0 => by rw [hx, if_neg hlv, if_pos ⟨.inl rfl, h0⟩])
      have hrr : Rep (push σ v) r.flip v := hr.flip ndr (fun x hxn hne => by
          rw [hx, if_neg (by rintro rfl; exact dvr hxn), if_neg]
          rintro ⟨e | e, h0⟩
          · exact dlr x (e ▸ BT.root_mem (fun h => h0 (e.trans h))) hxn
          · exact hne e) (fun h0 => by rw [hx, if_neg hrv, if_pos ⟨.inr rfl, h0⟩])
      refine ⟨⟨hv0, by rw [hvv]; exact hvu, by rw [hvv], by rw [hvv, BT.root_flip], by rw [hvv, BT.root_flip]⟩, hrr, hll, ?_, ?_, ?_⟩
      · rw [hvv]; show (σ v).size = _; rw [hs]; exact congrArg (fun n : Nat => wrap64 n) hpp.length_eq.symm
      · rw [hvv]; show (σ v).total = _; rw [tot_congr (fun x _ => (hlk x).1), ht]; exact congrArg wrap64 (tot_perm hpp.symm)
      · rw [hvv]; exact best_congr (fun x _ => (hlk x).2) (best_perm hpp.symm hb)
    · rw [pushed_root]
      refine RepC.perm hpp.symm (hC.congr (fun y hy => hoth y (fun e => dvc (e ▸ hy)) (fun h => dlc y h hy) (fun h => drc y h hy)) (fun y _ => hlk y))
    · have hx' : ¬ (x ∈ l.nodes ∨ x = v ∨ x ∈ r.nodes ∨ x ∈ cnodes c) := fun h => hxn ((hmem x).2 (by grind))
      simp only [not_or] at hx'
      exact hoth x hx'.2.1 hx'.1 hx'.2.2.1

def pushAll (σ : Tbl) (ps : List Nat) : Tbl := ps.foldl push σ
theorem Rotated.trans {σ τ υ : Tbl} {ns : List Nat} (h : Rotated σ τ ns) (k : Rotated τ υ ns) : Rotated σ υ ns :=
  ⟨fun x hx => (k.other x hx).trans (h.other x hx), fun x => ⟨(k.lk x).1.trans (h.lk x).1, (k.lk x).2.trans (h.lk x).2⟩⟩
theorem Rotated.refl (σ : Tbl) (ns : List Nat) : Rotated σ σ ns := ⟨fun _ _ => rfl, fun _ => ⟨rfl, rfl⟩⟩
theorem Rotated.perm {σ τ : Tbl} {ns ms : List Nat} (h : Rotated σ τ ns) (hm : ∀ x, x ∈ ns ↔ x ∈ ms) : Rotated σ τ ms := ⟨fun x hx => h.other x (fun e => hx ((hm x).1 e)), h.lk⟩

/-- Pushing from the root down to a node. -/
theorem pushAll_rep {σ : Tbl} : ∀ {ps : List Nat} {c : List Fm} {t : BT} {u i : Nat}, Rep σ (plug c t) u → (plug c t).nodes.Nodup → (∀ a ∈ c, a.f = false) → Way t (ps ++ [i]) →
    ∃ c' l r, Rep (pushAll σ (ps ++ [i])) (plug c' (.node false l i r)) u ∧ (∀ a ∈ c', a.f = false) ∧ (plug c' (.node false l i r)).seq = (plug c t).seq ∧ (plug c' (.node false l i r)).nodes.Perm (plug c t).nodes ∧
      Rotated σ (pushAll σ (ps ++ [i])) (plug c t).nodes
  | [], c, .nil, u, i, _, _, _, hw => hw.elim
  | [], c, .node f l v r, u, i, h, hnd, hc, hw => by
    obtain ⟨rfl, _⟩ : i = v ∧ _ := hw
    obtain ⟨h1, h2⟩ := push_rep h hnd
    have e : ∃ l' r', (BT.node f l i r).pushed = .node false l' i r' := by cases f <;> exact ⟨_, _, rfl⟩
    obtain ⟨l', r', e⟩ := e
    refine ⟨c, l', r', by rw [← e]; exact h1, hc, by rw [← e]; exact plug_seq c (pushed_seq _), ?_, h2⟩
    rw [← e]
    exact (plug_nodes c _).trans (((pushed_perm (.node f l i r)).append_right _).trans (plug_nodes c _).symm)
  | p :: ps, c, .nil, u, i, _, _, _, hw => hw.elim
  | p :: ps, c, .node f l v r, u, i, h, hnd, hc, hw => by
    obtain ⟨rfl, hw⟩ : p = v ∧ _ := hw
    obtain ⟨h1, h2⟩ := push_rep h hnd
    have hw : Way l (ps ++ [i]) ∨ Way r (ps ++ [i]) := hw.elim (fun e => by simp at e) id
    have e : ∃ l' r', (BT.node f l p r).pushed = .node false l' p r' ∧ (Way l' (ps ++ [i]) ∨ Way r' (ps ++ [i])) := by
      cases f with
      | false => exact ⟨_, _, rfl, hw⟩
      | true => exact ⟨_, _, rfl, hw.symm.imp (way_flip _ _).2 (way_flip _ _).2⟩
    obtain ⟨l', r', e, hw'⟩ := e
    have hperm : (plug c (.node false l' p r')).nodes.Perm (plug c (.node f l p r)).nodes := by
      rw [← e]; exact (plug_nodes c _).trans (((pushed_perm (.node f l p r)).append_right _).trans (plug_nodes c _).symm)
    have hseq : (plug c (.node false l' p r')).seq = (plug c (.node f l p r)).seq := by rw [← e]; exact plug_seq c (pushed_seq _)
    rw [e] at h1
    have step : ∀ (a : Fm) (t' : BT), a.fill t' = .node false l' p r' → a.f = false → Way t' (ps ++ [i]) →
        ∃ c' l r, Rep (pushAll (push σ p) (ps ++ [i])) (plug c' (.node false l i r)) u ∧ (∀ a ∈ c', a.f = false) ∧ (plug c' (.node false l i r)).seq = (plug c (.node false l' p r')).seq ∧ (plug c' (.node false l i r)).nodes.Perm (plug c (.node false l' p r')).nodes ∧
          Rotated (push σ p) (pushAll (push σ p) (ps ++ [i])) (plug c (.node false l' p r')).nodes := by
      intro a t' ha haf hwt
      have := pushAll_rep (σ := push σ p) (ps := ps) (c := a :: c) (t := t') (u := u) (i := i) (by simp only [plug]; rw [ha]; exact h1) (by simp only [plug]; rw [ha]; exact hperm.nodup_iff.2 hnd)
        (fun b hb => (List.mem_cons.1 hb).elim (fun e => by rw [e]; exact haf) (hc b)) hwt
      simp only [plug] at this
      rw [ha] at this
      exact this
    have fin : ∃ c' l r, Rep (pushAll (push σ p) (ps ++ [i])) (plug c' (.node false l i r)) u ∧ (∀ a ∈ c', a.f = false) ∧ (plug c' (.node false l i r)).seq = (plug c (.node false l' p r')).seq ∧ (plug c' (.node false l i r)).nodes.Perm (plug c (.node false l' p r')).nodes ∧
          Rotated (push σ p) (pushAll (push σ p) (ps ++ [i])) (plug c (.node false l' p r')).nodes := by
      rcases hw' with hw' | hw'
      · exact step ⟨false, false, p, r'⟩ l' rfl rfl hw'
      · exact step ⟨true, false, p, l'⟩ r' rfl rfl hw'
    obtain ⟨c', l2, r2, a1, a2, a3, a4, a5⟩ := fin
    refine ⟨c', l2, r2, a1, a2, a3.trans hseq, a4.trans hperm, ?_⟩
    exact h2.trans (a5.perm (fun x => hperm.mem_iff))

end Go.Proofs.Ytoppjjgecgbbkaa

/- lct: the rotations of a splay, as steps of trees. -/
namespace Go.Proofs.Ytoppjjgecgbbkaa
open Go.RowKit

theorem Out.congr {σ τ : Tbl} {u : Nat} {ns ms : List Nat} (h : Out σ u ns) (hr : Rotated σ τ ms) (hm : ∀ x, x ∈ ns ↔ x ∈ ms) : Out τ u ns := by
  rcases h with h | ⟨h1, h2, h3⟩
  · exact .inl h
  · right
    rw [hr.other u (fun e => h1 ((hm u).2 e))]
    exact ⟨h1, h2, h3⟩
theorem Out.perm {σ : Tbl} {u : Nat} {ns ms : List Nat} (h : Out σ u ns) (hm : ∀ x, x ∈ ns ↔ x ∈ ms) : Out σ u ms := by
  rcases h with h | ⟨h1, h2, h3⟩
  · exact .inl h
  · exact .inr ⟨fun e => h1 ((hm _).2 e), fun e => h2 ((hm _).2 e), fun e => h3 ((hm _).2 e)⟩

theorem side_frame {σ : Tbl} {a : Fm} {c : List Fm} {t : BT} {u : Nat} (h : Rep σ (plug (a :: c) t) u) (h0 : t.root ≠ 0) (hnd : (plug (a :: c) t).nodes.Nodup) : sideOf σ t.root = (sd a.s, true) ∧ (σ t.root).up = a.p := by
  obtain ⟨hT, hC⟩ := rep_plug.1 h
  obtain ⟨⟨hp0, _, _, hpk, hpo⟩, hRo, _⟩ := hC
  have hup : (σ t.root).up = a.p := by
    cases t with
    | nil => exact absurd rfl h0
    | node f l v r => exact hT.1.2.1
  refine ⟨?_, hup⟩
  refine sideOf_frame h0 hp0 hup hpk hpo ?_
  intro e
  have hor : a.o.root ≠ 0 := by rw [e]; exact h0
  have h1 := BT.root_mem hor
  have h2 := BT.root_mem h0
  have := (plug_nodes (a :: c) t).nodup_iff.1 hnd
  rw [List.nodup_append] at this
  exact this.2.2 _ h2 _ (by simp only [cnodes, List.cons_append, List.mem_cons, List.mem_append]; exact .inr (.inl h1)) e.symm

theorem InR.rotate {N : Nat} {σ : Tbl} (h : InR N σ) {i : Nat} (hi : i < N) (q0 : (rot3 σ i (σ i).up).k0 ≠ (σ i).up) (q1 : (rot3 σ i (σ i).up).k1 ≠ (σ i).up) (q2 : (rot3 σ i i).k0 ≠ i) (q3 : (rot3 σ i i).k1 ≠ i) : InR N (rotate σ i) := by
  have hp := (h i hi).2.2.1
  have hR1 := h.rot1 hi
  have hR2 : InR N (rot2 σ i) := hR1.hang hp (hR1.kid hi _)
  have hR3 : InR N (rot3 σ i) := hR2.hang hi hp
  unfold Proofs.Ytoppjjgecgbbkaa.rotate
  exact (hR3.refresh hp q0 q1).refresh hi (by rw [refresh_links.1]; exact q2) (by rw [refresh_links.2.1]; exact q3)

def RotOK (σ : Tbl) (i : Nat) : Prop := (rot3 σ i (σ i).up).k0 ≠ (σ i).up ∧ (rot3 σ i (σ i).up).k1 ≠ (σ i).up ∧ (rot3 σ i i).k0 ≠ i ∧ (rot3 σ i i).k1 ≠ i

/-- A node i on its way to the root; t₀ is the tree at the start. -/
structure Spin (N : Nat) (σ τ : Tbl) (u i : Nat) (t₀ : BT) (c : List Fm) (l r : BT) : Prop where
  rep : Rep τ (plug c (.node false l i r)) u
  ff : ∀ a ∈ c, a.f = false
  seq : (plug c (.node false l i r)).seq = t₀.seq
  perm : (plug c (.node false l i r)).nodes.Perm t₀.nodes
  rot : Rotated σ τ t₀.nodes
  inR : InR N τ

section
variable {N : Nat} {σ τ : Tbl} {u i : Nat} {t₀ : BT} {a b : Fm} {c : List Fm} {l r : BT}
theorem Spin.nd (h : Spin N σ τ u i t₀ c l r) (hnd : t₀.nodes.Nodup) : (plug c (.node false l i r)).nodes.Nodup := h.perm.nodup_iff.2 hnd
theorem Spin.out (h : Spin N σ τ u i t₀ c l r) (hO : Out σ u t₀.nodes) : Out τ u (plug c (.node false l i r)).nodes :=
  (hO.congr h.rot (fun _ => Iff.rfl)).perm (fun _ => h.perm.mem_iff.symm)
theorem Spin.zig (h : Spin N σ τ u i t₀ (a :: c) l r) (hnd : t₀.nodes.Nodup) (hO : Out σ u t₀.nodes) (hi : i < N) : RotOK τ i ∧ ∃ l' r', Spin N σ (rotate τ i) u i t₀ c l' r' := by
  obtain ⟨h1, h2, h3⟩ := rotate_rep h.rep (h.ff a (by simp)) (h.nd hnd) (h.out hO)
  obtain ⟨l', r', e⟩ : ∃ l' r', rotT a l i r = .node false l' i r' := by unfold rotT; split <;> exact ⟨_, _, rfl⟩
  have hn : (plug c (.node false l' i r')).nodes.Perm (plug (a :: c) (.node false l i r)).nodes := by
    rw [← e]; simp only [plug]
    refine (plug_nodes c _).trans (.trans ?_ (plug_nodes c _).symm)
    rw [rotT_nodes]
  refine ⟨h3, l', r', by rw [← e]; exact h1, fun b hb => h.ff b (by simp [hb]), ?_, hn.trans h.perm, ?_, h.inR.rotate hi h3.1 h3.2.1 h3.2.2.1 h3.2.2.2⟩
  · rw [← h.seq, ← e]; simp only [plug]; exact plug_seq c (rotT_seq a (h.ff a (by simp)) l i r)
  · exact h.rot.trans (h2.perm (fun _ => h.perm.mem_iff))
theorem Spin.zigp (h : Spin N σ τ u i t₀ (a :: b :: c) l r) (hs : a.s = b.s) (hnd : t₀.nodes.Nodup) (hO : Out σ u t₀.nodes) (hp : a.p < N) : RotOK τ a.p ∧ ∃ a', Spin N σ (rotate τ a.p) u i t₀ (a' :: c) l r := by
  have hrep := h.rep
  have hnd' := h.nd hnd
  have hO' := h.out hO
  have haf := h.ff a (by simp)
  have hbf := h.ff b (by simp)
  have hperm := h.perm
  have hseq := h.seq
  obtain ⟨s, f, p, o⟩ := a
  obtain ⟨s', f', p', o'⟩ := b
  dsimp only at haf hbf hs hp ⊢
  subst haf; subst hbf; subst hs
  have ff : ∀ x ∈ c, x.f = false := fun x hx => h.ff x (by simp [hx])
  cases s with
  | false =>
    have key := rotate_rep (σ := τ) (a := ⟨false, false, p', o'⟩) (c := c) (l := .node false l i r) (i := p) (r := o) (u := u) hrep rfl hnd' hO'
    obtain ⟨h1, h2, h3⟩ := key
    refine ⟨h3, ⟨false, false, p, .node false o p' o'⟩, h1, ?_, ?_, ?_, h.rot.trans (h2.perm (fun _ => hperm.mem_iff)), h.inR.rotate hp h3.1 h3.2.1 h3.2.2.1 h3.2.2.2⟩
    · intro x hx; rcases List.mem_cons.1 hx with rfl | hx; exact rfl; exact ff x hx
    · rw [← hseq]; simp only [plug]; exact plug_seq c (by simp [Fm.fill, BT.seq])
    · refine .trans ?_ hperm; simp only [plug]
      refine (plug_nodes c _).trans (.trans (.append_right _ ?_) (plug_nodes c _).symm)
      simp [Fm.fill, BT.nodes]
  | true =>
    have key := rotate_rep (σ := τ) (a := ⟨true, false, p', o'⟩) (c := c) (l := o) (i := p) (r := .node false l i r) (u := u) hrep rfl hnd' hO'
    obtain ⟨h1, h2, h3⟩ := key
    refine ⟨h3, ⟨true, false, p, .node false o' p' o⟩, h1, ?_, ?_, ?_, h.rot.trans (h2.perm (fun _ => hperm.mem_iff)), h.inR.rotate hp h3.1 h3.2.1 h3.2.2.1 h3.2.2.2⟩
    · intro x hx; rcases List.mem_cons.1 hx with rfl | hx; exact rfl; exact ff x hx
    · rw [← hseq]; simp only [plug]; exact plug_seq c (by simp [Fm.fill, BT.seq])
    · refine .trans ?_ hperm; simp only [plug]
      refine (plug_nodes c _).trans (.trans (.append_right _ ?_) (plug_nodes c _).symm)
      simp [Fm.fill, BT.nodes]
end

end Go.Proofs.Ytoppjjgecgbbkaa

/- A region that draws its order and only reads, inside the round of a loop over a range-function: one walk in the order of the text serves. -/
namespace Go.Proofs.Ytoppjjgecgbbkaa
open Go.RowKit

section
variable {F : Fence} {n : Nat} {P : Program} {ops : Array Oper} {md : Region.Mode} {C : World → Prop}

theorem semAt_plain (ro : Option Nat) (ρ : Operand → Value) (o : Oper) (h : ∀ c, o.op ≠ .defer c) : Oper.semAt ro ρ o = execOp ρ o := by
  cases ro with
  | none => exact Oper.semAt_none ρ o
  | some l => exact Oper.semAt_some l ρ o h

theorem quiet_op {o : Oper} {a : Act} {K : Act → Prop} {K' : Act → World → Prop} {Q' : Exit → Act → World → Prop} {w : World} (hd : ∀ c, o.op ≠ .defer c) (hw : C w) (h : ∀ a w', C w' → K a → K' a w')
    (ha : o.askedIn F P a C) (hh : o.quietIn F n P a C K) : o.wpIn F n P a w K' Q' := by
  obtain ⟨v, h1, h2⟩ := hh
  have h3 := h1 w hw
  unfold Oper.quietAtIn at h3
  refine ⟨ha w hw, ?_⟩
  rw [semAt_plain _ _ _ hd]
  generalize (execOp a.eval o).run P w = r at *
  cases r with
  | halt x w' => exact h3.elim
  | ok x w' =>
    cases x with
    | value u => obtain ⟨rfl, rfl⟩ := h3; exact h _ _ hw h2
    | skip => obtain ⟨rfl, rfl⟩ := h3; exact h _ _ hw h2
    | enter f args => obtain ⟨rfl, hd, hc⟩ := h3; exact ⟨hd, hc.mono fun e w'' ⟨he, hw''⟩ => by subst he; exact h _ _ hw'' h2⟩
    | _ => exact h3.elim

theorem quiet_opAt {i : Nat} {a : Act} {K : Act → Prop} {K' : Act → World → Prop} {Q' : Exit → Act → World → Prop} {w : World} (hd : ∀ o ∈ ops.toList, ∀ c, o.op ≠ .defer c) (hC : C w) (h : ∀ a w', C w' → K a → K' a w')
    (hh : qOpIn F n P ops C i K a) : wpOpIn F n P ops Q' i K' a w := by
  unfold qOpIn at hh
  unfold wpOpIn
  split
  · rename_i ho; simp only [ho] at hh; exact h _ _ hC hh
  · rename_i o ho
    simp only [ho] at hh
    obtain ⟨ha, hh⟩ := hh
    have hm : o ∈ ops.toList := by rw [Array.mem_toList_iff]; exact Array.mem_of_getElem? ho
    split
    · rename_i hw; simp only [hw, if_true] at hh; exact quiet_op (hd o hm) hC h ha hh
    · rename_i hw; simp only [hw] at hh; exact ⟨ha w hC, h _ _ hC hh⟩

theorem quiet_any {Q : Act → Prop} {Q' : Exit → Act → World → Prop} (hd : ∀ o ∈ ops.toList, ∀ c, o.op ≠ .defer c) (hQ : ∀ a w, C w → Q a → Q' .normal a w) : ∀ (fuel : Nat) (listed : Array Bool) (a : Act) (w : World), C w →
    wpAnyQIn F n P md ops C Q fuel listed a → wpAnyIn F n P md ops Q' fuel listed a w
  | 0, _, _, _, hw, h => ⟨h.1, hQ _ _ hw h.2⟩
  | fuel + 1, _, _, _, hw, h => ⟨fun h0 => hQ _ _ hw (h.1 h0), fun i hi => quiet_opAt hd hw (fun a' w' hw' => quiet_any hd hQ fuel _ a' w' hw') (h.2 i hi)⟩

def noDefer (o : Oper) : Bool := match o.op with
  | .defer _ => false
  | _ => true

theorem quiet_region {id : Nat} {Q : Exit → Act → World → Prop} {a : Act} {w : World} {l : List Oper} (hm : P.follows .mixedOrders = true) (hB : Region.lexB .any l.toArray = true) (hd : l.all noDefer = true)
    (h : wpQuietIn F n P l.toArray (fun w' => ∃ n, w' = w.drewN n) (fun a' => ∀ w', (∃ n, w' = w.drewN n) → Q .normal a' w') l a) : (Code.region id l.toArray true).wpIn F n P Q a w := by
  simp only [Region.lexB, Bool.and_eq_true] at hB
  have hd' : ∀ o ∈ l.toArray.toList, ∀ c, o.op ≠ .defer c := by
    intro o ho c e
    have := List.all_eq_true.1 hd o (by simpa using ho)
    simp [noDefer, e] at this
  refine wpIn_region_any hm (quiet_any (Q := fun a' => ∀ w', (∃ n, w' = w.drewN n) → Q .normal a' w') (C := fun w' => ∃ n, w' = w.drewN n) hd' (fun _ w' hw' h => h w' hw') _ _ _ _ ⟨1, rfl⟩ ?_)
  have := wpAnyQIn_lex (F := F) (n := n) (C := fun w' => ∃ n, w' = w.drewN n) (md := .any) hB.1 l 0 (Array.replicate l.toArray.size false) a (by simp) (by simpa using hB.2) h
  simpa using this
end
end Go.Proofs.Ytoppjjgecgbbkaa

/- lct: slices.Backward over a row of places. -/
namespace Go.Proofs.Ytoppjjgecgbbkaa
open Go.RowKit Go.Shelf
set_option maxRecDepth 4000
set_option maxHeartbeats 400000
attribute [local go_sem] Oper.semAt_some

/-- Of the blocks below n₀ only g may have changed. -/
structure Bx (n₀ g : Nat) (w w' : World) : Prop where
  os : w'.os = w.os
  tape : w'.tape = w.tape
  output : w'.output = w.output
  size : w.heap.size ≤ w'.heap.size
  keep : ∀ k, k < n₀ → k ≠ g → w'.heap[k]? = w.heap[k]?

section
variable {n₀ g : Nat} {w w' w'' : World}
theorem Bx.refl (n₀ g : Nat) (w : World) : Bx n₀ g w w := ⟨rfl, rfl, rfl, Nat.le_refl _, fun _ _ _ => rfl⟩
theorem Bx.trans (h : Bx n₀ g w w') (k : Bx n₀ g w' w'') : Bx n₀ g w w'' :=
  ⟨k.os.trans h.os, k.tape.trans h.tape, k.output.trans h.output, Nat.le_trans h.size k.size, fun i hi hn => (k.keep i hi hn).trans (h.keep i hi hn)⟩
theorem Bx.of_fr (h : Fr [g] w w') (hn : n₀ ≤ w.heap.size) : Bx n₀ g w w' := ⟨h.os, h.tape, h.output, h.size, fun k hk hne => h.keep k (by omega) (by simpa using hne)⟩
theorem Bx.of_below (h : Below n₀ w w') : Bx n₀ g w w' := ⟨h.os, h.tape, h.output, h.size, fun k hk _ => h.block k hk⟩
theorem Bx.fr (h : Bx w.heap.size g w w') : Fr [g] w w' := ⟨h.os, h.tape, h.output, h.size, fun k hk hn => h.keep k hk (by simpa using hn)⟩
theorem Bx.mono {n : Nat} (h : Bx n₀ g w w') (hn : n ≤ n₀) : Bx n g w w' := ⟨h.os, h.tape, h.output, h.size, fun k hk => h.keep k (by omega)⟩
theorem Bx.cell {p : Addr} (h : Bx n₀ g w w') (hp : p.block < n₀) (hg : p.block ≠ g) : w'.cell? p = w.cell? p := World.cell?_of_block (h.keep _ hp hg)
theorem Bx.grown {row : Option Nat} (h : Bx n₀ g w w') (hg : w'.grownBy w'' row) (hn : n₀ ≤ w'.heap.size) (hr : ∀ k, row = some k → n₀ ≤ k) : Bx n₀ g w w'' :=
  h.trans ⟨hg.os, hg.tape, hg.output, hg.size, fun k hk _ => hg.block k (by omega) (fun e => by have := hr k e.symm; omega)⟩
theorem Bx.alloc (h : Bx n₀ g w w') (hn : n₀ ≤ w'.heap.size) (o : Obj) : Bx n₀ g w (w'.alloc o) := h.grown (World.grownBy_alloc _ _ none) hn (fun _ e => by cases e)
end
theorem bxK_b {n₀ g : Nat} {w : World} (hn : n₀ ≤ w.heap.size) (W : World) (l : Nat) (o o' : Obj) (hl : w.heap.size ≤ l) (h : W.heap[l]? = some o) (_ : o.isCells = false) (_ : o.isWalk = false) : Bx n₀ g W (W.putObj l o') :=
  (Bx.refl n₀ g W).grown (grownBy_putObj' W l o') (by have := (Array.getElem?_eq_some_iff.1 h).1; omega) (fun k e => by cases e; omega)
theorem ownFrom_bx {β : Type} {n₀ g B : Nat} {w₀ : World} (hn : n₀ ≤ w₀.heap.size) (hB : n₀ ≤ B) : OwnFrom B (fun (_ : β) W => Bx n₀ g w₀ W) :=
  fun _ _ _ _ hs hg hr => hs.grown hg (Nat.le_trans hn hs.size) (fun k e => Nat.le_trans hB (hr k e).1)
theorem keepsOthers_fr {g : Nat} {w w' : World} {arr : Array Value} {t : TypeId} {z : Nat × Nat} (h : Fr [g] w w') (hg : w.heap[g]? = some (.cells arr t z)) : KeepsOthers w w' :=
  ⟨h.size, fun k o hk ho => by
    have hkg : k ≠ g := by
      rintro rfl; rw [hg] at hk; cases hk; cases ho
    exact (h.keep k (Array.getElem?_eq_some_iff.1 hk).1 (by simpa using hkg)).trans hk⟩

/-- An index with its place, as the range-function yields them. -/
abbrev Pl (N : Nat) := { x : Nat × Nat // x.2 < N }
def bk (N m : Nat) (P : Nat → Nat) (hP : ∀ i, P i < N) (k : Nat) : Pl N := ⟨(m - 1 - k, P (m - 1 - k)), hP _⟩
def bks (N m : Nat) (P : Nat → Nat) (hP : ∀ i, P i < N) (k : Nat) : List (Pl N) := (List.range k).map (bk N m P hP)
theorem bks_succ (N m : Nat) (P : Nat → Nat) (hP : ∀ i, P i < N) (k : Nat) : bks N m P hP (k + 1) = bks N m P hP k ++ [bk N m P hP k] := by simp [bks, List.range_succ]

theorem back_in (v : Value) (hv : v.oneCell' = true) (w : World) :
    CallsIn Fence.wide 9 Try.prog 63 #[v] w fun e w' => e = .returned (.func (.func 65) #[] #[.pointer (some ⟨w.heap.size, 0, none⟩)]) ∧ w' = w.alloc (.cells #[v] 41) := by
  refine callsIn_of_wp Try.func63 rfl trivial ?_ rfl
  simp only [Try.ntmps63, List.size_toArray, List.length_cons, List.length_nil, Nat.reduceAdd, Nat.reduceSub, Array.replicate_succ, Array.replicate_zero, List.push_toArray, List.append_toArray, List.nil_append, List.cons_append]
  gi_wp2
  go_ret
  exact ⟨rfl, rfl⟩

theorem back1_in (nf l Bb gp m cap N g B : Nat) (P : Nat → Nat) (hP : ∀ i, P i < N) (_hN : N ≤ 65537) (hm : m ≤ 65537) (hnf : 2 ≤ nf) (hBb : Bb < B) (hgp : gp < B) (hbg : Bb ≠ g) (hpg : gp ≠ g)
    (J Jx : List (Pl N) → World → Prop)
    (hY : ∀ pre x W, J pre W → pre.length < m → YieldAt Fence.wide (nf - 1) Try.prog l #[.int .i64 x.1.1, .int .i64 x.1.2] W fun e W' =>
      (e = .returned (.bool true) ∧ J (pre ++ [x]) W' ∧ Bx B g W W') ∨ (e = .returned (.bool false) ∧ Jx (pre ++ [x]) W'))
    (W : World) (hc : W.cell? ⟨Bb, 0, none⟩ = some (.slice (some ⟨gp, 0, none⟩) m cap)) (_hmc : m ≤ cap) (hp : ∀ i, i < m → W.cell? ⟨gp, i, none⟩ = some (.int .i64 (P i))) (h0 : J [] W) :
    CallsIn Fence.wide nf Try.prog 65 #[.func (.yield l) #[] #[], .pointer (some ⟨Bb, 0, none⟩)] W fun e W' => (∃ v, e = .returned v) ∧
      ((∃ ys, ys = bks N m P hP m ∧ J ys W') ∨ (∃ pre, True ∧ Jx pre W')) := by
  have HP := Lib.hid hp; clear hp
  refine callsIn_of_wp Try.func65 rfl trivial ?_ rfl
  simp only [Try.ntmps65, List.size_toArray, List.length_cons, List.length_nil, Nat.reduceAdd, Nat.reduceSub, Array.replicate_succ, Array.replicate_zero, List.push_toArray, List.append_toArray, List.nil_append, List.cons_append]
  gi_wp2
  gi_loopw [3] (fun x wr => ∃ i : Nat, i ≤ m ∧ x = .int .i64 ((i : Int) - 1) ∧ Bx B g W wr ∧ J (bks N m P hP (m - i)) wr) (fun x _ => (intOf x + 1).toNat)
  case atStart => exact ⟨m, Nat.le_refl _, by go_num, Bx.refl _ _ _, by rw [Nat.sub_self]; exact h0⟩
  case round =>
    obtain ⟨i, hi, rfl, hB, hJ⟩ := hrel
    cases i with
    | zero =>
      rw [show ((0 : Nat) : Int) - 1 = -1 by rfl]
      gi_wp2
      go_end0
      exact ⟨⟨_, rfl⟩, .inl ⟨_, rfl, hJ⟩⟩
    | succ j =>
      rw [show ((j + 1 : Nat) : Int) - 1 = (j : Int) by omega]
      have rc := (hB.cell (p := ⟨Bb, 0, none⟩) hBb hbg).trans hc
      have rp := (hB.cell (p := ⟨gp, j, none⟩) hgp hpg).trans (HP.out j (by omega))
      obtain ⟨fn, tmps, assign, body, hy, hRd⟩ := hY (bks N m P hP (m - (j + 1))) (bk N m P hP (m - (j + 1))) wr hJ (by simp [bks]; omega)
      have e0 : (bk N m P hP (m - (j + 1))).1.1 = j := by simp only [bk]; omega
      have e1 : (bk N m P hP (m - (j + 1))).1.2 = P j := by simp only [bk]; rw [show m - 1 - (m - (j + 1)) = j by omega]
      rw [e0, e1] at hy
      clear e0 e1
      have hjm : (j : Int) < m := by omega
      gi_wp2
      refine ⟨fun _ => by omega, ?_⟩
      refine hRd.mono ?_
      rintro e W3 (⟨rfl, hJ3, hk3⟩ | ⟨rfl, hJx3⟩)
      · clear rc rp
        gi_wp2
        go_roundw
        case rel => exact ⟨j, by omega, by go_num, hB.trans hk3, by rw [show m - j = (m - (j + 1)) + 1 by omega, bks_succ]; exact hJ3⟩
        case measure => simp [intOf]
      · gi_wp2
        refine bodyPost_ret (results_none rfl _ _ _) rfl ?_
        exact ⟨⟨_, rfl⟩, .inr ⟨_, trivial, hJx3⟩⟩

end Go.Proofs.Ytoppjjgecgbbkaa

namespace Go.Proofs.Ytoppjjgecgbbkaa
open Go.RowKit Go.Shelf
set_option maxRecDepth 10000
set_option maxHeartbeats 800000
attribute [local go_sem] Oper.semAt_some

theorem LctAt.below {w w' : World} {pf g N cap n : Nat} {σ : Tbl} {ed : Int} (h : LctAt w pf g N cap σ ed) (hb : Below n w w') (hp : pf < n) (hg : g < n) : LctAt w' pf g N cap σ ed :=
  ⟨h.hd.of_same (hb.block pf hp), h.nodes.same (hb.block g hg), h.ne, h.le, h.cap⟩
theorem LctAt.lts {w : World} {pf g N cap : Nat} {σ : Tbl} {ed : Int} (h : LctAt w pf g N cap σ ed) : pf < w.heap.size ∧ g < w.heap.size := ⟨h.hd.lt, h.nodes.lt⟩

theorem cnodes_p {a : Fm} : ∀ {c : List Fm}, a ∈ c → a.p ∈ cnodes c
  | b :: c, h => by
    rcases List.mem_cons.1 h with rfl | h
    · simp [cnodes]
    · simp only [cnodes, List.cons_append, List.mem_cons, List.mem_append]; exact .inr (.inr (cnodes_p h))
theorem cnodes_len : ∀ c : List Fm, c.length ≤ (cnodes c).length
  | [] => Nat.le_refl _
  | a :: c => by have := cnodes_len c; simp [cnodes]; omega
/-- Different numbers below a bound are no more than the bound. -/
theorem nodup_le {l : List Nat} {N : Nat} (h : l.Nodup) (hl : ∀ x ∈ l, x < N) : l.length ≤ N := by
  have h1 : l ⊆ List.range N := fun x hx => List.mem_range.2 (hl x hx)
  have := h.length_le_of_subset h1
  simpa using this
def slLen : Value → Nat
  | .slice _ n _ => n
  | _ => 0
theorem Fr.of_grown {w w' : World} {b : Nat} {row : Option Nat} {o : Obj} (hg : (w.alloc o).grownBy w' row) (hr : ∀ k, row = some k → b ≤ k) (hb : b ≤ w.heap.size) : Below b w w' :=
  ((Below.refl b w).alloc hb o).grown hg (by simp; omega) hr

theorem Try.info3 : (Try.prog.info? 3).map (fun i => (i.zero, i.size, i.bytes)) = some (some (.int .i64 0), 1, 8) := by kernel_rfl
theorem LctAt.grown {w w' : World} {pf g N cap : Nat} {σ : Tbl} {ed : Int} {row : Option Nat} (h : LctAt w pf g N cap σ ed) (hg : w.grownBy w' row) (hr : ∀ k, row = some k → k ≠ pf ∧ k ≠ g) : LctAt w' pf g N cap σ ed :=
  ⟨h.hd.of_same (hg.block pf h.hd.lt (fun e => (hr _ e.symm).1 rfl)), h.nodes.same (hg.block g h.nodes.lt (fun e => (hr _ e.symm).2 rfl)), h.ne, h.le, h.cap⟩
theorem InR.pushAll {N : Nat} : ∀ {ps : List Nat} {σ : Tbl}, InR N σ → (∀ x ∈ ps, x < N) → InR N (pushAll σ ps)
  | [], _, h, _ => h
  | p :: ps, σ, h, hp => InR.pushAll (ps := ps) (h.push p (hp p (by simp))) (fun x hx => hp x (by simp [hx]))
theorem pushAll_snoc (σ : Tbl) (ps : List Nat) (x : Nat) : pushAll σ (ps ++ [x]) = push (pushAll σ ps) x := by simp [pushAll]
theorem ownsRow_cells {w : World} {e : TypeId} {g n cap : Nat} {xs : List Value} (h : w.ownsRow 0 e 1 (.slice (some ⟨g, 0, none⟩) n cap) n xs) (hn : 0 < n) : n ≤ cap ∧ g < w.heap.size ∧ ∀ i, i < n → w.cell? ⟨g, i, none⟩ = xs[i]? := by
  obtain ⟨g', cap', e1, h1, h2, _⟩ := ownsRow_at h hn
  simp only [Value.slice.injEq, Option.some.injEq, Addr.mk.injEq, and_true, true_and] at e1
  obtain ⟨rfl, rfl⟩ := e1
  refine ⟨h1, h2, fun i hi => ?_⟩
  obtain ⟨g', cap', e1, _, _, h3, _⟩ := ownsRow_at h hi
  simp only [Value.slice.injEq, Option.some.injEq, Addr.mk.injEq, and_true, true_and] at e1
  obtain ⟨rfl, rfl⟩ := e1
  exact h3
theorem bks_map (N m : Nat) (P : Nat → Nat) (hP : ∀ i, P i < N) (k : Nat) : (bks N m P hP k).map (fun x => x.1.2) = (List.range k).map (fun k => P (m - 1 - k)) := by simp [bks, bk, Function.comp_def]
theorem range_rev (P : List Nat) : (List.range P.length).map (fun k => P.getD (P.length - 1 - k) 0) = P.reverse := by
  apply List.ext_getElem?
  intro j
  by_cases h : j < P.length
  · rw [List.getElem?_map, List.getElem?_range h, List.getElem?_reverse h]
    simp only [Option.map_some, List.getD_eq_getElem?_getD]
    rw [List.getElem?_eq_getElem (show P.length - 1 - j < P.length by omega)]
    rfl
  · rw [List.getElem?_eq_none (by simp; omega), List.getElem?_eq_none (by simp; omega)]

def encI (x : Nat) : Value := .int .i64 x

theorem splay_w {w : World} {pf g N cap : Nat} {σ : Tbl} {ed : Int} (h : LctAt w pf g N cap σ ed) (i : Nat) (hR : InR N σ) (c : List Fm) (f : Bool) (l r : BT) (u : Nat)
    (hrep : Rep σ (plug c (.node f l i r)) u) (hnd : (plug c (.node f l i r)).nodes.Nodup) (hO : Out σ u (plug c (.node f l i r)).nodes) (hlt : ∀ x ∈ (plug c (.node f l i r)).nodes, x < N) :
    Calls Try.prog 55 #[.pointer (some ⟨pf, 0, none⟩), .int .i64 i] w fun e w' => e = .returned (.tuple #[]) ∧
      ∃ σ' l' r', LctAt w' pf g N cap σ' ed ∧ Rep σ' (.node false l' i r') u ∧ (BT.node false l' i r').seq = (plug c (.node f l i r)).seq ∧ (BT.node false l' i r').nodes.Perm (plug c (.node f l i r)).nodes ∧ Rotated σ σ' (plug c (.node f l i r)).nodes ∧ InR N σ' ∧ Fr [g] w w' := by
  obtain ⟨hpf, hg⟩ := h.lts
  have hN := h.le
  have HR := Lib.hid hR; clear hR
  have hi0 : i ≠ 0 := (rep_plug.1 hrep).1.1.1
  have hcl := climb hrep hi0 hnd hO
  have hPm : ∀ x ∈ i :: c.map Fm.p, x ∈ (plug c (.node f l i r)).nodes := by
    intro x hx
    refine (plug_nodes c _).mem_iff.2 ?_
    rcases List.mem_cons.1 hx with rfl | hx
    · simp [BT.nodes]
    · rw [List.mem_append]; right
      obtain ⟨a, ha, rfl⟩ := List.mem_map.1 hx
      exact cnodes_p ha
  have hPN : ∀ x ∈ i :: c.map Fm.p, x < N := fun x hx => hlt x (hPm x hx)
  have hPl : (i :: c.map Fm.p).length = c.length + 1 := by simp
  have hway : Way (plug c (.node f l i r)) ((c.map Fm.p).reverse ++ [i]) := way_plug c ⟨rfl, .inl rfl⟩
  have hlen : c.length + 1 ≤ N := by
    have h1 := nodup_le hnd hlt
    have h2 := (plug_nodes c (.node f l i r)).length_eq
    have h3 := cnodes_len c
    simp only [List.length_append, BT.nodes, List.length_cons] at h2
    omega
  generalize hPP : i :: c.map Fm.p = P at *
  have hP0 : P[0]? = some i := by rw [← hPP]; rfl
  have HPP := Lib.hid hPP; clear hPP
  have HC := Lib.hid hcl; clear hcl
  have HW := Lib.hid hway; clear hway
  have HRep := Lib.hid (And.intro hrep (And.intro hnd hO)); clear hrep hnd hO
  have HPN := Lib.hid hPN; clear hPN
  have HPl := Lib.hid hPl; clear hPl
  refine (callsIn_wide (n := 9)).1 ?_
  refine callsIn_of_wp_marks Try.func55 rfl trivial ?_ rfl
  simp only [Try.ntmps55, List.size_toArray, List.length_cons, List.length_nil, Nat.reduceAdd, Nat.reduceSub, Array.replicate_succ, Array.replicate_zero, List.push_toArray, List.append_toArray, List.nil_append, List.cons_append]
  refine wpIn_wide.2 ?_
  go_wp2
  go_step3
  go_wp2
  refine wp_label ?_
  go_wp2
  have hL0 : LctAt (w.alloc (.cells #[.pointer (some ⟨pf, 0, none⟩)] 25)) pf g N cap σ ed := h.below ((Below.refl w.heap.size w).alloc (Nat.le_refl _) _) hpf hg
  have hB0 : Below w.heap.size w (w.alloc (.cells #[.pointer (some ⟨pf, 0, none⟩)] 25)) := (Below.refl w.heap.size w).alloc (Nat.le_refl _) _
  have hbox : (w.alloc (.cells #[.pointer (some ⟨pf, 0, none⟩)] 25)).cell? ⟨w.heap.size, 0, none⟩ = some (.pointer (some ⟨pf, 0, none⟩)) := cell_new1 w _ _ _ rfl
  have hsz : (w.alloc (.cells #[.pointer (some ⟨pf, 0, none⟩)] 25)).heap.size = w.heap.size + 1 := by simp
  generalize w.alloc (.cells #[.pointer (some ⟨pf, 0, none⟩)] 25) = W0 at *
  clear h
  go_loopw [4, 5] (fun a b wr => ∃ k x : Nat, k ≤ c.length ∧ Hid (P[k]? = some x) ∧ b = .int .i64 x ∧ wr.ownsRow 0 3 1 a k ((P.take k).map encI) ∧ Below (w.heap.size + 1) W0 wr ∧ ∀ q, a.ownBlock = some q → w.heap.size + 1 ≤ q) (fun a _ _ => c.length + 1 - slLen a)
  case atStart => exact ⟨0, i, Nat.zero_le _, Lib.hid hP0, rfl, World.ownsRow_nil _ _ _ _, Below.refl _ _, fun q e => by cases e⟩
  case round =>
    obtain ⟨k, x, hk, hx, rfl, hown, hB, hq⟩ := hrel
    obtain ⟨a9, c9, rfl⟩ := ownsRow_slice hown
    have hL : LctAt wr pf g N cap σ ed := hL0.below hB (by omega) (by omega)
    have hxN : x < N := HPN.out x (List.mem_of_getElem? hx.out)
    have hS := Lib.hid hB.size
    have hnx : ∀ b : Bool, (sideOf σ x).2 = b → (b = true → ∃ y, P[k + 1]? = some y ∧ (σ x).up = y ∧ k + 1 ≤ c.length) ∧ (b = false → k = c.length) := by
      intro b hb
      have hkl := HPl.out
      by_cases e : k = c.length
      · refine ⟨fun h => ?_, fun _ => e⟩
        have := HC.out.2 x (by show (i :: c.map Fm.p)[c.length]? = _; rw [HPP.out, ← e]; exact hx.out)
        rw [hb, h] at this; cases this
      · have hy : P[k + 1]? = some (P[k + 1]'(by omega)) := List.getElem?_eq_getElem _
        have := HC.out.1 k x (P[k + 1]'(by omega)) (by show (i :: c.map Fm.p)[k]? = _; rw [HPP.out]; exact hx.out) (by show (i :: c.map Fm.p)[k + 1]? = _; rw [HPP.out]; exact hy)
        refine ⟨fun _ => ⟨_, hy, this.2, by omega⟩, fun h => ?_⟩
        rw [hb, h] at this; cases this.1
    have Hnx := Lib.hid hnx; clear hnx
    go_wp2_with (at_builtin; refine wpList_app1 rfl _ _ 41 rfl 3 (.int .i64 0) 8 Try.underlying41 Try.info3 rfl (.slice a9 k c9) k _ rfl (hown.alloc _) wr.heap.size (.int .i64 x) rfl (cell_new1 _ _ _ _ rfl) rfl (by omega) (by decide) ?_; intro g' cap' w3 hown3 hgrow3 hg3; have hB3 : Below (w.heap.size + 1) W0 w3 := hB.trans (Fr.of_grown hgrow3 hq (by have := hB.size; omega)); have hb3 := (hB3.cell (p := ⟨w.heap.size, 0, none⟩) (by simp)).trans hbox)
    have hL3 : LctAt w3 pf g N cap σ ed := hL0.below hB3 (by omega) (by omega)
    have hq3 : w.heap.size + 1 ≤ g' := by
      rcases hg3 with e | e
      · exact hq _ e
      · simp only [World.size_alloc] at e; have := hS.out; omega
    rw [show (P.take k).map encI ++ [Value.int .i64 x] = (P.take (k + 1)).map encI by rw [List.take_add_one, hx.out]; simp [encI]] at hown3
    clear hown hgrow3 hg3 hL hB hS hq
    refine (side_w hL3 x hxN HR.out).mono ?_
    rintro _ w3 ⟨rfl, rfl⟩
    generalize hsd : sideOf σ x = sx at *
    obtain ⟨s0, b⟩ := sx
    have Hn := Lib.hid (Hnx.out b rfl); clear Hnx
    dsimp only
    cases b with
    | false =>
      have hkc := Hn.out.2 rfl
      subst hkc
      clear Hn
      rw [List.take_of_length_le (by rw [HPl.out]; exact Nat.le_refl _)] at hown3
      obtain ⟨hcap, hglt, hcells⟩ := ownsRow_cells hown3 (by omega)
      clear hown3
      go_wp2
      have hB4 : Below (w.heap.size + 1) W0 (w3.alloc (.cells #[.slice (some ⟨g', 0, none⟩) (c.length + 1) cap'] 41)) := hB3.alloc (by have := hB3.size; omega) _
      have hc4 := Blk.new w3 [.slice (some ⟨g', 0, none⟩) (c.length + 1) cap'] 41
      have hr4 : ∀ j, j < c.length + 1 → (w3.alloc (.cells #[.slice (some ⟨g', 0, none⟩) (c.length + 1) cap'] 41)).cell? ⟨g', j, none⟩ = some (.int .i64 (P.getD j 0)) := by
        intro j hj
        rw [World.cell?_of_block (Below.heap_alloc w3 _ g' hglt), hcells j hj]
        simp only [List.getElem?_map, List.getD_eq_getElem?_getD]
        rw [List.getElem?_eq_getElem (show j < P.length by rw [HPl.out]; omega)]
        rfl
      have hs4 : (w3.alloc (.cells #[.slice (some ⟨g', 0, none⟩) (c.length + 1) cap'] 41)).heap.size = w3.heap.size + 1 := by simp
      generalize w3.alloc (.cells #[.slice (some ⟨g', 0, none⟩) (c.length + 1) cap'] 41) = W1 at *
      have hs3 := hB3.size
      have hL4 : LctAt W1 pf g N cap σ ed := hL0.below hB4 (by omega) (by omega)
      have hb4 := (hB4.cell (p := ⟨w.heap.size, 0, none⟩) (by simp)).trans hbox
      have hPd : ∀ j, P.getD j 0 < N := by
        intro j
        rw [List.getD_eq_getElem?_getD]
        cases e : P[j]? with
        | none => simp; omega
        | some y => exact HPN.out y (List.mem_of_getElem? e)
      clear hcells hb3 hL3 hx
      refine (wpIn_wide (n := 9)).1 ?_
      refine' wpIn_rangeFunc_ownF (n := 9) rfl (by decide) (α := Pl N) (gf := 65) (lb := #[.pointer (some ⟨w3.heap.size, 0, none⟩)]) rfl trivial (enters_of Try.func65 (by kernel_rfl) rfl)
        (encs := fun x => #[.int .i64 x.1.1, .int .i64 x.1.2]) (Kp := Bx W1.heap.size g) (S := fun ys => ys = bks N (c.length + 1) (fun j => P.getD j 0) hPd (c.length + 1)) (Sp := fun _ => True) (N := c.length + 1) (w0 := W1)
        (fun l J Jx W hW _ _ hY h0 => back1_in 8 l w3.heap.size g' (c.length + 1) cap' N g W1.heap.size (fun j => P.getD j 0) hPd hN (by omega) (by decide) (by omega) (by omega) (by omega) (by omega) J Jx hY W ((hW.cell (p := ⟨w3.heap.size, 0, none⟩) (by show w3.heap.size < _; omega)).trans (hc4.cell 0)) hcap (fun j hj => (hW.cell (p := ⟨g', j, none⟩) (by show g' < _; omega)).trans (hr4 j hj)) h0)
        (fun h k => h.trans k) (bxK_b (Nat.le_refl _)) (Below.refl _ _) (fun _ => rfl)
        (fun pre W => (LctAt W pf g N cap (pushAll σ (pre.map (fun x => x.1.2))) ed ∧ W.cell? ⟨w.heap.size, 0, none⟩ = some (.pointer (some ⟨pf, 0, none⟩))) ∧ Bx W1.heap.size g W1 W)
        (fun _ _ _ => False)
        (OwnFrom.and (fun s A B row hs hg hr => ⟨hs.1.grown hg (fun k e => by have := (hr k e).1; omega), (World.cell?_of_block (hg.block w.heap.size (cell_lt (a := ⟨w.heap.size, 0, none⟩) hs.2) (fun e => by have := (hr w.heap.size e.symm).1; omega))).trans hs.2⟩) (ownFrom_bx (Nat.le_refl _) (Nat.le_refl _)))
        (fun c s A B row hs hg hr => hs) ⟨⟨hL4, hb4⟩, Bx.refl _ _ _⟩ _ ?assign ?body ?done ?stop
      case assign =>
        intro l x W K hK
        gi_wp2
        exact hK
      case body =>
        rintro l pre x W ⟨⟨hLp, hbp⟩, hBp⟩ _
        obtain ⟨⟨x1, x2⟩, hx2⟩ := x
        dsimp only at hx2
        gi_wp2_with (refine ⟨trivial, ?_⟩; gi_at_call 56; refine (CallsIn.inRound l (callsIn_wide.2 (push_w hLp x2 hx2 (HR.out.pushAll (fun y hy => by obtain ⟨z, _, rfl⟩ := List.mem_map.1 hy; exact z.2))))).mono ?_; rintro e w' ⟨rfl, hLq, hFq⟩)
        obtain ⟨arr, hga, _⟩ := hLp.nodes
        refine ⟨keepsOthers_fr hFq hga, Bx.of_fr hFq hBp.size, ⟨?_, hFq.cell hbp (by show w.heap.size ∉ [g]; simp; omega)⟩, hBp.trans (Bx.of_fr hFq hBp.size)⟩
        rw [List.map_append, List.map_cons, List.map_nil, pushAll_snoc]
        exact hLq
      case stop =>
        rintro D c pre W hD _ hf hK
        exact hf.elim
      case done =>
        rintro D ys W hD rfl ⟨⟨hLd, hbd⟩, hBd⟩ hK
        rw [bks_map, ← HPl.out, range_rev, show P.reverse = (c.map Fm.p).reverse ++ [i] by rw [← HPP.out]; simp] at hLd
        have hsp : ∃ c' l' r', Spin N σ (pushAll σ ((c.map Fm.p).reverse ++ [i])) u i (plug c (.node f l i r)) c' l' r' := by
          obtain ⟨c', l', r', a1, a2, a3, a4, a5⟩ := pushAll_rep (c := []) (t := plug c (.node f l i r)) HRep.out.1 HRep.out.2.1 (fun _ h => by cases h) HW.out
          exact ⟨c', l', r', a1, a2, a3, a4, a5, HR.out.pushAll (fun x hx => HPN.out x (by rw [← HPP.out]; simp at hx; simp; rcases hx with h | h; exact .inr h; exact .inl h))⟩
        obtain ⟨c1, l1, r1, hS1⟩ := hsp
        have HS1 := Lib.hid hS1; clear hS1
        generalize pushAll σ ((c.map Fm.p).reverse ++ [i]) = τ1 at *
        have hBw : Bx w.heap.size g w W := (Bx.of_below (hB0.trans (hB4.mono (by omega)))).trans (hBd.mono (by omega))
        clear hc4 hr4 hL4 hb4 hBd hPd hB4 hB3 hglt
        go_wp2
        go_loopg [] (c1.length + 1) (fun k wr => ∃ τ c1 l1 r1, Hid (c1.length < k ∧ Spin N σ τ u i (plug c (.node f l i r)) c1 l1 r1) ∧ LctAt wr pf g N cap τ ed ∧ Bx w.heap.size g w wr ∧ wr.cell? ⟨w.heap.size, 0, none⟩ = some (.pointer (some ⟨pf, 0, none⟩)) ∧ wr.heap[D]? = some (.deferred (some [])))
        case atStart => exact ⟨τ1, c1, l1, r1, Lib.hid ⟨Nat.lt_succ_self _, HS1.out⟩, hLd, hBw, hbd, hK⟩
        case round =>
          clear hLd hbd hBw hK HS1
          obtain ⟨τ, c2, l2, r2, HS, hLr, hBr, hbr, hKr⟩ := hrel
          have hiN : i < N := hlt i ((plug_nodes c _).mem_iff.2 (by simp [BT.nodes]))
          have hi2 : (i : Int) < N := by omega
          have d1 := hLr.hd.cell 1
          simp only [List.getElem?_cons_zero, List.getElem?_cons_succ] at d1
          have hDg : D ≠ g := by omega
          have hwg : w.heap.size ≠ g := by omega
          cases c2 with
          | nil =>
            have hsd : (sideOf τ i).2 = false := (climb HS.out.2.rep hi0 (HS.out.2.nd HRep.out.2.1) (HS.out.2.out HRep.out.2.2)).2 i rfl
            go_wp2_with fail
            refine (side_w hLr i hiN HS.out.2.inR).mono ?_
            rintro _ wx ⟨rfl, rfl⟩
            rw [hsd]
            go_wp2
            rw [Exit.noGoto_ret]
            refine ⟨by simp, .inl ⟨_, _, rfl, run_takeDeferred hKr, ?_⟩⟩
            refine ⟨.tuple #[], results_none rfl _ _ _, rfl, τ, l2, r2, ?_, HS.out.2.rep, HS.out.2.seq, HS.out.2.perm, HS.out.2.rot, HS.out.2.inR, ?_⟩
            · exact hLr.grown (grownBy_putObj' _ D (.deferred none)) (fun k e => by cases e; omega)
            · exact (hBr.grown (grownBy_putObj' _ D (.deferred none)) hBr.size (fun k e => by cases e; omega)).fr
          | cons a c3 =>
            obtain ⟨hs1, hu1⟩ := side_frame HS.out.2.rep hi0 (HS.out.2.nd HRep.out.2.1)
            change sideOf τ i = _ at hs1
            change (τ i).up = _ at hu1
            have hpN : a.p < N := hu1 ▸ (HS.out.2.inR i hiN).2.2.1
            have hp2 : (a.p : Int) < N := by omega
            have hp0 : a.p ≠ 0 := (rep_plug.1 HS.out.2.rep).2.1.1
            have a2 := hLr.nodes.c2 i hiN
            rw [hu1] at a2
            have S1 := Lib.hid (side_w hLr i hiN HS.out.2.inR)
            rw [hs1] at S1
            have S2 := Lib.hid (side_w hLr a.p hpN HS.out.2.inR)
            clear hs1 hu1
            cases c3 with
            | nil =>
              have hsd : (sideOf τ a.p).2 = false := (climb HS.out.2.rep hi0 (HS.out.2.nd HRep.out.2.1) (HS.out.2.out HRep.out.2.2)).2 a.p rfl
              rw [hsd] at S2
              have HZ := Lib.hid (HS.out.2.zig HRep.out.2.1 HRep.out.2.2 hiN)
              clear hsd
              go_wp2_with fail
              refine S1.out.mono ?_
              rintro _ wx ⟨rfl, rfl⟩
              go_wp2_with fail
              refine S2.out.mono ?_
              rintro _ wx ⟨rfl, rfl⟩
              go_wp2_with fail
              refine (rotate_w hLr i hiN HS.out.2.inR HZ.out.1.1 HZ.out.1.2.1 HZ.out.1.2.2.1 HZ.out.1.2.2.2).mono ?_
              rintro _ wy ⟨rfl, hLy, hFy⟩
              go_wp2
              obtain ⟨hz, l3, r3, hS3⟩ := HZ.out
              go_roundg 1
              case measure => have := HS.out.1; simp at this; omega
              case rel => exact ⟨_, [], l3, r3, Lib.hid ⟨by simp, hS3⟩, hLy, hBr.trans (Bx.of_fr hFy hBr.size), hFy.cell hbr (by simpa using hwg), (hFy.keep D (Array.getElem?_eq_some_iff.1 hKr).1 (by simpa using hDg)).trans hKr⟩
            | cons b c4 =>
              obtain ⟨hs1, _⟩ := side_frame (c := c4) (a := b) (t := a.fill (.node false l2 i r2)) HS.out.2.rep (by rw [fill_root]; exact hp0) (HS.out.2.nd HRep.out.2.1)
              rw [fill_root] at hs1
              rw [hs1] at S2
              clear hs1
              by_cases hab : a.s = b.s
              · have hb : ((sd a.s : Int) == (sd b.s : Int)) = true := by rw [hab]; exact beq_self_eq_true _
                obtain ⟨z1, a', z2⟩ := HS.out.2.zigp hab HRep.out.2.1 HRep.out.2.2 hpN
                obtain ⟨z3, z4⟩ := z2.zig HRep.out.2.1 HRep.out.2.2 hiN
                have HZ1 := Lib.hid z1; clear z1
                have HZ2 := Lib.hid z2; clear z2
                have HZ3 := Lib.hid z3; clear z3
                have HZ4 := Lib.hid z4; clear z4
                clear hab
                go_wp2_with fail
                refine S1.out.mono ?_
                rintro _ wx ⟨rfl, rfl⟩
                go_wp2_with fail
                refine S2.out.mono ?_
                rintro _ wx ⟨rfl, rfl⟩
                go_wp2_with fail
                refine (rotate_w hLr a.p hpN HS.out.2.inR HZ1.out.1 HZ1.out.2.1 HZ1.out.2.2.1 HZ1.out.2.2.2).mono ?_
                rintro _ wy ⟨rfl, hLy, hFy⟩
                have hby := hFy.cell hbr (by simpa using hwg)
                go_wp2_with fail
                refine (rotate_w hLy i hiN HZ2.out.inR HZ3.out.1 HZ3.out.2.1 HZ3.out.2.2.1 HZ3.out.2.2.2).mono ?_
                rintro _ wz ⟨rfl, hLz, hFz⟩
                go_wp2
                obtain ⟨l3, r3, hS3⟩ := HZ4.out
                go_roundg (c4.length + 1)
                case measure => have := HS.out.1; simp at this; omega
                case rel =>
                  have hF2 := hFy.then hFz
                  exact ⟨_, c4, l3, r3, Lib.hid ⟨by simp, hS3⟩, hLz, hBr.trans (Bx.of_fr hF2 hBr.size), hF2.cell hbr (by simpa using hwg), (hF2.keep D (Array.getElem?_eq_some_iff.1 hKr).1 (by simpa using hDg)).trans hKr⟩
              · have hb : ((sd a.s : Int) == (sd b.s : Int)) = false := by
                  cases h1 : a.s <;> cases h2 : b.s <;> simp_all [sd]
                obtain ⟨z1, l5, r5, z2⟩ := HS.out.2.zig HRep.out.2.1 HRep.out.2.2 hiN
                obtain ⟨z3, z4⟩ := z2.zig HRep.out.2.1 HRep.out.2.2 hiN
                have HZ1 := Lib.hid z1; clear z1
                have HZ2 := Lib.hid z2; clear z2
                have HZ3 := Lib.hid z3; clear z3
                have HZ4 := Lib.hid z4; clear z4
                clear hab
                go_wp2_with fail
                refine S1.out.mono ?_
                rintro _ wx ⟨rfl, rfl⟩
                go_wp2_with fail
                refine S2.out.mono ?_
                rintro _ wx ⟨rfl, rfl⟩
                go_wp2_with fail
                refine (rotate_w hLr i hiN HS.out.2.inR HZ1.out.1 HZ1.out.2.1 HZ1.out.2.2.1 HZ1.out.2.2.2).mono ?_
                rintro _ wy ⟨rfl, hLy, hFy⟩
                have hby := hFy.cell hbr (by simpa using hwg)
                go_wp2_with fail
                refine (rotate_w hLy i hiN HZ2.out.inR HZ3.out.1 HZ3.out.2.1 HZ3.out.2.2.1 HZ3.out.2.2.2).mono ?_
                rintro _ wz ⟨rfl, hLz, hFz⟩
                go_wp2
                obtain ⟨l3, r3, hS3⟩ := HZ4.out
                go_roundg (c4.length + 1)
                case measure => have := HS.out.1; simp at this; omega
                case rel =>
                  have hF2 := hFy.then hFz
                  exact ⟨_, c4, l3, r3, Lib.hid ⟨by simp, hS3⟩, hLz, hBr.trans (Bx.of_fr hF2 hBr.size), hF2.cell hbr (by simpa using hwg), (hF2.keep D (Array.getElem?_eq_some_iff.1 hKr).1 (by simpa using hDg)).trans hKr⟩
    | true =>
      obtain ⟨y, hy1, hy2, hy3⟩ := Hn.out.1 rfl
      have a2 := hL3.nodes.c2 x hxN
      rw [hy2] at a2
      have d1 := hL3.hd.cell 1
      simp only [List.getElem?_cons_zero, List.getElem?_cons_succ] at d1
      have hx2 : (x : Int) < N := by omega
      go_wp2
      go_roundw
      case rel => exact ⟨k + 1, y, hy3, Lib.hid hy1, rfl, hown3, hB3, fun q e => by cases e; exact hq3⟩
      case measure => simp [slLen]; omega

end Go.Proofs.Ytoppjjgecgbbkaa
