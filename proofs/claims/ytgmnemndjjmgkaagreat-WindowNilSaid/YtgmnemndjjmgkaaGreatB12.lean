/- lct: rooted forests given by parents; their edges; another root; paths. -/
import Derived.Test.YtgmnemndjjmgkaaGreatB11
set_option linter.unusedSimpArgs false
set_option linter.unusedVariables false
/- lct: the way from the root of a splay tree to a node; pushing along it; the sides of its nodes. -/
namespace Go.Proofs.YtgmnemndjjmgkaaGreat
open Go.RowKit
def Way : BT → List Nat → Prop
  | .nil, _ => False
  | .node _ _ _ _, [] => False
  | .node _ l v r, x :: ps => x = v ∧ (ps = [] ∨ Way l ps ∨ Way r ps)
theorem way_flip (t : BT) (ps : List Nat) : Way t.flip ps ↔ Way t ps := by
 cases t with
 | nil => exact Iff.rfl
 | node f l v r => cases ps <;> exact Iff.rfl
theorem way_fill (a : Fm) {t : BT} {ps : List Nat} (h : Way t ps) : Way (a.fill t) (a.p :: ps) := by
 unfold Fm.fill
 split
 · exact ⟨rfl, .inr (.inr h)⟩
 · exact ⟨rfl, .inr (.inl h)⟩
theorem way_plug : ∀ (c : List Fm) {t : BT} {ps : List Nat}, Way t ps → Way (plug c t) ((c.map Fm.p).reverse ++ ps)
  | [], _, _, h => by simpa [plug] using h
  | a :: c, t, ps, h => by
    have := way_plug c (way_fill a h)
    simpa [plug] using this
theorem plug_snoc (c : List Fm) (a : Fm) (t : BT) : plug (c ++ [a]) t = a.fill (plug c t) := by
 induction c generalizing t with
 | nil => rfl
 | cons b c ih => exact ih (b.fill t)
theorem zip_ex {i : Nat} : ∀ {t : BT}, i ∈ t.nodes → ∃ c f l r, t = plug c (.node f l i r)
  | .nil, h => by cases h
  | .node f l v r, h => by
    simp only [BT.nodes, List.mem_append, List.mem_cons] at h
    rcases h with h | rfl | h
    · obtain ⟨c, f', l', r', e⟩ := zip_ex h
      exact ⟨c ++ [⟨false, f, v, r⟩], f', l', r', by rw [plug_snoc, ← e]; rfl⟩
    · exact ⟨[], f, l, r, rfl⟩
    · obtain ⟨c, f', l', r', e⟩ := zip_ex h
      exact ⟨c ++ [⟨true, f, v, l⟩], f', l', r', by rw [plug_snoc, ← e]; rfl⟩
theorem climb {σ : Tbl} : ∀ {c : List Fm} {t : BT} {u : Nat}, Rep σ (plug c t) u → t.root ≠ 0 → (plug c t).nodes.Nodup → Out σ u (plug c t).nodes →
    (∀ k x y, (t.root :: c.map Fm.p)[k]? = some x → (t.root :: c.map Fm.p)[k + 1]? = some y → (sideOf σ x).2 = true ∧ (σ x).up = y) ∧ (∀ x, (t.root :: c.map Fm.p)[c.length]? = some x → (sideOf σ x).2 = false)
  | [], t, u, h, h0, _, hO => by
    refine ⟨fun k x y _ h2 => by simp at h2, fun x hx => ?_⟩
    simp at hx; subst hx
    cases t with
    | nil => exact absurd rfl h0
    | node f l v r =>
      simp only [plug] at h hO
      show (sideOf σ v).snd = false
      rw [sideOf_out h.1.2.1 hO (by simp [BT.nodes])]
  | a :: c, t, u, h, h0, hnd, hO => by
    have hi := climb (c := c) (t := a.fill t) (u := u) h (by rw [fill_root]; exact ((rep_plug.1 h).2).1.1) hnd hO
    rw [fill_root] at hi
    obtain ⟨hT, hC⟩ := rep_plug.1 h
    obtain ⟨⟨hp0, _, _, hpk, hpo⟩, hRo, _⟩ := hC
    refine ⟨fun k x y h1 h2 => ?_, fun x hx => ?_⟩
    · cases k with
      | zero =>
        simp at h1 h2
        subst h1; subst h2
        have hup : (σ t.root).up = a.p := by
          cases t with
          | nil => exact absurd rfl h0
          | node f l v r => exact hT.1.2.1
        refine ⟨?_, hup⟩
        rw [sideOf_frame h0 hp0 hup hpk hpo]
        intro e
        have hor : a.o.root ≠ 0 := by rw [e]; exact h0
        have h1 := BT.root_mem hor
        have h2 := BT.root_mem h0
        have := (plug_nodes (a :: c) t).nodup_iff.1 hnd
        rw [List.nodup_append] at this
        exact this.2.2 _ h2 _ (by simp only [cnodes, List.cons_append, List.mem_cons, List.mem_append]; exact .inr (.inl h1)) e.symm
      | succ k => exact hi.1 k x y (by simpa using h1) (by simpa using h2)
    · exact hi.2 x (by simpa using hx)
theorem pushK_at (σ : Tbl) (k x : Nat) : pushK σ k x = if x = k ∧ k ≠ 0 then { σ x with flip := !(σ x).flip } else σ x := by
 unfold pushK
 by_cases h : k = 0
 · rw [if_pos h, if_neg (fun e => e.2 h)]
 {
 rw [if_neg h]
 by_cases e : x = k
 · subst e; rw [upd_same, if_pos ⟨rfl, h⟩]
 · rw [upd_other e, if_neg (fun h => e h.1)]
 }
theorem InR.push {N : Nat} {σ : Tbl} (h : InR N σ) (i : Nat) (hi : i < N) : InR N (push σ i) := by
 have hK : ∀ (τ : Tbl) (k : Nat), InR N τ → InR N (pushK τ k) := by {
 intro τ k hτ j hj
 rw [pushK_at]; split <;> exact hτ j hj
 }
 unfold Proofs.YtgmnemndjjmgkaaGreat.push
 split
 {
 refine hK _ _ (hK _ _ ?_)
 exact h.upd ⟨(h i hi).2.1, (h i hi).1, (h i hi).2.2.1, (h i hi).2.2.2⟩
 }
 · exact h
theorem Rep.flip {σ σ' : Tbl} {t : BT} {u : Nat} (h : Rep σ t u) (hnd : t.nodes.Nodup) (ho : ∀ x ∈ t.nodes, x ≠ t.root → σ' x = σ x) (hr : t.root ≠ 0 → σ' t.root = { σ t.root with flip := !(σ t.root).flip }) : Rep σ' t.flip u := by
 cases t with
 | nil => trivial
 | node f l v r => {
 obtain ⟨h1, hl, hrr, h2, h3, h4⟩ := h
 have hv : σ' v = { σ v with flip := !(σ v).flip } := hr h1.1
 simp only [BT.nodes, List.nodup_append, List.nodup_cons] at hnd
 have hnl : ∀ x ∈ l.nodes, x ≠ v := fun x hx e => hnd.2.2 x hx v (by simp) e
 have hnr : ∀ x ∈ r.nodes, x ≠ v := fun x hx e => hnd.2.1.1 (e ▸ hx)
 have hlk : ∀ x ∈ (BT.node f l v r).nodes, (σ' x).light = (σ x).light ∧ (σ' x).key = (σ x).key := by {
 intro x hx
 by_cases e : x = v
 · subst e; rw [hv]; exact ⟨rfl, rfl⟩
 · rw [ho x hx e]; exact ⟨rfl, rfl⟩
 }
 refine ⟨by rw [hv]; exact ⟨h1.1, h1.2.1, by rw [h1.2.2.1], h1.2.2.2⟩, hl.congr (fun x hx => ho x (by simp [BT.nodes, hx]) (hnl x hx)), hrr.congr (fun x hx => ho x (by simp [BT.nodes, hx]) (hnr x hx)), by rw [hv]; exact h2, ?_, ?_⟩
 · rw [hv]; show _ = wrap64 (tot σ' (BT.node f l v r).nodes); rw [tot_congr (fun x hx => (hlk x hx).1)]; exact h3
 · rw [hv]; exact best_congr (σ := σ) (fun x hx => (hlk x hx).2) h4
 }
def BT.pushed : BT → BT
  | .nil => .nil
  | .node f l v r => if f then .node false r.flip v l.flip else .node false l v r
theorem pushed_seq (t : BT) : t.pushed.seq = t.seq := by
 cases t with
 | nil => rfl
 | node f l v r => cases f <;> simp [BT.pushed, BT.seq, BT.seq_flip]
theorem pushed_perm (t : BT) : t.pushed.nodes.Perm t.nodes := by
 cases t with
 | nil => exact .nil
 | node f l v r => {
 cases f with
 | false => exact .refl _
 | true => {
 simp only [BT.pushed, if_true, BT.nodes, BT.nodes_flip]
 exact List.perm_middle.trans (((List.perm_append_comm).cons v).trans List.perm_middle.symm)
 }
 }
theorem pushed_root (t : BT) : t.pushed.root = t.root := by
 cases t with
 | nil => rfl
 | node f l v r => cases f <;> rfl
theorem push_rep {σ : Tbl} {c : List Fm} {f : Bool} {l r : BT} {v u : Nat} (h : Rep σ (plug c (.node f l v r)) u) (hnd : (plug c (.node f l v r)).nodes.Nodup) :
    Rep (push σ v) (plug c (BT.node f l v r).pushed) u ∧ Rotated σ (push σ v) (plug c (.node f l v r)).nodes := by
 have hpm := plug_nodes c (.node f l v r)
 have hnd' := hpm.nodup_iff.1 hnd
 have hmem : ∀ x, x ∈ (plug c (.node f l v r)).nodes ↔ x ∈ (BT.node f l v r).nodes ++ cnodes c := fun x => hpm.mem_iff
 obtain ⟨hT, hC⟩ := rep_plug.1 h
 obtain ⟨⟨hv0, hvu, hvf, hk0, hk1⟩, hl, hr, hs, ht, hb⟩ := id hT
 simp only [BT.nodes, List.nodup_append, List.nodup_cons, List.mem_append, List.mem_cons, List.append_assoc] at hnd' hmem
 cases f with
 | false => {
 have e : push σ v = σ := by unfold push; rw [if_neg (by simp [hvf])]
 rw [e]
 exact ⟨h, fun _ _ => rfl, fun _ => ⟨rfl, rfl⟩⟩
 }
 | true => {
 have dvl : v ∉ l.nodes := by grind
 have dvr : v ∉ r.nodes := by grind
 have dlr : ∀ x ∈ l.nodes, x ∉ r.nodes := by grind
 have ndl : l.nodes.Nodup := by grind
 have ndr : r.nodes.Nodup := by grind
 have dvc : v ∉ cnodes c := by grind
 have dlc : ∀ x ∈ l.nodes, x ∉ cnodes c := by grind
 have drc : ∀ x ∈ r.nodes, x ∉ cnodes c := by grind
 have hlv : l.root ≠ v := fun e => dvl (e ▸ BT.root_mem (by rw [e]; exact hv0))
 have hrv : r.root ≠ v := fun e => dvr (e ▸ BT.root_mem (by rw [e]; exact hv0))
 have hx : ∀ x, push σ v x = if x = v then { σ v with flip := false, k0 := r.root, k1 := l.root } else if (x = l.root ∨ x = r.root) ∧ x ≠ 0 then { σ x with flip := !(σ x).flip } else σ x := by {
 intro x
 unfold push
 rw [if_pos hvf]
 show pushK (pushK (push0 σ v) (σ v).k1) (σ v).k0 x = _
 rw [hk0, hk1, pushK_at]
 by_cases e : x = v
 {
 subst e
 rw [if_neg (fun h => hlv h.1.symm), pushK_at, if_neg (fun h => hrv h.1.symm), if_pos rfl]
 simp only [push0, upd_same, hk0, hk1]
 }
 {
 rw [if_neg e]
 have e0 : push0 σ v x = σ x := by simp only [push0, upd_other e]
 by_cases e1 : x = l.root
 {
 by_cases e2 : x = 0
 {
 have hl0 : l.root = 0 := e1.symm.trans e2
 rw [if_neg (by simp [hl0]), pushK_at, if_neg (by rintro ⟨h1, h2⟩; exact h2 (h1.symm.trans e2)), if_neg (by simp [e2]), e0]
 }
 {
 rw [if_pos ⟨e1, fun h => e2 (e1.trans h)⟩, if_pos ⟨.inl e1, e2⟩]
 have : pushK (push0 σ v) r.root x = σ x := by rw [pushK_at, if_neg (by rintro ⟨h1, h2⟩; exact dlr x (e1 ▸ BT.root_mem (fun h0 => e2 (e1.trans h0))) (h1 ▸ BT.root_mem h2)), e0]
 rw [this]
 }
 }
 {
 rw [if_neg (fun h => e1 h.1), pushK_at]
 by_cases e2 : x = r.root
 {
 by_cases e3 : x = 0
 · rw [if_neg (fun h => h.2 (e2.symm.trans e3)), if_neg (fun h => h.2 e3), e0]
 · rw [if_pos ⟨e2, fun h => e3 (e2.trans h)⟩, if_pos ⟨.inr e2, e3⟩, e0]
 }
 · rw [if_neg (fun h => e2 h.1), if_neg (fun h => h.1.elim e1 e2), e0]
 }
 }
 }
 have hlk : ∀ x, (push σ v x).light = (σ x).light ∧ (push σ v x).key = (σ x).key := by {
 intro x; rw [hx]
 split
 · rename_i e; subst e; exact ⟨rfl, rfl⟩
 · split <;> exact ⟨rfl, rfl⟩
 }
 have hoth : ∀ x, x ≠ v → x ∉ l.nodes → x ∉ r.nodes → push σ v x = σ x := by {
 intro x e1 e2 e3
 rw [hx, if_neg e1, if_neg]
 rintro ⟨e | e, h0⟩
 · exact e2 (e ▸ BT.root_mem (fun h => h0 (e.trans h)))
 · exact e3 (e ▸ BT.root_mem (fun h => h0 (e.trans h)))
 }
 have hvv : push σ v v = { σ v with flip := false, k0 := r.root, k1 := l.root } := by rw [hx, if_pos rfl]
 have hpp := pushed_perm (.node true l v r)
 refine ⟨rep_plug.2 ⟨?_, ?_⟩, fun x hxn => ?_, hlk⟩
 {
 simp only [BT.pushed, if_true]
 have hll : Rep (push σ v) l.flip v := hl.flip ndl (fun x hxn hne => by
     rw [hx, if_neg (by rintro rfl; exact dvl hxn), if_neg]
     rintro ⟨e | e, h0⟩
     · exact hne e
     · exact dlr x hxn (e ▸ BT.root_mem (fun h => h0 (e.trans h)))) (fun h0 => by rw [hx, if_neg hlv, if_pos ⟨.inl rfl, h0⟩])
 have hrr : Rep (push σ v) r.flip v := hr.flip ndr (fun x hxn hne => by
     rw [hx, if_neg (by rintro rfl; exact dvr hxn), if_neg]
     rintro ⟨e | e, h0⟩
     · exact dlr x (e ▸ BT.root_mem (fun h => h0 (e.trans h))) hxn
     · exact hne e) (fun h0 => by rw [hx, if_neg hrv, if_pos ⟨.inr rfl, h0⟩])
 refine ⟨⟨hv0, by rw [hvv]; exact hvu, by rw [hvv], by rw [hvv, BT.root_flip], by rw [hvv, BT.root_flip]⟩, hrr, hll, ?_, ?_, ?_⟩
 · rw [hvv]; show (σ v).size = _; rw [hs]; exact congrArg (fun n : Nat => wrap64 n) hpp.length_eq.symm
 · rw [hvv]; show (σ v).total = _; rw [tot_congr (fun x _ => (hlk x).1), ht]; exact congrArg wrap64 (tot_perm hpp.symm)
 · rw [hvv]; exact best_congr (fun x _ => (hlk x).2) (best_perm hpp.symm hb)
 }
 {
 rw [pushed_root]
 refine RepC.perm hpp.symm (hC.congr (fun y hy => hoth y (fun e => dvc (e ▸ hy)) (fun h => dlc y h hy) (fun h => drc y h hy)) (fun y _ => hlk y))
 }
 {
 have hx' : ¬ (x ∈ l.nodes ∨ x = v ∨ x ∈ r.nodes ∨ x ∈ cnodes c) := fun h => hxn ((hmem x).2 (by grind))
 simp only [not_or] at hx'
 exact hoth x hx'.2.1 hx'.1 hx'.2.2.1
 }
 }
def pushAll (σ : Tbl) (ps : List Nat) : Tbl := ps.foldl push σ
theorem Rotated.trans {σ τ υ : Tbl} {ns : List Nat} (h : Rotated σ τ ns) (k : Rotated τ υ ns) : Rotated σ υ ns :=
  ⟨fun x hx => (k.other x hx).trans (h.other x hx), fun x => ⟨(k.lk x).1.trans (h.lk x).1, (k.lk x).2.trans (h.lk x).2⟩⟩
theorem Rotated.perm {σ τ : Tbl} {ns ms : List Nat} (h : Rotated σ τ ns) (hm : ∀ x, x ∈ ns ↔ x ∈ ms) : Rotated σ τ ms := ⟨fun x hx => h.other x (fun e => hx ((hm x).1 e)), h.lk⟩
theorem pushAll_rep {σ : Tbl} : ∀ {ps : List Nat} {c : List Fm} {t : BT} {u i : Nat}, Rep σ (plug c t) u → (plug c t).nodes.Nodup → (∀ a ∈ c, a.f = false) → Way t (ps ++ [i]) →
    ∃ c' l r, Rep (pushAll σ (ps ++ [i])) (plug c' (.node false l i r)) u ∧ (∀ a ∈ c', a.f = false) ∧ (plug c' (.node false l i r)).seq = (plug c t).seq ∧ (plug c' (.node false l i r)).nodes.Perm (plug c t).nodes ∧
      Rotated σ (pushAll σ (ps ++ [i])) (plug c t).nodes
  | [], c, .nil, u, i, _, _, _, hw => hw.elim
  | [], c, .node f l v r, u, i, h, hnd, hc, hw => by
    obtain ⟨rfl, _⟩ : i = v ∧ _ := hw
    obtain ⟨h1, h2⟩ := push_rep h hnd
    have e : ∃ l' r', (BT.node f l i r).pushed = .node false l' i r' := by cases f <;> exact ⟨_, _, rfl⟩
    obtain ⟨l', r', e⟩ := e
    refine ⟨c, l', r', by rw [← e]; exact h1, hc, by rw [← e]; exact plug_seq c (pushed_seq _), ?_, h2⟩
    rw [← e]
    exact (plug_nodes c _).trans (((pushed_perm (.node f l i r)).append_right _).trans (plug_nodes c _).symm)
  | p :: ps, c, .nil, u, i, _, _, _, hw => hw.elim
  | p :: ps, c, .node f l v r, u, i, h, hnd, hc, hw => by
    obtain ⟨rfl, hw⟩ : p = v ∧ _ := hw
    obtain ⟨h1, h2⟩ := push_rep h hnd
    have hw : Way l (ps ++ [i]) ∨ Way r (ps ++ [i]) := hw.elim (fun e => by simp at e) id
    have e : ∃ l' r', (BT.node f l p r).pushed = .node false l' p r' ∧ (Way l' (ps ++ [i]) ∨ Way r' (ps ++ [i])) := by
      cases f with
      | false => exact ⟨_, _, rfl, hw⟩
      | true => exact ⟨_, _, rfl, hw.symm.imp (way_flip _ _).2 (way_flip _ _).2⟩
    obtain ⟨l', r', e, hw'⟩ := e
    have hperm : (plug c (.node false l' p r')).nodes.Perm (plug c (.node f l p r)).nodes := by
      rw [← e]; exact (plug_nodes c _).trans (((pushed_perm (.node f l p r)).append_right _).trans (plug_nodes c _).symm)
    have hseq : (plug c (.node false l' p r')).seq = (plug c (.node f l p r)).seq := by rw [← e]; exact plug_seq c (pushed_seq _)
    rw [e] at h1
    have step : ∀ (a : Fm) (t' : BT), a.fill t' = .node false l' p r' → a.f = false → Way t' (ps ++ [i]) →
        ∃ c' l r, Rep (pushAll (push σ p) (ps ++ [i])) (plug c' (.node false l i r)) u ∧ (∀ a ∈ c', a.f = false) ∧ (plug c' (.node false l i r)).seq = (plug c (.node false l' p r')).seq ∧ (plug c' (.node false l i r)).nodes.Perm (plug c (.node false l' p r')).nodes ∧
          Rotated (push σ p) (pushAll (push σ p) (ps ++ [i])) (plug c (.node false l' p r')).nodes := by
      intro a t' ha haf hwt
      have := pushAll_rep (σ := push σ p) (ps := ps) (c := a :: c) (t := t') (u := u) (i := i) (by simp only [plug]; rw [ha]; exact h1) (by simp only [plug]; rw [ha]; exact hperm.nodup_iff.2 hnd)
        (fun b hb => (List.mem_cons.1 hb).elim (fun e => by rw [e]; exact haf) (hc b)) hwt
      simp only [plug] at this
      rw [ha] at this
      exact this
    have fin : ∃ c' l r, Rep (pushAll (push σ p) (ps ++ [i])) (plug c' (.node false l i r)) u ∧ (∀ a ∈ c', a.f = false) ∧ (plug c' (.node false l i r)).seq = (plug c (.node false l' p r')).seq ∧ (plug c' (.node false l i r)).nodes.Perm (plug c (.node false l' p r')).nodes ∧
          Rotated (push σ p) (pushAll (push σ p) (ps ++ [i])) (plug c (.node false l' p r')).nodes := by
      rcases hw' with hw' | hw'
      · exact step ⟨false, false, p, r'⟩ l' rfl rfl hw'
      · exact step ⟨true, false, p, l'⟩ r' rfl rfl hw'
    obtain ⟨c', l2, r2, a1, a2, a3, a4, a5⟩ := fin
    refine ⟨c', l2, r2, a1, a2, a3.trans hseq, a4.trans hperm, ?_⟩
    exact h2.trans (a5.perm (fun x => hperm.mem_iff))
end Go.Proofs.YtgmnemndjjmgkaaGreat

/- lct: the rotations of a splay, as steps of trees. -/
namespace Go.Proofs.YtgmnemndjjmgkaaGreat
open Go.RowKit
theorem Out.congr {σ τ : Tbl} {u : Nat} {ns ms : List Nat} (h : Out σ u ns) (hr : Rotated σ τ ms) (hm : ∀ x, x ∈ ns ↔ x ∈ ms) : Out τ u ns := by
 rcases h with h | ⟨h1, h2, h3⟩
 · exact .inl h
 {
 right
 rw [hr.other u (fun e => h1 ((hm u).2 e))]
 exact ⟨h1, h2, h3⟩
 }
theorem Out.perm {σ : Tbl} {u : Nat} {ns ms : List Nat} (h : Out σ u ns) (hm : ∀ x, x ∈ ns ↔ x ∈ ms) : Out σ u ms := by
 rcases h with h | ⟨h1, h2, h3⟩
 · exact .inl h
 · exact .inr ⟨fun e => h1 ((hm _).2 e), fun e => h2 ((hm _).2 e), fun e => h3 ((hm _).2 e)⟩
theorem side_frame {σ : Tbl} {a : Fm} {c : List Fm} {t : BT} {u : Nat} (h : Rep σ (plug (a :: c) t) u) (h0 : t.root ≠ 0) (hnd : (plug (a :: c) t).nodes.Nodup) : sideOf σ t.root = (sd a.s, true) ∧ (σ t.root).up = a.p := by
 obtain ⟨hT, hC⟩ := rep_plug.1 h
 obtain ⟨⟨hp0, _, _, hpk, hpo⟩, hRo, _⟩ := hC
 have hup : (σ t.root).up = a.p := by {
 cases t with
 | nil => exact absurd rfl h0
 | node f l v r => exact hT.1.2.1
 }
 refine ⟨?_, hup⟩
 refine sideOf_frame h0 hp0 hup hpk hpo ?_
 intro e
 have hor : a.o.root ≠ 0 := by rw [e]; exact h0
 have h1 := BT.root_mem hor
 have h2 := BT.root_mem h0
 have := (plug_nodes (a :: c) t).nodup_iff.1 hnd
 rw [List.nodup_append] at this
 exact this.2.2 _ h2 _ (by simp only [cnodes, List.cons_append, List.mem_cons, List.mem_append]; exact .inr (.inl h1)) e.symm
theorem InR.rotate {N : Nat} {σ : Tbl} (h : InR N σ) {i : Nat} (hi : i < N) (q0 : (rot3 σ i (σ i).up).k0 ≠ (σ i).up) (q1 : (rot3 σ i (σ i).up).k1 ≠ (σ i).up) (q2 : (rot3 σ i i).k0 ≠ i) (q3 : (rot3 σ i i).k1 ≠ i) : InR N (rotate σ i) := by
 have hp := (h i hi).2.2.1
 have hR1 := h.rot1 hi
 have hR2 : InR N (rot2 σ i) := hR1.hang hp (hR1.kid hi _)
 have hR3 : InR N (rot3 σ i) := hR2.hang hi hp
 unfold Proofs.YtgmnemndjjmgkaaGreat.rotate
 exact (hR3.refresh hp q0 q1).refresh hi (by rw [refresh_links.1]; exact q2) (by rw [refresh_links.2.1]; exact q3)
def RotOK (σ : Tbl) (i : Nat) : Prop := (rot3 σ i (σ i).up).k0 ≠ (σ i).up ∧ (rot3 σ i (σ i).up).k1 ≠ (σ i).up ∧ (rot3 σ i i).k0 ≠ i ∧ (rot3 σ i i).k1 ≠ i
structure Spin (N : Nat) (σ τ : Tbl) (u i : Nat) (t₀ : BT) (c : List Fm) (l r : BT) : Prop where
  rep : Rep τ (plug c (.node false l i r)) u
  ff : ∀ a ∈ c, a.f = false
  seq : (plug c (.node false l i r)).seq = t₀.seq
  perm : (plug c (.node false l i r)).nodes.Perm t₀.nodes
  rot : Rotated σ τ t₀.nodes
  inR : InR N τ
section
variable {N : Nat} {σ τ : Tbl} {u i : Nat} {t₀ : BT} {a b : Fm} {c : List Fm} {l r : BT}
theorem Spin.nd (h : Spin N σ τ u i t₀ c l r) (hnd : t₀.nodes.Nodup) : (plug c (.node false l i r)).nodes.Nodup := h.perm.nodup_iff.2 hnd
theorem Spin.out (h : Spin N σ τ u i t₀ c l r) (hO : Out σ u t₀.nodes) : Out τ u (plug c (.node false l i r)).nodes :=
  (hO.congr h.rot (fun _ => Iff.rfl)).perm (fun _ => h.perm.mem_iff.symm)
theorem Spin.zig (h : Spin N σ τ u i t₀ (a :: c) l r) (hnd : t₀.nodes.Nodup) (hO : Out σ u t₀.nodes) (hi : i < N) : RotOK τ i ∧ ∃ l' r', Spin N σ (rotate τ i) u i t₀ c l' r' := by
 obtain ⟨h1, h2, h3⟩ := rotate_rep h.rep (h.ff a (by simp)) (h.nd hnd) (h.out hO)
 obtain ⟨l', r', e⟩ : ∃ l' r', rotT a l i r = .node false l' i r' := by unfold rotT; split <;> exact ⟨_, _, rfl⟩
 have hn : (plug c (.node false l' i r')).nodes.Perm (plug (a :: c) (.node false l i r)).nodes := by {
 rw [← e]; simp only [plug]
 refine (plug_nodes c _).trans (.trans ?_ (plug_nodes c _).symm)
 rw [rotT_nodes]
 }
 refine ⟨h3, l', r', by rw [← e]; exact h1, fun b hb => h.ff b (by simp [hb]), ?_, hn.trans h.perm, ?_, h.inR.rotate hi h3.1 h3.2.1 h3.2.2.1 h3.2.2.2⟩
 · rw [← h.seq, ← e]; simp only [plug]; exact plug_seq c (rotT_seq a (h.ff a (by simp)) l i r)
 · exact h.rot.trans (h2.perm (fun _ => h.perm.mem_iff))
theorem Spin.zigp (h : Spin N σ τ u i t₀ (a :: b :: c) l r) (hs : a.s = b.s) (hnd : t₀.nodes.Nodup) (hO : Out σ u t₀.nodes) (hp : a.p < N) : RotOK τ a.p ∧ ∃ a', Spin N σ (rotate τ a.p) u i t₀ (a' :: c) l r := by
 have hrep := h.rep
 have hnd' := h.nd hnd
 have hO' := h.out hO
 have haf := h.ff a (by simp)
 have hbf := h.ff b (by simp)
 have hperm := h.perm
 have hseq := h.seq
 obtain ⟨s, f, p, o⟩ := a
 obtain ⟨s', f', p', o'⟩ := b
 dsimp only at haf hbf hs hp ⊢
 subst haf; subst hbf; subst hs
 have ff : ∀ x ∈ c, x.f = false := fun x hx => h.ff x (by simp [hx])
 cases s with
 | false => {
 have key := rotate_rep (σ := τ) (a := ⟨false, false, p', o'⟩) (c := c) (l := .node false l i r) (i := p) (r := o) (u := u) hrep rfl hnd' hO'
 obtain ⟨h1, h2, h3⟩ := key
 refine ⟨h3, ⟨false, false, p, .node false o p' o'⟩, h1, ?_, ?_, ?_, h.rot.trans (h2.perm (fun _ => hperm.mem_iff)), h.inR.rotate hp h3.1 h3.2.1 h3.2.2.1 h3.2.2.2⟩
 · intro x hx; rcases List.mem_cons.1 hx with rfl | hx; exact rfl; exact ff x hx
 · rw [← hseq]; simp only [plug]; exact plug_seq c (by simp [Fm.fill, BT.seq])
 {
 refine .trans ?_ hperm; simp only [plug]
 refine (plug_nodes c _).trans (.trans (.append_right _ ?_) (plug_nodes c _).symm)
 simp [Fm.fill, BT.nodes]
 }
 }
 | true => {
 have key := rotate_rep (σ := τ) (a := ⟨true, false, p', o'⟩) (c := c) (l := o) (i := p) (r := .node false l i r) (u := u) hrep rfl hnd' hO'
 obtain ⟨h1, h2, h3⟩ := key
 refine ⟨h3, ⟨true, false, p, .node false o' p' o⟩, h1, ?_, ?_, ?_, h.rot.trans (h2.perm (fun _ => hperm.mem_iff)), h.inR.rotate hp h3.1 h3.2.1 h3.2.2.1 h3.2.2.2⟩
 · intro x hx; rcases List.mem_cons.1 hx with rfl | hx; exact rfl; exact ff x hx
 · rw [← hseq]; simp only [plug]; exact plug_seq c (by simp [Fm.fill, BT.seq])
 {
 refine .trans ?_ hperm; simp only [plug]
 refine (plug_nodes c _).trans (.trans (.append_right _ ?_) (plug_nodes c _).symm)
 simp [Fm.fill, BT.nodes]
 }
 }
end
end Go.Proofs.YtgmnemndjjmgkaaGreat

/- lct: the forest as a list of splay trees, each with the vertex above its path. -/
namespace Go.Proofs.YtgmnemndjjmgkaaGreat
open Go.RowKit
def Ch (par : Nat → Nat) : Nat → List Nat → Prop
  | _, [] => True
  | u, x :: l => par x = u ∧ Ch par x l
theorem ch_mid {par : Nat → Nat} : ∀ {u : Nat} {l : List Nat} {j : Nat} {r : List Nat}, Ch par u (l ++ j :: r) ↔ Ch par u (l ++ [j]) ∧ Ch par j r
  | u, [], j, r => by simp [Ch]
  | u, x :: l, j, r => by simp only [List.cons_append, Ch]; rw [ch_mid, and_assoc]
theorem ch_congr {par par' : Nat → Nat} : ∀ {u : Nat} {l : List Nat}, (∀ x ∈ l, par' x = par x) → Ch par u l → Ch par' u l
  | _, [], _, _ => trivial
  | u, x :: l, h, ⟨h1, h2⟩ => ⟨(h x (by simp)).trans h1, ch_congr (fun y hy => h y (by simp [hy])) h2⟩
theorem ch_rt {par rt : Nat → Nat} (h1 : ∀ x, par x ≠ 0 → rt x = rt (par x)) : ∀ {u : Nat} {l : List Nat}, Ch par u l → (∀ x ∈ l, x ≠ 0) → u ≠ 0 → ∀ x ∈ l, rt x = rt u
  | u, y :: l, ⟨e, hc⟩, hn, hu, x, hx => by
    have hy : rt y = rt u := by rw [h1 y (by rw [e]; exact hu), e]
    rcases List.mem_cons.1 hx with rfl | hx
    · exact hy
    · rw [ch_rt h1 hc (fun z hz => hn z (by simp [hz])) (hn y (by simp)) x hx, hy]
theorem ch_rt_head {par rt : Nat → Nat} (h0 : ∀ x, par x = 0 → rt x = x) (h1 : ∀ x, par x ≠ 0 → rt x = rt (par x)) {y : Nat} {l : List Nat} (h : Ch par 0 (y :: l)) (hn : ∀ x ∈ y :: l, x ≠ 0) : ∀ x ∈ y :: l, rt x = y := by
 intro x hx
 have hy : rt y = y := h0 y h.1
 rcases List.mem_cons.1 hx with rfl | hx
 · exact hy
 · rw [ch_rt h1 h.2 (fun z hz => hn z (by simp [hz])) (hn y (by simp)) x hx, hy]
theorem ch_dep {par d : Nat → Nat} (h1 : ∀ x, par x ≠ 0 → d (par x) < d x) : ∀ {u : Nat} {l : List Nat}, Ch par u l → (∀ x ∈ l, x ≠ 0) → u ≠ 0 → ∀ x ∈ l, d u < d x
  | u, y :: l, ⟨e, hc⟩, hn, hu, x, hx => by
    have hy : d u < d y := by have := h1 y (by rw [e]; exact hu); rwa [e] at this
    rcases List.mem_cons.1 hx with rfl | hx
    · exact hy
    · exact Nat.lt_trans hy (ch_dep h1 hc (fun z hz => hn z (by simp [hz])) (hn y (by simp)) x hx)
abbrev Fst := List (BT × Nat)
def fnodes (F : Fst) : List Nat := F.flatMap fun p => p.1.nodes
def lsum (σ : Tbl) : Fst → Nat → Int
  | [], _ => 0
  | p :: F, v => (if p.2 = v then tot σ p.1.nodes else 0) + lsum σ F v
theorem fnodes_cons (p : BT × Nat) (F : Fst) : fnodes (p :: F) = p.1.nodes ++ fnodes F := by simp [fnodes]
theorem mem_fnodes {x : Nat} {F : Fst} : x ∈ fnodes F ↔ ∃ p ∈ F, x ∈ p.1.nodes := by simp [fnodes]
theorem fnodes_perm {F G : Fst} (h : F.Perm G) : (fnodes F).Perm (fnodes G) := h.flatMap_right _
theorem lsum_perm {σ : Tbl} {F G : Fst} (h : F.Perm G) (v : Nat) : lsum σ F v = lsum σ G v := by
 induction h with
 | nil => rfl
 | cons p _ ih => simp [lsum, ih]
 | swap p q F => simp only [lsum]; omega
 | trans _ _ h1 h2 => exact h1.trans h2
theorem lsum_congr {σ σ' : Tbl} : ∀ {F : Fst} {v : Nat}, (∀ x ∈ fnodes F, (σ' x).light = (σ x).light) → lsum σ' F v = lsum σ F v
  | [], _, _ => rfl
  | p :: F, v, h => by
    rw [fnodes_cons] at h
    simp only [lsum]
    rw [tot_congr (fun x hx => h x (by simp [hx])), lsum_congr (fun x hx => h x (by simp [hx]))]
structure LF (N : Nat) (σ : Tbl) (F : Fst) (par d rt : Nat → Nat) : Prop where
  rep : ∀ p ∈ F, Rep σ p.1 p.2
  nd : (fnodes F).Nodup
  mem : ∀ x, x ∈ fnodes F ↔ 0 < x ∧ x < N
  up : ∀ p ∈ F, p.2 < N
  ch : ∀ p ∈ F, Ch par p.2 p.1.seq
  dep : ∀ x, par x ≠ 0 → d (par x) < d x
  none : ∀ x, ¬ (0 < x ∧ x < N) → par x = 0
  rt0 : ∀ x, par x = 0 → rt x = x
  rt1 : ∀ x, par x ≠ 0 → rt x = rt (par x)
  light : ∀ v, 0 < v → v < N → (σ v).light = wrap64 (lsum σ F v)
  zero : (σ 0).total = 0 ∧ (σ 0).k0 = 0 ∧ (σ 0).k1 = 0 ∧ (σ 0).up = 0 ∧ (σ 0).first = 0
  pos : 0 < N
section
variable {N : Nat} {σ σ' : Tbl} {F G R : Fst} {par d rt : Nat → Nat} {t t' : BT} {u : Nat}
theorem LF.perm (h : LF N σ F par d rt) (hp : F.Perm G) : LF N σ G par d rt :=
  ⟨fun p hp' => h.rep p (hp.mem_iff.2 hp'), (fnodes_perm hp).nodup_iff.1 h.nd, fun x => (fnodes_perm hp).mem_iff.symm.trans (h.mem x), fun p hp' => h.up p (hp.mem_iff.2 hp'), fun p hp' => h.ch p (hp.mem_iff.2 hp'), h.dep, h.none, h.rt0, h.rt1,
    fun v h1 h2 => by rw [← lsum_perm hp]; exact h.light v h1 h2, h.zero, h.pos⟩
theorem mem_split_perm {p : BT × Nat} (h : p ∈ F) : ∃ R, F.Perm (p :: R) := by
 obtain ⟨A, B, rfl⟩ := List.append_of_mem h
 exact ⟨A ++ B, List.perm_middle⟩
theorem Rep.kids {x : Nat} : ∀ {t : BT} {u : Nat}, Rep σ t u → x ∈ t.nodes → ((σ x).k0 = 0 ∨ (σ x).k0 ∈ t.nodes) ∧ ((σ x).k1 = 0 ∨ (σ x).k1 ∈ t.nodes) ∧ (x = t.root ∨ ((σ x).up ∈ t.nodes)) ∧ (x = t.root → (σ x).up = u) ∧ (σ x).first ∈ t.nodes
  | .nil, _, _, hx => by cases hx
  | .node f l v r, u, ⟨h1, hl, hr, _, _, hb⟩, hx => by
    have hroot : ∀ t : BT, t.root = 0 ∨ t.root ∈ t.nodes := fun t => by
      by_cases e : t.root = 0
      · exact .inl e
      · exact .inr (BT.root_mem e)
    simp only [BT.nodes, List.mem_append, List.mem_cons] at hx ⊢
    by_cases e : x = v
    · subst e
      refine ⟨?_, ?_, .inl rfl, fun _ => h1.2.1, ?_⟩
      · rw [h1.2.2.2.1]; rcases hroot l with h | h; exact .inl h; exact .inr (.inl h)
      · rw [h1.2.2.2.2]; rcases hroot r with h | h; exact .inl h; exact .inr (.inr (.inr h))
      · have := hb.1; simpa [BT.nodes] using this
    · rcases hx with hx | hx | hx
      · obtain ⟨a, b, c, c', c2⟩ := Rep.kids hl hx
        refine ⟨a.imp id .inl, b.imp id .inl, .inr ?_, fun h => absurd h e, .inl c2⟩
        rcases c with c | c
        · rw [c' c]; exact .inr (.inl rfl)
        · exact .inl c
      · exact absurd hx e
      · obtain ⟨a, b, c, c', c2⟩ := Rep.kids hr hx
        refine ⟨a.imp id (fun h => .inr (.inr h)), b.imp id (fun h => .inr (.inr h)), .inr ?_, fun h => absurd h e, .inr (.inr c2)⟩
        rcases c with c | c
        · rw [c' c]; exact .inr (.inl rfl)
        · exact .inr (.inr c)
theorem LF.tree (h : LF N σ F par d rt) {x : Nat} (h0 : 0 < x) (hx : x < N) : ∃ t u R, F.Perm ((t, u) :: R) ∧ x ∈ t.nodes := by
 obtain ⟨p, hp, hxp⟩ := mem_fnodes.1 ((h.mem x).2 ⟨h0, hx⟩)
 obtain ⟨R, hR⟩ := mem_split_perm hp
 exact ⟨p.1, p.2, R, hR, hxp⟩
theorem LF.inR (h : LF N σ F par d rt) : InR N σ := by
 intro x hx
 by_cases h0 : x = 0
 {
 subst h0
 have := h.pos
 rw [h.zero.2.1, h.zero.2.2.1, h.zero.2.2.2.1, h.zero.2.2.2.2]; exact ⟨this, this, this, this⟩
 }
 {
 obtain ⟨t, u, R, hR, hxt⟩ := h.tree (by omega) hx
 have h' := h.perm hR
 have hk := (h'.rep (t, u) (by simp)).kids hxt
 have hN : ∀ y, y ∈ t.nodes → y < N := fun y hy => ((h'.mem y).1 (by rw [fnodes_cons]; simp [hy])).2
 have hp := h.pos
 refine ⟨hk.1.elim (fun e => by omega) (hN _), hk.2.1.elim (fun e => by omega) (hN _), ?_, hN _ hk.2.2.2.2⟩
 rcases hk.2.2.1 with e | e
 · rw [hk.2.2.2.1 e]; exact h'.up (t, u) (by simp)
 · exact hN _ e
 }
theorem seq_mem {t : BT} {x : Nat} : x ∈ t.seq ↔ x ∈ t.nodes := (BT.seq_perm t).mem_iff
theorem LF.lt (h : LF N σ F par d rt) {p : BT × Nat} (hp : p ∈ F) {x : Nat} (hx : x ∈ p.1.nodes) : 0 < x ∧ x < N := (h.mem x).1 (mem_fnodes.2 ⟨p, hp, hx⟩)
theorem LF.seq0 (h : LF N σ F par d rt) {p : BT × Nat} (hp : p ∈ F) : ∀ x ∈ p.1.seq, x ≠ 0 := fun x hx => by have := (h.lt hp (seq_mem.1 hx)).1; omega
theorem LF.outs (h : LF N σ ((t, u) :: R) par d rt) : Out σ u t.nodes := by
 by_cases hu : u = 0
 · exact .inl hu
 {
 right
 have hm : (t, u) ∈ (t, u) :: R := by simp
 have hd := ch_dep h.dep (h.ch _ hm) (h.seq0 hm) hu
 have hut : u ∉ t.nodes := fun e => Nat.lt_irrefl _ (hd u (seq_mem.2 e))
 have huN := h.up _ hm
 obtain ⟨q, hq, hqu⟩ := mem_fnodes.1 ((h.mem u).2 ⟨by omega, huN⟩)
 have hqR : q ∈ R := by {
 rcases List.mem_cons.1 hq with rfl | hq
 · exact absurd hqu hut
 · exact hq
 }
 have hk := (h.rep q hq).kids hqu
 have hnd := h.nd
 rw [fnodes_cons, List.nodup_append] at hnd
 have hdis : ∀ y, y ∈ q.1.nodes → y ∉ t.nodes := fun y hy hyt => hnd.2.2 y hyt y (mem_fnodes.2 ⟨q, hqR, hy⟩) rfl
 have h0 : (0 : Nat) ∉ t.nodes := fun e => by have := (h.lt hm e).1; omega
 exact ⟨hut, hk.1.elim (fun e => by rw [e]; exact h0) (hdis _), hk.2.1.elim (fun e => by rw [e]; exact h0) (hdis _)⟩
 }
theorem LF.splay (h : LF N σ ((t, u) :: R) par d rt) (hrep : Rep σ' t' u) (hseq : t'.seq = t.seq) (hperm : t'.nodes.Perm t.nodes) (hrot : Rotated σ σ' t.nodes) : LF N σ' ((t', u) :: R) par d rt := by
 have hnd := h.nd
 rw [fnodes_cons, List.nodup_append] at hnd
 have hfp : (fnodes ((t', u) :: R)).Perm (fnodes ((t, u) :: R)) := by rw [fnodes_cons, fnodes_cons]; exact hperm.append_right _
 refine ⟨fun p hp => ?_, hfp.nodup_iff.2 h.nd, fun x => hfp.mem_iff.trans (h.mem x), fun p hp => ?_, fun p hp => ?_, h.dep, h.none, h.rt0, h.rt1, fun v h1 h2 => ?_, ?_, h.pos⟩
 {
 rcases List.mem_cons.1 hp with rfl | hp
 · exact hrep
 · exact (h.rep p (by simp [hp])).congr (fun x hx => hrot.other x (fun e => hnd.2.2 x e x (mem_fnodes.2 ⟨p, hp, hx⟩) rfl))
 }
 {
 rcases List.mem_cons.1 hp with rfl | hp
 · exact h.up (t, u) (by simp)
 · exact h.up p (by simp [hp])
 }
 {
 rcases List.mem_cons.1 hp with rfl | hp
 · show Ch par u t'.seq; rw [hseq]; exact h.ch (t, u) (by simp)
 · exact h.ch p (by simp [hp])
 }
 {
 rw [(hrot.lk v).1, h.light v h1 h2]
 congr 1
 rw [lsum_congr (fun x _ => (hrot.lk x).1)]
 simp only [lsum]
 rw [tot_perm hperm]
 }
 · rw [hrot.other 0 (fun e => by have := (h.lt (p := (t, u)) (by simp) e).1; omega)]; exact h.zero
theorem total_root (hz : (σ 0).total = 0) (h : Rep σ t u) : (σ t.root).total = wrap64 (tot σ t.nodes) := by
 cases t with
 | nil => show (σ 0).total = _; rw [hz]; simp [BT.nodes, tot, wrap64]
 | node f l v r => exact h.2.2.2.2.1
end
def xst1 (σ : Tbl) (j B : Nat) : Tbl := σ.upd j { σ j with light := wrap64 ((σ j).light + wrap64 ((σ (σ j).k1).total - (σ B).total)) }
def xst2 (σ : Tbl) (j B : Nat) : Tbl := (xst1 σ j B).upd j { xst1 σ j B j with k1 := B }
def xstep (σ : Tbl) (j B : Nat) : Tbl := refresh (xst2 σ j B) j
theorem xst2_other {σ : Tbl} {j B x : Nat} (h : x ≠ j) : xst2 σ j B x = σ x := by unfold xst2 xst1; rw [upd_other h, upd_other h]
theorem xst2_at (σ : Tbl) (j B : Nat) : xst2 σ j B j = { σ j with light := wrap64 ((σ j).light + wrap64 ((σ (σ j).k1).total - (σ B).total)), k1 := B } := by unfold xst2 xst1; rw [upd_same, upd_same]
section
variable {N : Nat} {σ : Tbl} {R : Fst} {par d rt : Nat → Nat} {l r B : BT} {j u : Nat}
theorem LF.xstep (h : LF N σ ((.node false l j r, u) :: (B, j) :: R) par d rt) :
    LF N (xstep σ j B.root) ((.node false l j B, u) :: (r, j) :: R) par d rt ∧ (∀ x, x ≠ j → xstep σ j B.root x = σ x) ∧ (∀ x, (xstep σ j B.root x).key = (σ x).key) ∧
      (σ j).k1 = r.root ∧ (xst2 σ j B.root j).k0 ≠ j ∧ (xst2 σ j B.root j).k1 ≠ j ∧ InR N (xst2 σ j B.root) := by
 have m1 : (BT.node false l j r, u) ∈ (BT.node false l j r, u) :: (B, j) :: R := by simp
 have m2 : (B, j) ∈ (BT.node false l j r, u) :: (B, j) :: R := by simp
 obtain ⟨⟨hj0, hju, hjf, hk0, hk1⟩, hl, hr, _⟩ := h.rep _ m1
 have hB : Rep σ B j := h.rep _ m2
 have hnd := h.nd
 have hmem := h.mem
 simp only [fnodes_cons, BT.nodes, List.nodup_append, List.nodup_cons, List.mem_append, List.mem_cons, List.append_assoc, List.cons_append] at hnd hmem
 have djl : j ∉ l.nodes := by grind
 have djr : j ∉ r.nodes := by grind
 have djB : j ∉ B.nodes := by grind
 have djR : j ∉ fnodes R := by grind
 have hB0 : ∀ b : BT, j ∉ b.nodes → b.root ≠ j := fun b hb e => hb (e ▸ BT.root_mem (by rw [e]; exact hj0))
 have hjN : j < N := (h.lt m1 (by simp [BT.nodes])).2
 have htr := total_root h.zero.1 hr
 have htB := total_root h.zero.1 hB
 have huj : u ≠ j := by {
 rintro rfl
 have := h.outs
 rcases this with e | ⟨e, _⟩
 · exact hj0 e
 · exact e (by simp [BT.nodes])
 }
 have hR2 : InR N (xst2 σ j B.root) := by {
 have hi := h.inR
 intro x hx
 by_cases e : x = j
 {
 subst e; rw [xst2_at]
 refine ⟨(hi x hx).1, ?_, (hi x hx).2.2.1, (hi x hx).2.2.2⟩
 by_cases e : B.root = 0
 · show B.root < N; rw [e]; exact h.pos
 · exact (h.lt m2 (BT.root_mem e)).2
 }
 · rw [xst2_other e]; exact hi x hx
 }
 have hcg : ∀ x, x ≠ j → xst2 σ j B.root x = σ x := fun x hx => xst2_other hx
 have hq0 : (xst2 σ j B.root j).k0 ≠ j := by rw [xst2_at]; show (σ j).k0 ≠ j; rw [hk0]; exact hB0 l djl
 have hq1 : (xst2 σ j B.root j).k1 ≠ j := by rw [xst2_at]; exact hB0 B djB
 have hoth : ∀ x, x ≠ j → Proofs.YtgmnemndjjmgkaaGreat.xstep σ j B.root x = σ x := fun x hx => by unfold Proofs.YtgmnemndjjmgkaaGreat.xstep; rw [refresh_other hx, hcg x hx]
 have hkey : ∀ x, (Proofs.YtgmnemndjjmgkaaGreat.xstep σ j B.root x).key = (σ x).key := by {
 intro x
 by_cases e : x = j
 · subst e; unfold Proofs.YtgmnemndjjmgkaaGreat.xstep; rw [refresh_links.2.2.2.2.1, xst2_at]
 · rw [hoth x e]
 }
 have hnew : Rep (Proofs.YtgmnemndjjmgkaaGreat.xstep σ j B.root) (.node false l j B) u :=
   refresh_rep hj0 (by rw [xst2_at]; exact hju) (by rw [xst2_at]; exact hjf) (by rw [xst2_at]; exact hk0) (by rw [xst2_at]) (hl.congr (fun x hx => hcg x (fun e => djl (e ▸ hx)))) (hB.congr (fun x hx => hcg x (fun e => djB (e ▸ hx)))) djl djB
 have hll : (Proofs.YtgmnemndjjmgkaaGreat.xstep σ j B.root j).light = wrap64 ((σ j).light + (tot σ r.nodes - tot σ B.nodes)) := by {
 unfold Proofs.YtgmnemndjjmgkaaGreat.xstep; rw [refresh_links.2.2.2.2.2, xst2_at]
 show wrap64 ((σ j).light + wrap64 ((σ (σ j).k1).total - (σ B.root).total)) = _
 rw [hk1, htr, htB]; unfold wrap64; omega
 }
 have hch := h.ch _ m1
 simp only [BT.seq, Bool.false_eq_true, if_false] at hch
 have hchB : Ch par j B.seq := h.ch _ m2
 have hfp : (fnodes ((.node false l j B, u) :: (r, j) :: R)).Perm (fnodes ((.node false l j r, u) :: (B, j) :: R)) := by {
 simp only [fnodes_cons, BT.nodes, List.append_assoc, List.cons_append]
 refine .append_left _ (.cons _ ?_)
 rw [← List.append_assoc, ← List.append_assoc]
 exact List.perm_append_comm.append_right _
 }
 refine ⟨⟨fun p hp => ?_, hfp.nodup_iff.2 h.nd, fun x => hfp.mem_iff.trans (h.mem x), fun p hp => ?_, fun p hp => ?_, h.dep, h.none, h.rt0, h.rt1, fun v h1 h2 => ?_, ?_, h.pos⟩, hoth, hkey, hk1, hq0, hq1, hR2⟩
 {
 rcases List.mem_cons.1 hp with rfl | hp
 · exact hnew
 rcases List.mem_cons.1 hp with rfl | hp
 · exact hr.congr (fun x hx => hoth x (fun e => djr (e ▸ hx)))
 · exact (h.rep p (by simp [hp])).congr (fun x hx => hoth x (fun e => djR (e ▸ mem_fnodes.2 ⟨p, hp, hx⟩)))
 }
 {
 rcases List.mem_cons.1 hp with rfl | hp
 · exact h.up (BT.node false l j r, u) m1
 rcases List.mem_cons.1 hp with rfl | hp
 · exact hjN
 · exact h.up p (by simp [hp])
 }
 {
 rcases List.mem_cons.1 hp with rfl | hp
 {
 simp only [BT.seq, Bool.false_eq_true, if_false]
 exact ch_mid.2 ⟨(ch_mid.1 hch).1, hchB⟩
 }
 rcases List.mem_cons.1 hp with rfl | hp
 · exact (ch_mid.1 hch).2
 · exact h.ch p (by simp [hp])
 }
 {
 have e1 : tot (Proofs.YtgmnemndjjmgkaaGreat.xstep σ j B.root) l.nodes = tot σ l.nodes := tot_congr (fun x hx => by rw [hoth x (fun e => djl (e ▸ hx))])
 have e2 : tot (Proofs.YtgmnemndjjmgkaaGreat.xstep σ j B.root) r.nodes = tot σ r.nodes := tot_congr (fun x hx => by rw [hoth x (fun e => djr (e ▸ hx))])
 have e3 : tot (Proofs.YtgmnemndjjmgkaaGreat.xstep σ j B.root) B.nodes = tot σ B.nodes := tot_congr (fun x hx => by rw [hoth x (fun e => djB (e ▸ hx))])
 have e4 : lsum (Proofs.YtgmnemndjjmgkaaGreat.xstep σ j B.root) R v = lsum σ R v := lsum_congr (fun x hx => by rw [hoth x (fun e => djR (e ▸ hx))])
 have tn : ∀ (τ : Tbl) (b : BT), tot τ (BT.node false l j b).nodes = tot τ l.nodes + (1 + (τ j).light) + tot τ b.nodes := by intro τ b; simp only [BT.nodes, tot, List.map_append, List.map_cons, List.sum_append, List.sum_cons]; omega
 have hlv := h.light v h1 h2
 simp only [lsum] at hlv ⊢
 rw [tn] at hlv ⊢
 rw [e1, e2, e3, e4, hll]
 by_cases ev : v = j
 {
 subst ev
 rw [hll]
 rw [if_neg huj] at hlv ⊢
 rw [if_pos rfl] at hlv ⊢
 rw [hlv]; unfold wrap64; omega
 }
 {
 rw [hoth v ev, hlv, if_neg (show ¬ j = v from fun e => ev e.symm)]
 by_cases eu : u = v
 · rw [if_pos eu, if_pos eu, if_neg (show ¬ j = v from fun e => ev e.symm)]; unfold wrap64; omega
 · rw [if_neg eu, if_neg eu, if_neg (show ¬ j = v from fun e => ev e.symm)]
 }
 }
 · rw [hoth 0 (fun e => hj0 e.symm)]; exact h.zero
end
end Go.Proofs.YtgmnemndjjmgkaaGreat

/- lct: what holds between two rounds of expose. -/
namespace Go.Proofs.YtgmnemndjjmgkaaGreat
open Go.RowKit
section
variable {N : Nat} {σ : Tbl} {F R : Fst} {par d rt : Nat → Nat} {t : BT} {u : Nat}
theorem LF.same (h : LF N σ F par d rt) {p : BT × Nat} (hp : p ∈ F) : (∀ x ∈ p.1.nodes, ∀ y ∈ p.1.nodes, rt x = rt y) ∧ (p.2 ≠ 0 → ∀ x ∈ p.1.nodes, rt x = rt p.2) := by
 have hc := h.ch p hp
 have h0 := h.seq0 hp
 have hu : p.2 ≠ 0 → ∀ x ∈ p.1.nodes, rt x = rt p.2 := fun hu x hx => ch_rt h.rt1 hc h0 hu x (seq_mem.2 hx)
 refine ⟨fun x hx y hy => ?_, hu⟩
 by_cases e : p.2 = 0
 {
 rw [e] at hc
 have hx' := seq_mem.2 hx
 have hy' := seq_mem.2 hy
 generalize p.1.seq = s at *
 cases s with
 | nil => cases hx'
 | cons z s => rw [ch_rt_head h.rt0 h.rt1 hc h0 x hx', ch_rt_head h.rt0 h.rt1 hc h0 y hy']
 }
 · rw [hu e x hx, hu e y hy]
theorem LF.addNil (h : LF N σ F par d rt) {j : Nat} (hj : j < N) : LF N σ ((.nil, j) :: F) par d rt := by
 have e : fnodes ((BT.nil, j) :: F) = fnodes F := by rw [fnodes_cons]; rfl
 refine ⟨fun p hp => ?_, by rw [e]; exact h.nd, fun x => by rw [e]; exact h.mem x, fun p hp => ?_, fun p hp => ?_, h.dep, h.none, h.rt0, h.rt1, fun v h1 h2 => ?_, h.zero, h.pos⟩
 {
 rcases List.mem_cons.1 hp with rfl | hp
 · trivial
 · exact h.rep p hp
 }
 {
 rcases List.mem_cons.1 hp with rfl | hp
 · exact hj
 · exact h.up p hp
 }
 {
 rcases List.mem_cons.1 hp with rfl | hp
 · trivial
 · exact h.ch p hp
 }
 · rw [h.light v h1 h2]; simp [lsum, BT.nodes, tot]
theorem LF.disj (h : LF N σ ((t, u) :: R) par d rt) {p : BT × Nat} (hp : p ∈ R) : ∀ x ∈ t.nodes, x ∉ p.1.nodes := by
 have hnd := h.nd
 rw [fnodes_cons, List.nodup_append] at hnd
 exact fun x hx hxp => hnd.2.2 x hx x (mem_fnodes.2 ⟨p, hp, hxp⟩) rfl
end
theorem last_eq {l r S : List Nat} {i : Nat} (h : l ++ i :: r = S ++ [i]) (hnd : (l ++ i :: r).Nodup) : r = [] ∧ l = S := by
 have hi : i ∉ l := fun e => (List.nodup_append.1 hnd).2.2 i e i (by simp) rfl
 have hr : i ∉ r := (List.nodup_cons.1 (List.nodup_append.1 hnd).2.1).1
 rcases List.eq_nil_or_concat r with rfl | ⟨r', x, rfl⟩
 · exact ⟨rfl, by simpa using h⟩
 {
 rw [List.concat_eq_append] at h hr
 rw [← List.cons_append, ← List.append_assoc] at h
 have := List.append_inj_right' h rfl
 simp at this
 exact absurd (by simp [this]) hr
 }
theorem nil_of_seq {t : BT} (h : t.seq = []) : t = .nil := by
 cases t with
 | nil => rfl
 | node f l v r => cases f <;> simp [BT.seq] at h
structure XI (N : Nat) (σ : Tbl) (F : Fst) (par d rt : Nat → Nat) (i : Nat) (τ : Tbl) (B : BT) (j : Nat) (R : Fst) : Prop where
  lf : LF N τ ((B, j) :: R) par d rt
  key : ∀ x, (τ x).key = (σ x).key
  frame : ∀ x, rt x ≠ rt i → τ x = σ x
  trees : ∀ p ∈ F, (∃ x ∈ p.1.nodes, rt x ≠ rt i) → p ∈ R
  rtj : j ≠ 0 → rt j = rt i
  rtB : ∀ x ∈ B.nodes, rt x = rt i
  last : (B = .nil ∧ j = i) ∨ ∃ S, B.seq = S ++ [i]
  tops : j ≠ 0 → ∀ T, (T, 0) ∈ F ↔ (T, 0) ∈ R
  fin : j = 0 → ∃ T0 A Bq Rq, (T0, 0) ∈ F ∧ T0.seq = A ++ B.root :: Rq ∧ B.seq = A ++ B.root :: Bq ∧ ∀ x ∈ Bq, x ∉ T0.nodes
section
variable {N : Nat} {σ τ τ' : Tbl} {F R R2 : Fst} {par d rt : Nat → Nat} {i j u : Nat} {t B l r : BT}
theorem XI.start (h : LF N σ F par d rt) (hi : i < N) (h0 : 0 < i) : XI N σ F par d rt i σ .nil i F :=
  ⟨h.addNil hi, fun _ => rfl, fun _ _ => rfl, fun _ hp _ => hp, fun _ => rfl, fun _ hx => (by cases hx), .inl ⟨rfl, rfl⟩, fun _ _ => Iff.rfl, fun e => by omega⟩
theorem XI.split (h : XI N σ F par d rt i τ B j R) (hj : j ≠ 0) : ∃ t u R2, R.Perm ((t, u) :: R2) ∧ j ∈ t.nodes := by
 have hjN : j < N := h.lf.up (B, j) (by simp)
 obtain ⟨p, hp, hxp⟩ := mem_fnodes.1 ((h.lf.mem j).2 ⟨by omega, hjN⟩)
 have hpR : p ∈ R := by {
 rcases List.mem_cons.1 hp with rfl | hp
 {
 rcases h.lf.outs with e | ⟨e, _⟩
 · exact absurd e hj
 · exact absurd hxp e
 }
 · exact hp
 }
 obtain ⟨R2, h2⟩ := mem_split_perm hpR
 exact ⟨p.1, p.2, R2, h2, hxp⟩
theorem XI.lf2 (h : XI N σ F par d rt i τ B j R) (hR : R.Perm ((t, u) :: R2)) : LF N τ ((t, u) :: (B, j) :: R2) par d rt :=
  h.lf.perm ((List.Perm.cons _ hR).trans (List.Perm.swap _ _ _))
theorem XI.next (h : XI N σ F par d rt i τ B j R) (hj : j ≠ 0) (hR : R.Perm ((t, u) :: R2)) (hjt : j ∈ t.nodes)
    (hrep : Rep τ' (.node false l j r) u) (hseq : (BT.node false l j r).seq = t.seq) (hperm : (BT.node false l j r).nodes.Perm t.nodes) (hrot : Rotated τ τ' t.nodes) :
    XI N σ F par d rt i (xstep τ' j B.root) (.node false l j B) u ((r, j) :: R2) ∧ ((τ' j).k1 = r.root ∧ (xst2 τ' j B.root j).k0 ≠ j ∧ (xst2 τ' j B.root j).k1 ≠ j ∧ InR N (xst2 τ' j B.root)) ∧ (u ≠ 0 → d u < d j) ∧ (xstep τ' j B.root j).up = u := by
 have h2 := h.lf2 hR
 have h3 := h2.splay hrep hseq hperm hrot
 obtain ⟨h4, hoth, hkey, hk1, hq0, hq1, hin⟩ := h3.xstep
 have mt : (t, u) ∈ (t, u) :: (B, j) :: R2 := by simp
 have hst := h2.same mt
 have hrj := h.rtj hj
 have hrt : ∀ x ∈ t.nodes, rt x = rt i := fun x hx => (hst.1 x hx j hjt).trans hrj
 have hru : u ≠ 0 → rt u = rt i := fun hu => (hst.2 hu j hjt).symm.trans hrj
 have mB : (BT.node false l j B, u) ∈ (BT.node false l j B, u) :: (r, j) :: R2 := by simp
 refine ⟨⟨h4, fun x => (hkey x).trans ((hrot.lk x).2.trans (h.key x)), fun x hx => ?_, fun p hp hx => ?_, hru, fun x hx => ?_, .inr ?_, fun hu T => ?_, fun hu => ?_⟩, ⟨hk1, hq0, hq1, hin⟩, fun hu => ?_, ?_⟩
 · rw [hoth x (fun e => hx (by rw [e]; exact hrj)), hrot.other x (fun e => hx (hrt x e)), h.frame x hx]
 {
 have h5 := hR.mem_iff.1 (h.trees p hp hx)
 rcases List.mem_cons.1 h5 with rfl | h5
 · obtain ⟨x, hx, hne⟩ := hx; exact absurd (hrt x hx) hne
 · simp [h5]
 }
 · exact ((h4.same mB).1 x hx j (by simp [BT.nodes])).trans hrj
 {
 simp only [BT.seq, Bool.false_eq_true, if_false]
 rcases h.last with ⟨rfl, rfl⟩ | ⟨S, hS⟩
 · exact ⟨l.seq, rfl⟩
 · exact ⟨l.seq ++ j :: S, by rw [hS]; simp⟩
 }
 {
 rw [h.tops hj T, hR.mem_iff]
 simp only [List.mem_cons, Prod.mk.injEq]
 constructor
 {
 rintro (⟨_, e⟩ | e)
 · exact absurd e.symm hu
 · exact .inr e
 }
 {
 rintro (⟨_, e⟩ | e)
 · exact absurd e.symm hj
 · exact .inr e
 }
 }
 {
 subst hu
 refine ⟨t, l.seq, B.seq, r.seq, (h.tops hj t).2 (hR.mem_iff.2 (by simp)), ?_, ?_, fun x hx => ?_⟩
 · rw [← hseq]; simp [BT.seq, BT.root]
 · simp [BT.seq, BT.root]
 · exact fun e => h2.disj (p := (B, j)) (by simp) x e (seq_mem.1 hx)
 }
 · exact ch_dep h2.dep (h2.ch _ mt) (h2.seq0 mt) hu j (seq_mem.2 hjt)
 · exact (h4.rep _ mB).1.2.1
theorem XI.done (h : XI N σ F par d rt i τ B 0 R) (hi : i ≠ 0) : i ∈ B.nodes ∧ ∃ S, B.seq = S ++ [i] := by
 rcases h.last with ⟨_, e⟩ | ⟨S, hS⟩
 · exact absurd e.symm hi
 · exact ⟨seq_mem.1 (by rw [hS]; simp), S, hS⟩
end
structure Exposed (N : Nat) (σ : Tbl) (F : Fst) (par d rt : Nat → Nat) (i m : Nat) (τ : Tbl) (l : BT) (R : Fst) : Prop where
  lf : LF N τ ((.node false l i .nil, 0) :: R) par d rt
  key : ∀ x, (τ x).key = (σ x).key
  frame : ∀ x, rt x ≠ rt i → τ x = σ x
  trees : ∀ p ∈ F, (∃ x ∈ p.1.nodes, rt x ≠ rt i) → p ∈ R
  meets : ∃ T0 A Bq Rq, (T0, 0) ∈ F ∧ T0.seq = A ++ m :: Rq ∧ l.seq ++ [i] = A ++ m :: Bq ∧ ∀ x ∈ Bq, x ∉ T0.nodes
theorem XI.exposed {N : Nat} {σ τ τ' : Tbl} {F R : Fst} {par d rt : Nat → Nat} {i : Nat} {B l r : BT} (h : XI N σ F par d rt i τ B 0 R) (hi : i ≠ 0) (hrep : Rep τ' (.node false l i r) 0) (hseq : (BT.node false l i r).seq = B.seq) (hperm : (BT.node false l i r).nodes.Perm B.nodes) (hrot : Rotated τ τ' B.nodes) :
    Exposed N σ F par d rt i B.root τ' l R := by
 have h1 := h.lf.splay hrep hseq hperm hrot
 obtain ⟨hiB, S, hS⟩ := h.done hi
 have hnd : (l.seq ++ i :: r.seq).Nodup := by {
 have := h1.nd
 rw [fnodes_cons, List.nodup_append] at this
 have h2 := (BT.seq_perm (.node false l i r)).nodup_iff.2 this.1
 simpa [BT.seq] using h2
 }
 have he : l.seq ++ i :: r.seq = S ++ [i] := by {
 have : (BT.node false l i r).seq = l.seq ++ i :: r.seq := by simp [BT.seq]
 rw [← this, hseq, hS]
 }
 obtain ⟨hr, hl⟩ := last_eq he hnd
 have hrn := nil_of_seq hr
 subst hrn
 refine ⟨h1, fun x => ((hrot.lk x).2).trans (h.key x), fun x hx => ?_, h.trees, ?_⟩
 · rw [hrot.other x (fun e => hx (h.rtB x e)), h.frame x hx]
 {
 obtain ⟨T0, A, Bq, Rq, a1, a2, a3, a4⟩ := h.fin rfl
 exact ⟨T0, A, Bq, Rq, a1, a2, by rw [hl, ← hS]; exact a3, a4⟩
 }
end Go.Proofs.YtgmnemndjjmgkaaGreat

namespace Go.Proofs.YtgmnemndjjmgkaaGreat
open Go.RowKit
def Adj (par : Nat → Nat) (x y : Nat) : Prop := x ≠ 0 ∧ y ≠ 0 ∧ (par x = y ∨ par y = x)
theorem Adj.symm {par : Nat → Nat} {x y : Nat} (h : Adj par x y) : Adj par y x := ⟨h.2.1, h.1, h.2.2.symm⟩
structure Rtd (par d rt : Nat → Nat) : Prop where
  dep : ∀ x, par x ≠ 0 → d (par x) < d x
  rt0 : ∀ x, par x = 0 → rt x = x
  rt1 : ∀ x, par x ≠ 0 → rt x = rt (par x)
theorem LF.rtd {N : Nat} {σ : Tbl} {F : Fst} {par d rt : Nat → Nat} (h : LF N σ F par d rt) : Rtd par d rt := ⟨h.dep, h.rt0, h.rt1⟩
def rtF (par : Nat → Nat) : Nat → Nat → Nat
  | 0, x => x
  | k + 1, x => if par x = 0 then x else rtF par k (par x)
theorem rtF_le {par d : Nat → Nat} (dep : ∀ x, par x ≠ 0 → d (par x) < d x) : ∀ (k : Nat) (x m : Nat), d x ≤ k → d x ≤ m → rtF par k x = rtF par m x := by
 intro k
 induction k with
 | zero => {
 intro x m hk hm
 have h0 : par x = 0 := by apply Classical.byContradiction; intro h; have := dep x h; omega
 cases m with
 | zero => rfl
 | succ m => simp [rtF, h0]
 }
 | succ k ih => {
 intro x m hk hm
 by_cases h0 : par x = 0
 {
 cases m with
 | zero => simp [rtF, h0]
 | succ m => simp [rtF, h0]
 }
 {
 have := dep x h0
 cases m with
 | zero => omega
 | succ m => simp only [rtF, if_neg h0]; exact ih _ _ (by omega) (by omega)
 }
 }
theorem rt_ex {par d : Nat → Nat} (dep : ∀ x, par x ≠ 0 → d (par x) < d x) : ∃ rt, Rtd par d rt := by
 refine ⟨fun x => rtF par (d x) x, dep, fun x h => ?_, fun x h => ?_⟩
 {
 cases e : d x with
 | zero => simp [rtF]
 | succ k => simp [rtF, h]
 }
 {
 have := dep x h
 show rtF par (d x) x = rtF par (d (par x)) (par x)
 obtain ⟨k, hk⟩ : ∃ k, d x = k + 1 := ⟨d x - 1, by omega⟩
 rw [hk]; simp only [rtF, if_neg h]
 exact rtF_le dep _ _ _ (by omega) (by omega)
 }
section
variable {par d rt : Nat → Nat}
theorem Rtd.root (h : Rtd par d rt) : ∀ (k x : Nat), d x ≤ k → par (rt x) = 0 := by
 intro k
 induction k with
 | zero => {
 intro x hk
 have h0 : par x = 0 := by apply Classical.byContradiction; intro e; have := h.dep x e; omega
 rw [h.rt0 x h0]; exact h0
 }
 | succ k ih => {
 intro x hk
 by_cases h0 : par x = 0
 · rw [h.rt0 x h0]; exact h0
 · rw [h.rt1 x h0]; have := h.dep x h0; exact ih _ (by omega)
 }
theorem Rtd.par_rt (h : Rtd par d rt) (x : Nat) : par (rt x) = 0 := h.root _ x (Nat.le_refl _)
theorem Rtd.idem (h : Rtd par d rt) (x : Nat) : rt (rt x) = rt x := h.rt0 _ (h.par_rt x)
theorem Rtd.adj (h : Rtd par d rt) {x y : Nat} (ha : Adj par x y) : rt x = rt y := by
 rcases ha with ⟨hx, hy, e | e⟩
 · rw [h.rt1 x (by rw [e]; exact hy), e]
 · rw [h.rt1 y (by rw [e]; exact hx), e]
theorem Rtd.irrefl (h : Rtd par d rt) (x : Nat) : ¬ Adj par x x := by
 rintro ⟨hx, _, e | e⟩ <;> · have := h.dep x (by rw [e]; exact hx); rw [e] at this; omega
theorem Rtd.chain (h : Rtd par d rt) : ∀ (k x : Nat), d x ≤ k → x ≠ 0 → ∃ S, Ch par 0 (S ++ [x]) ∧ (S ++ [x]).Nodup ∧ (∀ y ∈ S ++ [x], y ≠ 0) ∧ (∀ y ∈ S, d y < d x) := by
 intro k
 induction k with
 | zero => {
 intro x hk hx
 have h0 : par x = 0 := by apply Classical.byContradiction; intro e; have := h.dep x e; omega
 exact ⟨[], ⟨h0, trivial⟩, by simp, by simpa using hx, by simp⟩
 }
 | succ k ih => {
 intro x hk hx
 by_cases h0 : par x = 0
 · exact ⟨[], ⟨h0, trivial⟩, by simp, by simpa using hx, by simp⟩
 {
 have hd := h.dep x h0
 obtain ⟨S, h1, h2, h3, h4⟩ := ih (par x) (by omega) h0
 have hlt : ∀ y ∈ S ++ [par x], d y < d x := by {
 intro y hy
 rcases List.mem_append.1 hy with hy | hy
 · have := h4 y hy; omega
 · simp at hy; rw [hy]; exact hd
 }
 refine ⟨S ++ [par x], ?_, ?_, ?_, hlt⟩
 · rw [List.append_assoc]; exact ch_mid.2 ⟨h1, rfl, trivial⟩
 {
 rw [List.nodup_append]
 exact ⟨h2, by simp, fun a ha b hb => by simp at hb; subst hb; rintro rfl; have := hlt a ha; omega⟩
 }
 {
 intro y hy
 rcases List.mem_append.1 hy with hy | hy
 · exact h3 y hy
 · simp at hy; rw [hy]; exact hx
 }
 }
 }
end
def pv : Nat → List Nat → Nat → Nat
  | _, [], _ => 0
  | u, y :: l, x => if x = y then u else pv y l x
theorem ch_pv : ∀ {u : Nat} {L : List Nat}, L.Nodup → Ch (pv u L) u L
  | _, [], _ => trivial
  | u, y :: l, h => by
    have hy : y ∉ l := (List.nodup_cons.1 h).1
    refine ⟨by simp [pv], ch_congr (fun x hx => ?_) (ch_pv (u := y) (List.nodup_cons.1 h).2)⟩
    simp only [pv]; rw [if_neg (by rintro rfl; exact hy hx)]
theorem ch_split {par : Nat → Nat} {x : Nat} : ∀ {u : Nat} {L : List Nat}, Ch par u L → x ∈ L → (∃ B, L = x :: B ∧ par x = u) ∨ ∃ A B, L = A ++ par x :: x :: B
  | u, y :: l, ⟨e, hc⟩, hx => by
    rcases List.mem_cons.1 hx with rfl | hx
    · exact .inl ⟨l, rfl, e⟩
    · rcases ch_split hc hx with ⟨B, hB, hp⟩ | ⟨A, B, hA⟩
      · exact .inr ⟨[], B, by rw [hB, hp]; rfl⟩
      · exact .inr ⟨y :: A, B, by rw [hA]; rfl⟩
theorem ch_at {par : Nat → Nat} {u x y : Nat} {A B : List Nat} (h : Ch par u (A ++ y :: x :: B)) : par x = y := (ch_mid.1 h).2.1
theorem reroot {par d rt : Nat → Nat} (h : Rtd par d rt) {S : List Nat} {i : Nat} (hn : (S ++ [i]).Nodup) (hz : ∀ x ∈ S ++ [i], x ≠ 0) (hc : Ch par 0 (S ++ [i])) :
    ∃ par' d' rt', Rtd par' d' rt' ∧ (∀ x, x ∉ S ++ [i] → par' x = par x) ∧ Ch par' 0 (S ++ [i]).reverse ∧ (∀ x y, Adj par' x y ↔ Adj par x y) ∧ (∀ x y, rt' x = rt' y ↔ rt x = rt y) ∧ rt' i = i ∧ par' i = 0 := by
 generalize hL : S ++ [i] = L at *
 have hrev : L.reverse = i :: S.reverse := by rw [← hL]; simp
 have hiL : i ∈ L := by rw [← hL]; simp
 obtain ⟨par', hp'⟩ : ∃ par' : Nat → Nat, par' = fun x => if x ∈ L then pv 0 L.reverse x else par x := ⟨_, rfl⟩
 have hout : ∀ x, x ∉ L → par' x = par x := fun x hx => by rw [hp']; simp [hx]
 have hc' : Ch par' 0 L.reverse := ch_congr (fun x hx => by rw [hp']; simp only [List.mem_reverse] at hx; simp [hx]) (ch_pv (u := 0) (((List.reverse_perm L).nodup_iff.2 hn)))
 have hpi : par' i = 0 := by rw [hrev] at hc'; exact hc'.1
 have turn1 : ∀ x ∈ L, par x ≠ 0 → par x ∈ L ∧ par' (par x) = x := by {
 intro x hx h0
 rcases ch_split hc hx with ⟨B, _, e⟩ | ⟨A, B, e⟩
 · exact absurd e h0
 {
 refine ⟨by rw [e]; simp, ?_⟩
 have e2 : L.reverse = B.reverse ++ x :: par x :: A.reverse := by rw [e]; simp
 rw [e2] at hc'; exact ch_at hc'
 }
 }
 have turn2 : ∀ x ∈ L, par' x ≠ 0 → par' x ∈ L ∧ par (par' x) = x := by {
 intro x hx h0
 rcases ch_split hc' (List.mem_reverse.2 hx) with ⟨B, _, e⟩ | ⟨A, B, e⟩
 · exact absurd e h0
 {
 have e2 : L = B.reverse ++ x :: par' x :: A.reverse := by have := congrArg List.reverse e; simpa using this
 exact ⟨by rw [e2]; simp, by rw [e2] at hc; exact ch_at hc⟩
 }
 }
 have hrtL : ∀ x ∈ L, rt x = rt i := by {
 cases hL0 : L with
 | nil => rw [hL0] at hiL; cases hiL
 | cons y l => {
 rw [hL0] at hc hz hiL
 intro x hx
 rw [ch_rt_head h.rt0 h.rt1 hc hz x hx, ch_rt_head h.rt0 h.rt1 hc hz i hiL]
 }
 }
 have hroot : ∀ x, par x = 0 → rt x = rt i → x ∈ L := by {
 intro x hx he
 cases hL0 : L with
 | nil => rw [hL0] at hiL; cases hiL
 | cons y l => {
 rw [hL0] at hc hz hiL
 have := ch_rt_head h.rt0 h.rt1 hc hz i hiL
 rw [h.rt0 x hx] at he
 rw [he, this]; simp
 }
 }
 refine ⟨par', fun x => if x ∈ L then L.reverse.idxOf x else d x + L.length, fun x => if rt x = rt i then i else rt x, ⟨fun x h0 => ?_, fun x h0 => ?_, fun x h0 => ?_⟩, hout, hc', ?_, ?_, by simp, hpi⟩
 {
 by_cases hx : x ∈ L
 {
 rcases ch_split hc' (List.mem_reverse.2 hx) with ⟨B, _, e⟩ | ⟨A, B, e⟩
 · exact absurd e h0
 {
 have hm := (turn2 x hx h0).1
 simp only [if_pos hx, if_pos hm]
 have hnr := ((List.reverse_perm L).nodup_iff.2 hn)
 rw [e] at hnr ⊢
 generalize par' x = y at *
 have n1 : y ∉ A := fun ha => (List.nodup_append.1 hnr).2.2 y ha y (by simp) rfl
 have n2 : x ∉ A := fun ha => (List.nodup_append.1 hnr).2.2 x ha x (by simp) rfl
 have n3 : x ≠ y := by {
 have := (List.nodup_cons.1 (List.nodup_append.1 hnr).2.1).1
 rintro rfl; exact this (by simp)
 }
 have n4 : ¬ y = x := fun e => n3 e.symm
 rw [List.idxOf_append, if_neg n1, List.idxOf_append, if_neg n2]
 have n5 : (y == x) = false := beq_eq_false_iff_ne.2 n4
 simp [List.idxOf_cons, n5]
 }
 }
 {
 rw [hout x hx] at h0 ⊢
 have hd := h.dep x h0
 simp only [if_neg hx]
 by_cases hm : par x ∈ L
 {
 simp only [if_pos hm]
 have := List.idxOf_lt_length_of_mem (List.mem_reverse.2 hm)
 rw [List.length_reverse] at this; omega
 }
 · simp only [if_neg hm]; omega
 }
 }
 {
 show (if rt x = rt i then i else rt x) = x
 by_cases hx : x ∈ L
 {
 rw [if_pos (hrtL x hx)]
 rcases ch_split hc' (List.mem_reverse.2 hx) with ⟨B, e, _⟩ | ⟨A, B, e⟩
 · rw [hrev] at e; exact (List.cons.inj e).1
 {
 exfalso
 have : par' x ∈ L := by rw [← List.mem_reverse, e]; simp
 exact hz _ this h0
 }
 }
 {
 rw [hout x hx] at h0
 rw [if_neg (fun e => hx (hroot x h0 e)), h.rt0 x h0]
 }
 }
 {
 show (if rt x = rt i then i else rt x) = if rt (par' x) = rt i then i else rt (par' x)
 by_cases hx : x ∈ L
 · rw [if_pos (hrtL x hx), if_pos (hrtL _ (turn2 x hx h0).1)]
 {
 rw [hout x hx] at h0 ⊢
 rw [h.rt1 x h0]
 }
 }
 {
 intro x y
 constructor
 {
 rintro ⟨hx, hy, e⟩
 refine ⟨hx, hy, ?_⟩
 have key : ∀ x y, y ≠ 0 → par' x = y → par x = y ∨ par y = x := by {
 intro x y hy e
 by_cases hxL : x ∈ L
 · right; have := (turn2 x hxL (by rw [e]; exact hy)).2; rwa [e] at this
 · left; rw [← hout x hxL]; exact e
 }
 rcases e with e | e
 · exact key x y hy e
 · exact (key y x hx e).symm
 }
 {
 rintro ⟨hx, hy, e⟩
 refine ⟨hx, hy, ?_⟩
 have key : ∀ x y, y ≠ 0 → par x = y → par' x = y ∨ par' y = x := by {
 intro x y hy e
 by_cases hxL : x ∈ L
 · right; have := (turn1 x hxL (by rw [e]; exact hy)).2; rwa [e] at this
 · left; rw [hout x hxL]; exact e
 }
 rcases e with e | e
 · exact key x y hy e
 · exact (key y x hx e).symm
 }
 }
 {
 intro x y
 show (if rt x = rt i then i else rt x) = (if rt y = rt i then i else rt y) ↔ _
 have hne : ∀ z, rt z ≠ rt i → i ≠ rt z := by {
 rintro z hz rfl
 exact hz (h.idem z).symm
 }
 by_cases h1 : rt x = rt i
 {
 by_cases h2 : rt y = rt i
 · rw [if_pos h1, if_pos h2, h1, h2]; simp
 {
 rw [if_pos h1, if_neg h2, h1]
 exact ⟨fun e => absurd e (hne y h2), fun e => absurd e.symm h2⟩
 }
 }
 {
 by_cases h2 : rt y = rt i
 {
 rw [if_neg h1, if_pos h2, h2]
 exact ⟨fun e => absurd e.symm (hne x h1), fun e => absurd e h1⟩
 }
 · rw [if_neg h1, if_neg h2]
 }
 }
end Go.Proofs.YtgmnemndjjmgkaaGreat
