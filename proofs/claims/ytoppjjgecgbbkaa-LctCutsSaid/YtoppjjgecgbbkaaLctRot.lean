/- lct: rotation of a tree in its frames. -/
import Derived.Test.YtoppjjgecgbbkaaLctZip
namespace Go.Proofs.Ytoppjjgecgbbkaa
open Go.RowKit

def cnodes : List Fm → List Nat
  | [] => []
  | a :: c => a.p :: a.o.nodes ++ cnodes c
/-- The pointer upwards of a root leads to none, or to a node that has no kid in this tree. -/
def Out (σ : Tbl) (u : Nat) (ns : List Nat) : Prop := u = 0 ∨ (u ∉ ns ∧ (σ u).k0 ∉ ns ∧ (σ u).k1 ∉ ns)

theorem sd_lt (b : Bool) : sd b < 2 := by cases b <;> decide
theorem sd_not (b : Bool) : sd (!b) = 1 - sd b := by cases b <;> rfl

theorem sideOf_frame {σ : Tbl} {i p o : Nat} {s : Bool} (_hi : i ≠ 0) (hp : p ≠ 0) (hup : (σ i).up = p) (h1 : kid (σ p) (sd s) = i) (h2 : kid (σ p) (sd !s) = o) (ho : o ≠ i) : sideOf σ i = (sd s, true) := by
  unfold sideOf
  rw [hup, if_neg hp]
  cases s with
  | false => simp only [sd, kid] at h1; rw [if_pos (by simpa using h1)]; rfl
  | true =>
    simp [sd, kid] at h1 h2
    rw [if_neg (by rw [h2]; exact ho), if_pos h1]; rfl
theorem sideOf_out {σ : Tbl} {i u : Nat} {ns : List Nat} (hup : (σ i).up = u) (h : Out σ u ns) (hi : i ∈ ns) : sideOf σ i = (0, false) := by
  unfold sideOf
  rw [hup]
  rcases h with h | ⟨_, h0, h1⟩
  · rw [if_pos h]
  · by_cases e : u = 0
    · rw [if_pos e]
    · rw [if_neg e, if_neg (by rintro rfl; exact h0 hi), if_neg (by rintro rfl; exact h1 hi)]

/-- The tree that a rotation makes of a focus and its frame. -/
def rotT (a : Fm) (l : BT) (i : Nat) (r : BT) : BT := if a.s then .node false (.node false a.o a.p l) i r else .node false l i (.node false r a.p a.o)
theorem rotT_seq (a : Fm) (hf : a.f = false) (l : BT) (i : Nat) (r : BT) : (rotT a l i r).seq = (a.fill (.node false l i r)).seq := by
  obtain ⟨s, f, p, o⟩ := a
  subst hf
  cases s <;> simp [rotT, Fm.fill, BT.seq]
theorem rotT_nodes (a : Fm) (l : BT) (i : Nat) (r : BT) : (rotT a l i r).nodes = (a.fill (.node false l i r)).nodes := by
  obtain ⟨s, f, p, o⟩ := a
  cases s <;> simp [rotT, Fm.fill, BT.nodes]
theorem plug_seq : ∀ (c : List Fm) {t t' : BT}, t.seq = t'.seq → (plug c t).seq = (plug c t').seq
  | [], _, _, h => h
  | a :: c, t, t', h => plug_seq c (by unfold Fm.fill; split <;> simp [BT.seq, h])
theorem plug_nodes : ∀ (c : List Fm) (t : BT), (plug c t).nodes.Perm (t.nodes ++ cnodes c)
  | [], t => by simp [plug, cnodes]
  | a :: c, t => by
    refine (plug_nodes c (a.fill t)).trans ?_
    simp only [cnodes]
    have := (fill_perm a t).append_right (cnodes c)
    simpa using this


theorem Rep.ne0 {σ : Tbl} : ∀ {t : BT} {u x : Nat}, Rep σ t u → x ∈ t.nodes → x ≠ 0
  | .nil, _, _, _, hx => by cases hx
  | .node f l v r, u, x, ⟨h1, hl, hr, _⟩, hx => by
    simp only [BT.nodes, List.mem_append, List.mem_cons] at hx
    rcases hx with hx | rfl | hx
    · exact hl.ne0 hx
    · exact h1.1
    · exact hr.ne0 hx

theorem RepC.congr {σ σ' : Tbl} : ∀ {c : List Fm} {x : Nat} {ns : List Nat} {u : Nat}, (∀ y ∈ cnodes c, σ' y = σ y) → (∀ y ∈ ns, (σ' y).light = (σ y).light ∧ (σ' y).key = (σ y).key) → RepC σ c x ns u → RepC σ' c x ns u
  | [], _, _, _, _, _, _ => trivial
  | a :: c, x, ns, u, hc, hn, ⟨h1, h2, ⟨h3, h4, h5⟩, h6⟩ => by
    have hp : σ' a.p = σ a.p := hc a.p (by simp [cnodes])
    have ho : ∀ y ∈ a.o.nodes, σ' y = σ y := fun y hy => hc y (by simp [cnodes, hy])
    have hlk : ∀ y ∈ ns ++ a.p :: a.o.nodes, (σ' y).light = (σ y).light ∧ (σ' y).key = (σ y).key := by
      intro y hy
      simp only [List.mem_append, List.mem_cons] at hy
      rcases hy with hy | rfl | hy
      · exact hn y hy
      · rw [hp]; exact ⟨rfl, rfl⟩
      · rw [ho y hy]; exact ⟨rfl, rfl⟩
    refine ⟨by rw [hp]; exact h1, h2.congr ho, ⟨by rw [hp]; exact h3, by rw [hp, tot_congr (fun y hy => (hlk y hy).1)]; exact h4, by rw [hp]; exact best_congr (fun y hy => (hlk y hy).2) h5⟩, ?_⟩
    exact h6.congr (fun y hy => hc y (by simp [cnodes, hy])) hlk

/-- The hole gets another root. -/
theorem RepC.move {σ σ' : Tbl} {a : Fm} {c : List Fm} {x x' : Nat} {ns : List Nat} {u : Nat} (h : RepC σ (a :: c) x ns u) (hp : σ' a.p = setKid (σ a.p) (sd a.s) x') (hn : ∀ y ∈ ns, (σ' y).light = (σ y).light ∧ (σ' y).key = (σ y).key)
    (ho : ∀ y ∈ a.o.nodes ++ cnodes c, σ' y = σ y) : RepC σ' (a :: c) x' ns u := by
  obtain ⟨⟨h1, h1a, h1b, h1c, h1d⟩, h2, ⟨h3, h4, h5⟩, h6⟩ := h
  have hr := setKid_rest (σ a.p) (sd a.s) x'
  have hlk : ∀ y ∈ ns ++ a.p :: a.o.nodes, (σ' y).light = (σ y).light ∧ (σ' y).key = (σ y).key := by
    intro y hy
    simp only [List.mem_append, List.mem_cons] at hy
    rcases hy with hy | rfl | hy
    · exact hn y hy
    · rw [hp]; exact ⟨hr.2.2.2.2.2.1, hr.2.2.1⟩
    · rw [ho y (by simp [hy])]; exact ⟨rfl, rfl⟩
  refine ⟨⟨h1, by rw [hp, hr.1]; exact h1a, by rw [hp, hr.2.1]; exact h1b, by rw [hp, kid_setKid], ?_⟩, h2.congr (fun y hy => ho y (by simp [hy])), ⟨by rw [hp, hr.2.2.2.1]; exact h3, ?_, ?_⟩, ?_⟩
  · rw [hp, kid_setKid_ne (sd_lt _) (sd_lt _) (by cases a.s <;> decide)]; exact h1d
  · rw [hp, hr.2.2.2.2.2.2, tot_congr (fun y hy => (hlk y hy).1)]; exact h4
  · rw [hp, hr.2.2.2.2.1]; exact best_congr (fun y hy => (hlk y hy).2) h5
  · exact h6.congr (fun y hy => ho y (by simp [hy])) hlk

/-- What a rotation changes, and what it makes. -/
structure Rotated (σ σ' : Tbl) (ns : List Nat) : Prop where
  other : ∀ x, x ∉ ns → σ' x = σ x
  lk : ∀ x, (σ' x).light = (σ x).light ∧ (σ' x).key = (σ x).key

theorem rotate_rep {σ : Tbl} {a : Fm} {c : List Fm} {l r : BT} {i u : Nat} (h : Rep σ (plug (a :: c) (.node false l i r)) u) (haf : a.f = false) (hnd : (plug (a :: c) (.node false l i r)).nodes.Nodup)
    (hO : Out σ u (plug (a :: c) (.node false l i r)).nodes) :
    Rep (rotate σ i) (plug c (rotT a l i r)) u ∧ Rotated σ (rotate σ i) (plug (a :: c) (.node false l i r)).nodes ∧
      ((rot3 σ i (σ i).up).k0 ≠ (σ i).up ∧ (rot3 σ i (σ i).up).k1 ≠ (σ i).up ∧ (rot3 σ i i).k0 ≠ i ∧ (rot3 σ i i).k1 ≠ i) := by
  have hpm := plug_nodes (a :: c) (.node false l i r)
  have hnd' := hpm.nodup_iff.1 hnd
  have hmem : ∀ x, x ∈ (plug (a :: c) (.node false l i r)).nodes ↔ x ∈ (BT.node false l i r).nodes ++ cnodes (a :: c) := fun x => hpm.mem_iff
  have hall0 : ∀ x, x ∈ (plug (a :: c) (.node false l i r)).nodes → x ≠ 0 := fun x hx => h.ne0 hx
  obtain ⟨hT, hC⟩ := rep_plug.1 h
  generalize hNS : (plug (a :: c) (BT.node false l i r)).nodes = NS at *
  obtain ⟨s, f, p, o⟩ := a
  dsimp only at haf; subst haf
  obtain ⟨⟨hi0, hiu, hif, hik0, hik1⟩, hl, hr, _⟩ := hT
  obtain ⟨⟨hp0, hpu, hpf, hpk, hpo⟩, hRo, _, hC'⟩ := id hC
  simp only [upOf] at hiu hl hr
  dsimp only at hp0 hpu hpf hpk hpo hRo hC'
  replace hpk : kid (σ p) (sd s) = i := hpk
  simp only [cnodes, BT.nodes, List.nodup_append, List.nodup_cons, List.mem_append, List.mem_cons, List.cons_append, List.append_assoc] at hnd' hmem
  have dil : i ∉ l.nodes := by grind
  have dir : i ∉ r.nodes := by grind
  have dio : i ∉ o.nodes := by grind
  have dic : i ∉ cnodes c := by grind
  have dpi : p ≠ i := by grind
  have dpl : p ∉ l.nodes := by grind
  have dpr : p ∉ r.nodes := by grind
  have dpo : p ∉ o.nodes := by grind
  have dpc : p ∉ cnodes c := by grind
  have ndl : l.nodes.Nodup := by grind
  have ndr : r.nodes.Nodup := by grind
  have dlr : ∀ x ∈ l.nodes, x ∉ r.nodes := by grind
  have dlo : ∀ x ∈ l.nodes, x ∉ o.nodes := by grind
  have dro : ∀ x ∈ r.nodes, x ∉ o.nodes := by grind
  have dlc : ∀ x ∈ l.nodes, x ∉ cnodes c := by grind
  have drc : ∀ x ∈ r.nodes, x ∉ cnodes c := by grind
  have doc : ∀ x ∈ o.nodes, x ∉ cnodes c := by grind
  have h1 : sideOf σ i = (sd s, true) := by
    refine sideOf_frame hi0 hp0 hiu hpk hpo ?_
    intro e
    by_cases h0 : o.root = 0
    · exact hi0 (e.symm.trans h0)
    · exact dio (e ▸ BT.root_mem h0)
  -- the inner subtree
  obtain ⟨m, hm, hmn, hmr⟩ : ∃ m : BT, m = (if s then l else r) ∧ (∀ x ∈ m.nodes, x ∈ l.nodes ∨ x ∈ r.nodes) ∧ kid (σ i) (1 - sd s) = m.root := by
    cases s with
    | false => exact ⟨r, rfl, fun x hx => .inr hx, by simpa [sd, kid] using hik1⟩
    | true => exact ⟨l, rfl, fun x hx => .inl hx, by simpa [sd, kid] using hik0⟩
  have hRm : Rep σ m i := by rw [hm]; split <;> assumption
  have ndm : m.nodes.Nodup := by rw [hm]; split <;> assumption
  have hki : kid (σ i) (1 - sd s) ≠ i := by
    rw [hmr]; intro e
    have := hmn _ (BT.root_mem (by rw [e]; exact hi0)); rw [e] at this
    exact this.elim dil dir
  have hkp : kid (σ i) (1 - sd s) ≠ p := by
    rw [hmr]; intro e
    have := hmn _ (BT.root_mem (by rw [e]; exact hp0)); rw [e] at this
    exact this.elim dpl dpr
  -- what a rotation changes
  have key : (∀ x, x ≠ i → x ≠ p → (x ≠ m.root ∨ m.root = 0) → (c = [] ∨ x ≠ upOf c u) → rot3 σ i x = σ x) ∧ rot3 σ i i = { setKid (σ i) (1 - sd s) p with up := upOf c u } ∧ rot3 σ i p = { setKid (σ p) (sd s) m.root with up := i } ∧
      (m.root ≠ 0 → rot3 σ i m.root = { σ m.root with up := p }) ∧ (∀ b c', c = b :: c' → rot3 σ i b.p = setKid (σ b.p) (sd b.s) i) := by
    cases c with
    | nil =>
      have h2 : sideOf σ p = (0, false) := sideOf_out (ns := NS) (by rw [hpu]; rfl) hO ((hmem p).2 (by simp))
      have hx := rot3_top (sd_lt s) hiu (by rw [hpu]) h1 h2 dpi hi0 hp0 hki hkp
      rw [hmr] at hx hki hkp
      refine ⟨fun x e1 e2 e3 _ => ?_, ?_, ?_, fun hm0 => ?_, fun b c' e => by cases e⟩
      · rw [hx, if_neg e1, if_neg e2, if_neg (fun h => e3.elim (fun e => e h.1) h.2)]
      · rw [hx, if_pos rfl]
      · rw [hx, if_neg dpi, if_pos rfl]
      · rw [hx, if_neg hki, if_neg hkp, if_pos ⟨rfl, hm0⟩]
    | cons b c' =>
      obtain ⟨⟨hb0, hbu, hbf, hbk, hbo⟩, hRb, _, _⟩ := hC'
      simp only [upOf] at hpu
      have hbc : b.p ∈ cnodes (b :: c') := by simp [cnodes]
      have dbi : b.p ≠ i := fun e => dic (e ▸ hbc)
      have dbp : b.p ≠ p := fun e => dpc (e ▸ hbc)
      have h2 : sideOf σ p = (sd b.s, true) := by
        refine sideOf_frame hp0 hb0 hpu hbk hbo ?_
        intro e
        by_cases h0 : b.o.root = 0
        · exact hp0 (e.symm.trans h0)
        · exact dpc (by simp only [cnodes, List.cons_append, List.mem_cons, List.mem_append]; exact .inr (.inl (e ▸ BT.root_mem h0)))
      have hkg : kid (σ i) (1 - sd s) ≠ b.p ∨ kid (σ i) (1 - sd s) = 0 := by
        rw [hmr]
        by_cases h0 : m.root = 0
        · exact .inr h0
        · refine .inl (fun e => ?_)
          have := hmn _ (BT.root_mem h0); rw [e] at this
          exact this.elim (fun h => dlc _ h hbc) (fun h => drc _ h hbc)
      have hx := rot3_in (sd_lt s) hiu hpu h1 h2 dpi dbi dbp hi0 hp0 hki hkp hkg
      rw [hmr] at hx hki hkp hkg
      refine ⟨fun x e1 e2 e3 e4 => ?_, ?_, ?_, fun hm0 => ?_, fun b' c'' e => ?_⟩
      · rw [hx, if_neg e1, if_neg e2, if_neg (show x ≠ b.p from e4.elim (fun h => by cases h) id), if_neg (fun h => e3.elim (fun e => e h.1) h.2)]
      · rw [hx, if_pos rfl]; rfl
      · rw [hx, if_neg dpi, if_pos rfl]
      · rw [hx, if_neg hki, if_neg hkp, if_neg (hkg.elim id (fun h => absurd h hm0)), if_pos ⟨rfl, hm0⟩]
      · cases e; rw [hx, if_neg dbi, if_neg dbp, if_pos rfl]
  obtain ⟨k1, k2, k3, k4, k5⟩ := key
  have hupc : c = [] ∨ upOf c u ∈ cnodes c := by cases c with
    | nil => exact .inl rfl
    | cons b c' => right; simp [upOf, cnodes]
  have dmi : ∀ x ∈ m.nodes, x ≠ i := fun x hx e => (hmn x hx).elim (fun h => dil (e ▸ h)) (fun h => dir (e ▸ h))
  have dmp : ∀ x ∈ m.nodes, x ≠ p := fun x hx e => (hmn x hx).elim (fun h => dpl (e ▸ h)) (fun h => dpr (e ▸ h))
  have dmc : ∀ x ∈ m.nodes, c = [] ∨ x ≠ upOf c u := fun x hx => hupc.imp id (fun hc e => (hmn x hx).elim (fun h => dlc _ h (e ▸ hc)) (fun h => drc _ h (e ▸ hc)))
  have hRm3 : Rep (rot3 σ i) m p := hRm.reup ndm (fun x hx hne => k1 x (dmi x hx) (dmp x hx) (.inl hne) (dmc x hx)) k4
  have hRo3 : Rep (rot3 σ i) o p := hRo.congr (fun x hx => k1 x (fun e => dio (e ▸ hx)) (fun e => dpo (e ▸ hx)) (.inl (fun e => by
    have h0 : m.root ≠ 0 := by rw [← e]; exact hRo.ne0 hx
    exact (hmn _ (BT.root_mem h0)).elim (fun h => dlo _ h (e ▸ hx)) (fun h => dro _ h (e ▸ hx)))) (hupc.imp id (fun hc e => doc x hx (e ▸ hc))))
  -- the parent is refreshed
  have hsr := setKid_rest (σ p) (sd s) m.root
  have hsi := setKid_rest (σ i) (1 - sd s) p
  have nmp : p ∉ m.nodes := fun hx => dmp p hx rfl
  have hP : Rep (refresh (rot3 σ i) p) (if s then .node false o p m else .node false m p o) i := by
    have hk : kid (rot3 σ i p) (sd s) = m.root ∧ kid (rot3 σ i p) (sd !s) = o.root := by
      rw [k3]
      refine ⟨kid_setKid _ _ _, ?_⟩
      show kid (setKid _ _ _) _ = _
      rw [kid_setKid_ne (sd_lt _) (sd_lt _) (by cases s <;> decide)]; exact hpo
    cases s with
    | false => exact refresh_rep hp0 (by rw [k3]) (by rw [k3]; exact hsr.2.1.trans hpf) (by simpa [sd, kid] using hk.1) (by simpa [sd, kid] using hk.2) hRm3 hRo3 nmp dpo
    | true => exact refresh_rep hp0 (by rw [k3]) (by rw [k3]; exact hsr.2.1.trans hpf) (by simpa [sd, kid] using hk.2) (by simpa [sd, kid] using hk.1) hRo3 hRm3 dpo nmp
  have r2 : ∀ x, x ≠ p → refresh (rot3 σ i) p x = rot3 σ i x := fun x hx => refresh_other hx
  have hI : ∀ (e : BT), Rep σ e i → (∀ x ∈ e.nodes, x ∉ m.nodes ∧ x ≠ i ∧ x ≠ p ∧ x ∉ cnodes c) → Rep (refresh (rot3 σ i) p) e i := by
    intro e he hd
    refine he.congr (fun x hx => ?_)
    obtain ⟨d1, d2, d3, d4⟩ := hd x hx
    rw [r2 x d3]
    refine k1 x d2 d3 (.inl (fun e' => ?_)) (hupc.imp id (fun hc e' => d4 (e' ▸ hc)))
    exact d1 (e' ▸ BT.root_mem (by rw [← e']; exact he.ne0 hx))
  have hT2 : Rep (rotate σ i) (rotT ⟨s, false, p, o⟩ l i r) (upOf c u) := by
    unfold rotate
    rw [hiu]
    have hi3 : refresh (rot3 σ i) p i = { setKid (σ i) (1 - sd s) p with up := upOf c u } := by rw [r2 i dpi.symm, k2]
    cases s with
    | false =>
      simp only [Bool.false_eq_true, if_false] at hP hm
      subst hm
      refine refresh_rep hi0 (by rw [hi3]) (by rw [hi3]; exact hsi.2.1.trans hif) (by rw [hi3]; simpa [setKid, sd] using hik0) (by rw [hi3]; simp [setKid, sd, BT.root]) (hI l hl (fun x hx => ⟨dlr x hx, fun e => dil (e ▸ hx), fun e => dpl (e ▸ hx), dlc x hx⟩)) hP dil ?_
      simp only [BT.nodes, List.mem_append, List.mem_cons, not_or]; exact ⟨dir, dpi.symm, dio⟩
    | true =>
      simp only [if_true] at hP hm
      subst hm
      refine refresh_rep hi0 (by rw [hi3]) (by rw [hi3]; exact hsi.2.1.trans hif) (by rw [hi3]; simp [setKid, sd, BT.root]) (by rw [hi3]; simpa [setKid, sd] using hik1) hP (hI r hr (fun x hx => ⟨fun h => dlr x h hx, fun e => dir (e ▸ hx), fun e => dpr (e ▸ hx), drc x hx⟩)) ?_ dir
      simp only [BT.nodes, List.mem_append, List.mem_cons, not_or]; exact ⟨dio, dpi.symm, dil⟩
  have hR : ∀ x, x ≠ i → x ≠ p → rotate σ i x = rot3 σ i x := by
    intro x e1 e2
    unfold rotate; rw [refresh_other e1, hiu, refresh_other e2]
  have hlk3 : ∀ x, (rot3 σ i x).light = (σ x).light ∧ (rot3 σ i x).key = (σ x).key := by
    intro x
    by_cases e1 : x = i
    · subst e1; rw [k2]; exact ⟨hsi.2.2.2.2.2.1, hsi.2.2.1⟩
    by_cases e2 : x = p
    · subst e2; rw [k3]; exact ⟨hsr.2.2.2.2.2.1, hsr.2.2.1⟩
    by_cases e3 : c = [] ∨ x ≠ upOf c u
    · by_cases e4 : x ≠ m.root ∨ m.root = 0
      · rw [k1 x e1 e2 e4 e3]; exact ⟨rfl, rfl⟩
      · simp only [not_or, ne_eq, Classical.not_not] at e4
        rw [e4.1, k4 e4.2]; exact ⟨rfl, rfl⟩
    · cases c with
      | nil => exact absurd (.inl rfl) e3
      | cons b c' =>
        have e4 : x = b.p := by
          apply Classical.byContradiction; intro hne; exact e3 (.inr hne)
        rw [e4, k5 b c' rfl]
        have := setKid_rest (σ b.p) (sd b.s) i
        exact ⟨this.2.2.2.2.2.1, this.2.2.1⟩
  have hlk : ∀ x, (rotate σ i x).light = (σ x).light ∧ (rotate σ i x).key = (σ x).key := by
    intro x
    unfold rotate
    have a := @refresh_links (refresh (rot3 σ i) (σ i).up) i x
    have b := @refresh_links (rot3 σ i) (σ i).up x
    exact ⟨a.2.2.2.2.2.trans (b.2.2.2.2.2.trans (hlk3 x).1), a.2.2.2.2.1.trans (b.2.2.2.2.1.trans (hlk3 x).2)⟩
  refine ⟨rep_plug.2 ⟨hT2, ?_⟩, ⟨fun x hx => ?_, hlk⟩, ?_⟩
  · rw [rotT_nodes, show (rotT ⟨s, false, p, o⟩ l i r).root = i by unfold rotT; split <;> rfl]
    have hC2 : RepC σ c p (Fm.fill ⟨s, false, p, o⟩ (.node false l i r)).nodes u := hC'.perm (fill_perm ⟨s, false, p, o⟩ (.node false l i r)).symm
    cases c with
    | nil => trivial
    | cons b c' =>
      have hbc : b.p ∈ cnodes (b :: c') := by simp [cnodes]
      refine hC2.move ?_ (fun y _ => hlk y) (fun y hy => ?_)
      · rw [hR _ (fun e => dic (e ▸ hbc)) (fun e => dpc (e ▸ hbc)), k5 b c' rfl]
      · have hyc : y ∈ cnodes (b :: c') := by simp only [cnodes, List.cons_append, List.mem_cons]; exact .inr hy
        have hbn : y ≠ b.p := by
          have : b.p ∉ b.o.nodes ++ cnodes c' := by
            have := hnd'.2.1
            simp only [cnodes, List.cons_append, List.nodup_append, List.nodup_cons, List.mem_append] at this
            simp only [List.mem_append]; grind
          exact fun e => this (e ▸ hy)
        have e1 : y ≠ i := fun e => dic (e ▸ hyc)
        have e2 : y ≠ p := fun e => dpc (e ▸ hyc)
        rw [hR y e1 e2]
        refine k1 y e1 e2 ?_ (.inr hbn)
        by_cases h0 : m.root = 0
        · exact .inr h0
        · exact .inl (fun e => (hmn _ (BT.root_mem h0)).elim (fun h => dlc _ h (e ▸ hyc)) (fun h => drc _ h (e ▸ hyc)))
  · have hx' : ¬ (x ∈ l.nodes ∨ x = i ∨ x ∈ r.nodes ∨ x = p ∨ x ∈ o.nodes ∨ x ∈ cnodes c) := fun h => hx ((hmem x).2 (by grind))
    simp only [not_or] at hx'
    obtain ⟨e1, e2, e3, e4, e5, e6⟩ := hx'
    rw [hR x e2 e4]
    refine k1 x e2 e4 ?_ (hupc.imp id (fun hc e => e6 (e ▸ hc)))
    by_cases h00 : m.root = 0
    · exact .inr h00
    · exact .inl (fun h0 => (hmn _ (BT.root_mem h00)).elim (fun h => e1 (h0 ▸ h)) (fun h => e3 (h0 ▸ h)))
  · rw [hiu, k3, k2]
    refine ⟨?_, ?_, ?_, ?_⟩
    · cases s with
      | false => simp only [setKid, sd, Bool.false_eq_true, if_false, if_true]; rw [← hmr]; exact hkp
      | true =>
        simp [sd, kid] at hpo
        simp [setKid, sd]; rw [hpo]
        intro e; exact dpo (e ▸ BT.root_mem (by rw [e]; exact hp0))
    · cases s with
      | false =>
        simp [sd, kid] at hpo
        simp [setKid, sd]; rw [hpo]
        intro e; exact dpo (e ▸ BT.root_mem (by rw [e]; exact hp0))
      | true => simp [setKid, sd]; rw [← hmr]; exact hkp
    · cases s with
      | false =>
        simp [setKid, sd]; rw [hik0]
        intro e; exact dil (e ▸ BT.root_mem (by rw [e]; exact hi0))
      | true => simp [setKid, sd]; exact dpi
    · cases s with
      | false => simp [setKid, sd]; exact dpi
      | true =>
        simp [setKid, sd]; rw [hik1]
        intro e; exact dir (e ▸ BT.root_mem (by rw [e]; exact hi0))

end Go.Proofs.Ytoppjjgecgbbkaa
