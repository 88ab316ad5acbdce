/- lct: the forest as a list of splay trees, each with the vertex above its path. -/
import Derived.Test.YtgmnemndjjmgkaaGreatB10
set_option linter.unusedSimpArgs false
set_option linter.unusedVariables false
/- lct: rotation of a tree in its frames. -/
namespace Go.Proofs.YtgmnemndjjmgkaaGreat
open Go.RowKit
def cnodes : List Fm → List Nat
  | [] => []
  | a :: c => a.p :: a.o.nodes ++ cnodes c
def Out (σ : Tbl) (u : Nat) (ns : List Nat) : Prop := u = 0 ∨ (u ∉ ns ∧ (σ u).k0 ∉ ns ∧ (σ u).k1 ∉ ns)
theorem sd_lt (b : Bool) : sd b < 2 := by cases b <;> decide
theorem sideOf_frame {σ : Tbl} {i p o : Nat} {s : Bool} (_hi : i ≠ 0) (hp : p ≠ 0) (hup : (σ i).up = p) (h1 : kid (σ p) (sd s) = i) (h2 : kid (σ p) (sd !s) = o) (ho : o ≠ i) : sideOf σ i = (sd s, true) := by
 unfold sideOf
 rw [hup, if_neg hp]
 cases s with
 | false => simp only [sd, kid] at h1; rw [if_pos (by simpa using h1)]; rfl
 | true => {
 simp [sd, kid] at h1 h2
 rw [if_neg (by rw [h2]; exact ho), if_pos h1]; rfl
 }
theorem sideOf_out {σ : Tbl} {i u : Nat} {ns : List Nat} (hup : (σ i).up = u) (h : Out σ u ns) (hi : i ∈ ns) : sideOf σ i = (0, false) := by
 unfold sideOf
 rw [hup]
 rcases h with h | ⟨_, h0, h1⟩
 · rw [if_pos h]
 {
 by_cases e : u = 0
 · rw [if_pos e]
 · rw [if_neg e, if_neg (by rintro rfl; exact h0 hi), if_neg (by rintro rfl; exact h1 hi)]
 }
def rotT (a : Fm) (l : BT) (i : Nat) (r : BT) : BT := if a.s then .node false (.node false a.o a.p l) i r else .node false l i (.node false r a.p a.o)
theorem rotT_seq (a : Fm) (hf : a.f = false) (l : BT) (i : Nat) (r : BT) : (rotT a l i r).seq = (a.fill (.node false l i r)).seq := by
 obtain ⟨s, f, p, o⟩ := a
 subst hf
 cases s <;> simp [rotT, Fm.fill, BT.seq]
theorem rotT_nodes (a : Fm) (l : BT) (i : Nat) (r : BT) : (rotT a l i r).nodes = (a.fill (.node false l i r)).nodes := by
 obtain ⟨s, f, p, o⟩ := a
 cases s <;> simp [rotT, Fm.fill, BT.nodes]
theorem plug_seq : ∀ (c : List Fm) {t t' : BT}, t.seq = t'.seq → (plug c t).seq = (plug c t').seq
  | [], _, _, h => h
  | a :: c, t, t', h => plug_seq c (by unfold Fm.fill; split <;> simp [BT.seq, h])
theorem plug_nodes : ∀ (c : List Fm) (t : BT), (plug c t).nodes.Perm (t.nodes ++ cnodes c)
  | [], t => by simp [plug, cnodes]
  | a :: c, t => by
    refine (plug_nodes c (a.fill t)).trans ?_
    simp only [cnodes]
    have := (fill_perm a t).append_right (cnodes c)
    simpa using this
theorem Rep.ne0 {σ : Tbl} : ∀ {t : BT} {u x : Nat}, Rep σ t u → x ∈ t.nodes → x ≠ 0
  | .nil, _, _, _, hx => by cases hx
  | .node f l v r, u, x, ⟨h1, hl, hr, _⟩, hx => by
    simp only [BT.nodes, List.mem_append, List.mem_cons] at hx
    rcases hx with hx | rfl | hx
    · exact hl.ne0 hx
    · exact h1.1
    · exact hr.ne0 hx
theorem RepC.congr {σ σ' : Tbl} : ∀ {c : List Fm} {x : Nat} {ns : List Nat} {u : Nat}, (∀ y ∈ cnodes c, σ' y = σ y) → (∀ y ∈ ns, (σ' y).light = (σ y).light ∧ (σ' y).key = (σ y).key) → RepC σ c x ns u → RepC σ' c x ns u
  | [], _, _, _, _, _, _ => trivial
  | a :: c, x, ns, u, hc, hn, ⟨h1, h2, ⟨h3, h4, h5⟩, h6⟩ => by
    have hp : σ' a.p = σ a.p := hc a.p (by simp [cnodes])
    have ho : ∀ y ∈ a.o.nodes, σ' y = σ y := fun y hy => hc y (by simp [cnodes, hy])
    have hlk : ∀ y ∈ ns ++ a.p :: a.o.nodes, (σ' y).light = (σ y).light ∧ (σ' y).key = (σ y).key := by
      intro y hy
      simp only [List.mem_append, List.mem_cons] at hy
      rcases hy with hy | rfl | hy
      · exact hn y hy
      · rw [hp]; exact ⟨rfl, rfl⟩
      · rw [ho y hy]; exact ⟨rfl, rfl⟩
    refine ⟨by rw [hp]; exact h1, h2.congr ho, ⟨by rw [hp]; exact h3, by rw [hp, tot_congr (fun y hy => (hlk y hy).1)]; exact h4, by rw [hp]; exact best_congr (fun y hy => (hlk y hy).2) h5⟩, ?_⟩
    exact h6.congr (fun y hy => hc y (by simp [cnodes, hy])) hlk
theorem RepC.move {σ σ' : Tbl} {a : Fm} {c : List Fm} {x x' : Nat} {ns : List Nat} {u : Nat} (h : RepC σ (a :: c) x ns u) (hp : σ' a.p = setKid (σ a.p) (sd a.s) x') (hn : ∀ y ∈ ns, (σ' y).light = (σ y).light ∧ (σ' y).key = (σ y).key)
    (ho : ∀ y ∈ a.o.nodes ++ cnodes c, σ' y = σ y) : RepC σ' (a :: c) x' ns u := by
 obtain ⟨⟨h1, h1a, h1b, h1c, h1d⟩, h2, ⟨h3, h4, h5⟩, h6⟩ := h
 have hr := setKid_rest (σ a.p) (sd a.s) x'
 have hlk : ∀ y ∈ ns ++ a.p :: a.o.nodes, (σ' y).light = (σ y).light ∧ (σ' y).key = (σ y).key := by {
 intro y hy
 simp only [List.mem_append, List.mem_cons] at hy
 rcases hy with hy | rfl | hy
 · exact hn y hy
 · rw [hp]; exact ⟨hr.2.2.2.2.2.1, hr.2.2.1⟩
 · rw [ho y (by simp [hy])]; exact ⟨rfl, rfl⟩
 }
 refine ⟨⟨h1, by rw [hp, hr.1]; exact h1a, by rw [hp, hr.2.1]; exact h1b, by rw [hp, kid_setKid], ?_⟩, h2.congr (fun y hy => ho y (by simp [hy])), ⟨by rw [hp, hr.2.2.2.1]; exact h3, ?_, ?_⟩, ?_⟩
 · rw [hp, kid_setKid_ne (sd_lt _) (sd_lt _) (by cases a.s <;> decide)]; exact h1d
 · rw [hp, hr.2.2.2.2.2.2, tot_congr (fun y hy => (hlk y hy).1)]; exact h4
 · rw [hp, hr.2.2.2.2.1]; exact best_congr (fun y hy => (hlk y hy).2) h5
 · exact h6.congr (fun y hy => ho y (by simp [hy])) hlk
structure Rotated (σ σ' : Tbl) (ns : List Nat) : Prop where
  other : ∀ x, x ∉ ns → σ' x = σ x
  lk : ∀ x, (σ' x).light = (σ x).light ∧ (σ' x).key = (σ x).key
theorem rotate_rep {σ : Tbl} {a : Fm} {c : List Fm} {l r : BT} {i u : Nat} (h : Rep σ (plug (a :: c) (.node false l i r)) u) (haf : a.f = false) (hnd : (plug (a :: c) (.node false l i r)).nodes.Nodup)
    (hO : Out σ u (plug (a :: c) (.node false l i r)).nodes) :
    Rep (rotate σ i) (plug c (rotT a l i r)) u ∧ Rotated σ (rotate σ i) (plug (a :: c) (.node false l i r)).nodes ∧
      ((rot3 σ i (σ i).up).k0 ≠ (σ i).up ∧ (rot3 σ i (σ i).up).k1 ≠ (σ i).up ∧ (rot3 σ i i).k0 ≠ i ∧ (rot3 σ i i).k1 ≠ i) := by
  have hpm := plug_nodes (a :: c) (.node false l i r)
  have hnd' := hpm.nodup_iff.1 hnd
  have hmem : ∀ x, x ∈ (plug (a :: c) (.node false l i r)).nodes ↔ x ∈ (BT.node false l i r).nodes ++ cnodes (a :: c) := fun x => hpm.mem_iff
  have hall0 : ∀ x, x ∈ (plug (a :: c) (.node false l i r)).nodes → x ≠ 0 := fun x hx => h.ne0 hx
  obtain ⟨hT, hC⟩ := rep_plug.1 h
  generalize hNS : (plug (a :: c) (BT.node false l i r)).nodes = NS at *
  obtain ⟨s, f, p, o⟩ := a
  dsimp only at haf; subst haf
  obtain ⟨⟨hi0, hiu, hif, hik0, hik1⟩, hl, hr, _⟩ := hT
  obtain ⟨⟨hp0, hpu, hpf, hpk, hpo⟩, hRo, _, hC'⟩ := id hC
  simp only [upOf] at hiu hl hr
  dsimp only at hp0 hpu hpf hpk hpo hRo hC'
  replace hpk : kid (σ p) (sd s) = i := hpk
  simp only [cnodes, BT.nodes, List.nodup_append, List.nodup_cons, List.mem_append, List.mem_cons, List.cons_append, List.append_assoc] at hnd' hmem
  have dil : i ∉ l.nodes := by grind
  have dir : i ∉ r.nodes := by grind
  have dio : i ∉ o.nodes := by grind
  have dic : i ∉ cnodes c := by grind
  have dpi : p ≠ i := by grind
  have dpl : p ∉ l.nodes := by grind
  have dpr : p ∉ r.nodes := by grind
  have dpo : p ∉ o.nodes := by grind
  have dpc : p ∉ cnodes c := by grind
  have ndl : l.nodes.Nodup := by grind
  have ndr : r.nodes.Nodup := by grind
  have dlr : ∀ x ∈ l.nodes, x ∉ r.nodes := by grind
  have dlo : ∀ x ∈ l.nodes, x ∉ o.nodes := by grind
  have dro : ∀ x ∈ r.nodes, x ∉ o.nodes := by grind
  have dlc : ∀ x ∈ l.nodes, x ∉ cnodes c := by grind
  have drc : ∀ x ∈ r.nodes, x ∉ cnodes c := by grind
  have doc : ∀ x ∈ o.nodes, x ∉ cnodes c := by grind
  have h1 : sideOf σ i = (sd s, true) := by
    refine sideOf_frame hi0 hp0 hiu hpk hpo ?_
    intro e
    by_cases h0 : o.root = 0
    · exact hi0 (e.symm.trans h0)
    · exact dio (e ▸ BT.root_mem h0)
  obtain ⟨m, hm, hmn, hmr⟩ : ∃ m : BT, m = (if s then l else r) ∧ (∀ x ∈ m.nodes, x ∈ l.nodes ∨ x ∈ r.nodes) ∧ kid (σ i) (1 - sd s) = m.root := by
    cases s with
    | false => exact ⟨r, rfl, fun x hx => .inr hx, by simpa [sd, kid] using hik1⟩
    | true => exact ⟨l, rfl, fun x hx => .inl hx, by simpa [sd, kid] using hik0⟩
  have hRm : Rep σ m i := by rw [hm]; split <;> assumption
  have ndm : m.nodes.Nodup := by rw [hm]; split <;> assumption
  have hki : kid (σ i) (1 - sd s) ≠ i := by
    rw [hmr]; intro e
    have := hmn _ (BT.root_mem (by rw [e]; exact hi0)); rw [e] at this
    exact this.elim dil dir
  have hkp : kid (σ i) (1 - sd s) ≠ p := by
    rw [hmr]; intro e
    have := hmn _ (BT.root_mem (by rw [e]; exact hp0)); rw [e] at this
    exact this.elim dpl dpr
  have key : (∀ x, x ≠ i → x ≠ p → (x ≠ m.root ∨ m.root = 0) → (c = [] ∨ x ≠ upOf c u) → rot3 σ i x = σ x) ∧ rot3 σ i i = { setKid (σ i) (1 - sd s) p with up := upOf c u } ∧ rot3 σ i p = { setKid (σ p) (sd s) m.root with up := i } ∧
      (m.root ≠ 0 → rot3 σ i m.root = { σ m.root with up := p }) ∧ (∀ b c', c = b :: c' → rot3 σ i b.p = setKid (σ b.p) (sd b.s) i) := by
    cases c with
    | nil =>
      have h2 : sideOf σ p = (0, false) := sideOf_out (ns := NS) (by rw [hpu]; rfl) hO ((hmem p).2 (by simp))
      have hx := rot3_top (sd_lt s) hiu (by rw [hpu]) h1 h2 dpi hi0 hp0 hki hkp
      rw [hmr] at hx hki hkp
      refine ⟨fun x e1 e2 e3 _ => ?_, ?_, ?_, fun hm0 => ?_, fun b c' e => by cases e⟩
      · rw [hx, if_neg e1, if_neg e2, if_neg (fun h => e3.elim (fun e => e h.1) h.2)]
      · rw [hx, if_pos rfl]
      · rw [hx, if_neg dpi, if_pos rfl]
      · rw [hx, if_neg hki, if_neg hkp, if_pos ⟨rfl, hm0⟩]
    | cons b c' =>
      obtain ⟨⟨hb0, hbu, hbf, hbk, hbo⟩, hRb, _, _⟩ := hC'
      simp only [upOf] at hpu
      have hbc : b.p ∈ cnodes (b :: c') := by simp [cnodes]
      have dbi : b.p ≠ i := fun e => dic (e ▸ hbc)
      have dbp : b.p ≠ p := fun e => dpc (e ▸ hbc)
      have h2 : sideOf σ p = (sd b.s, true) := by
        refine sideOf_frame hp0 hb0 hpu hbk hbo ?_
        intro e
        by_cases h0 : b.o.root = 0
        · exact hp0 (e.symm.trans h0)
        · exact dpc (by simp only [cnodes, List.cons_append, List.mem_cons, List.mem_append]; exact .inr (.inl (e ▸ BT.root_mem h0)))
      have hkg : kid (σ i) (1 - sd s) ≠ b.p ∨ kid (σ i) (1 - sd s) = 0 := by
        rw [hmr]
        by_cases h0 : m.root = 0
        · exact .inr h0
        · refine .inl (fun e => ?_)
          have := hmn _ (BT.root_mem h0); rw [e] at this
          exact this.elim (fun h => dlc _ h hbc) (fun h => drc _ h hbc)
      have hx := rot3_in (sd_lt s) hiu hpu h1 h2 dpi dbi dbp hi0 hp0 hki hkp hkg
      rw [hmr] at hx hki hkp hkg
      refine ⟨fun x e1 e2 e3 e4 => ?_, ?_, ?_, fun hm0 => ?_, fun b' c'' e => ?_⟩
      · rw [hx, if_neg e1, if_neg e2, if_neg (show x ≠ b.p from e4.elim (fun h => by cases h) id), if_neg (fun h => e3.elim (fun e => e h.1) h.2)]
      · rw [hx, if_pos rfl]; rfl
      · rw [hx, if_neg dpi, if_pos rfl]
      · rw [hx, if_neg hki, if_neg hkp, if_neg (hkg.elim id (fun h => absurd h hm0)), if_pos ⟨rfl, hm0⟩]
      · cases e; rw [hx, if_neg dbi, if_neg dbp, if_pos rfl]
  obtain ⟨k1, k2, k3, k4, k5⟩ := key
  have hupc : c = [] ∨ upOf c u ∈ cnodes c := by cases c with
    | nil => exact .inl rfl
    | cons b c' => right; simp [upOf, cnodes]
  have dmi : ∀ x ∈ m.nodes, x ≠ i := fun x hx e => (hmn x hx).elim (fun h => dil (e ▸ h)) (fun h => dir (e ▸ h))
  have dmp : ∀ x ∈ m.nodes, x ≠ p := fun x hx e => (hmn x hx).elim (fun h => dpl (e ▸ h)) (fun h => dpr (e ▸ h))
  have dmc : ∀ x ∈ m.nodes, c = [] ∨ x ≠ upOf c u := fun x hx => hupc.imp id (fun hc e => (hmn x hx).elim (fun h => dlc _ h (e ▸ hc)) (fun h => drc _ h (e ▸ hc)))
  have hRm3 : Rep (rot3 σ i) m p := hRm.reup ndm (fun x hx hne => k1 x (dmi x hx) (dmp x hx) (.inl hne) (dmc x hx)) k4
  have hRo3 : Rep (rot3 σ i) o p := hRo.congr (fun x hx => k1 x (fun e => dio (e ▸ hx)) (fun e => dpo (e ▸ hx)) (.inl (fun e => by
    have h0 : m.root ≠ 0 := by rw [← e]; exact hRo.ne0 hx
    exact (hmn _ (BT.root_mem h0)).elim (fun h => dlo _ h (e ▸ hx)) (fun h => dro _ h (e ▸ hx)))) (hupc.imp id (fun hc e => doc x hx (e ▸ hc))))
  have hsr := setKid_rest (σ p) (sd s) m.root
  have hsi := setKid_rest (σ i) (1 - sd s) p
  have nmp : p ∉ m.nodes := fun hx => dmp p hx rfl
  have hP : Rep (refresh (rot3 σ i) p) (if s then .node false o p m else .node false m p o) i := by
    have hk : kid (rot3 σ i p) (sd s) = m.root ∧ kid (rot3 σ i p) (sd !s) = o.root := by
      rw [k3]
      refine ⟨kid_setKid _ _ _, ?_⟩
      show kid (setKid _ _ _) _ = _
      rw [kid_setKid_ne (sd_lt _) (sd_lt _) (by cases s <;> decide)]; exact hpo
    cases s with
    | false => exact refresh_rep hp0 (by rw [k3]) (by rw [k3]; exact hsr.2.1.trans hpf) (by simpa [sd, kid] using hk.1) (by simpa [sd, kid] using hk.2) hRm3 hRo3 nmp dpo
    | true => exact refresh_rep hp0 (by rw [k3]) (by rw [k3]; exact hsr.2.1.trans hpf) (by simpa [sd, kid] using hk.2) (by simpa [sd, kid] using hk.1) hRo3 hRm3 dpo nmp
  have r2 : ∀ x, x ≠ p → refresh (rot3 σ i) p x = rot3 σ i x := fun x hx => refresh_other hx
  have hI : ∀ (e : BT), Rep σ e i → (∀ x ∈ e.nodes, x ∉ m.nodes ∧ x ≠ i ∧ x ≠ p ∧ x ∉ cnodes c) → Rep (refresh (rot3 σ i) p) e i := by
    intro e he hd
    refine he.congr (fun x hx => ?_)
    obtain ⟨d1, d2, d3, d4⟩ := hd x hx
    rw [r2 x d3]
    refine k1 x d2 d3 (.inl (fun e' => ?_)) (hupc.imp id (fun hc e' => d4 (e' ▸ hc)))
    exact d1 (e' ▸ BT.root_mem (by rw [← e']; exact he.ne0 hx))
  have hT2 : Rep (rotate σ i) (rotT ⟨s, false, p, o⟩ l i r) (upOf c u) := by
    unfold rotate
    rw [hiu]
    have hi3 : refresh (rot3 σ i) p i = { setKid (σ i) (1 - sd s) p with up := upOf c u } := by rw [r2 i dpi.symm, k2]
    cases s with
    | false =>
      simp only [Bool.false_eq_true, if_false] at hP hm
      subst hm
      refine refresh_rep hi0 (by rw [hi3]) (by rw [hi3]; exact hsi.2.1.trans hif) (by rw [hi3]; simpa [setKid, sd] using hik0) (by rw [hi3]; simp [setKid, sd, BT.root]) (hI l hl (fun x hx => ⟨dlr x hx, fun e => dil (e ▸ hx), fun e => dpl (e ▸ hx), dlc x hx⟩)) hP dil ?_
      simp only [BT.nodes, List.mem_append, List.mem_cons, not_or]; exact ⟨dir, dpi.symm, dio⟩
    | true =>
      simp only [if_true] at hP hm
      subst hm
      refine refresh_rep hi0 (by rw [hi3]) (by rw [hi3]; exact hsi.2.1.trans hif) (by rw [hi3]; simp [setKid, sd, BT.root]) (by rw [hi3]; simpa [setKid, sd] using hik1) hP (hI r hr (fun x hx => ⟨fun h => dlr x h hx, fun e => dir (e ▸ hx), fun e => dpr (e ▸ hx), drc x hx⟩)) ?_ dir
      simp only [BT.nodes, List.mem_append, List.mem_cons, not_or]; exact ⟨dio, dpi.symm, dil⟩
  have hR : ∀ x, x ≠ i → x ≠ p → rotate σ i x = rot3 σ i x := by
    intro x e1 e2
    unfold rotate; rw [refresh_other e1, hiu, refresh_other e2]
  have hlk3 : ∀ x, (rot3 σ i x).light = (σ x).light ∧ (rot3 σ i x).key = (σ x).key := by
    intro x
    by_cases e1 : x = i
    · subst e1; rw [k2]; exact ⟨hsi.2.2.2.2.2.1, hsi.2.2.1⟩
    by_cases e2 : x = p
    · subst e2; rw [k3]; exact ⟨hsr.2.2.2.2.2.1, hsr.2.2.1⟩
    by_cases e3 : c = [] ∨ x ≠ upOf c u
    · by_cases e4 : x ≠ m.root ∨ m.root = 0
      · rw [k1 x e1 e2 e4 e3]; exact ⟨rfl, rfl⟩
      · simp only [not_or, ne_eq, Classical.not_not] at e4
        rw [e4.1, k4 e4.2]; exact ⟨rfl, rfl⟩
    · cases c with
      | nil => exact absurd (.inl rfl) e3
      | cons b c' =>
        have e4 : x = b.p := by
          apply Classical.byContradiction; intro hne; exact e3 (.inr hne)
        rw [e4, k5 b c' rfl]
        have := setKid_rest (σ b.p) (sd b.s) i
        exact ⟨this.2.2.2.2.2.1, this.2.2.1⟩
  have hlk : ∀ x, (rotate σ i x).light = (σ x).light ∧ (rotate σ i x).key = (σ x).key := by
    intro x
    unfold rotate
    have a := @refresh_links (refresh (rot3 σ i) (σ i).up) i x
    have b := @refresh_links (rot3 σ i) (σ i).up x
    exact ⟨a.2.2.2.2.2.trans (b.2.2.2.2.2.trans (hlk3 x).1), a.2.2.2.2.1.trans (b.2.2.2.2.1.trans (hlk3 x).2)⟩
  refine ⟨rep_plug.2 ⟨hT2, ?_⟩, ⟨fun x hx => ?_, hlk⟩, ?_⟩
  · rw [rotT_nodes, show (rotT ⟨s, false, p, o⟩ l i r).root = i by unfold rotT; split <;> rfl]
    have hC2 : RepC σ c p (Fm.fill ⟨s, false, p, o⟩ (.node false l i r)).nodes u := hC'.perm (fill_perm ⟨s, false, p, o⟩ (.node false l i r)).symm
    cases c with
    | nil => trivial
    | cons b c' =>
      have hbc : b.p ∈ cnodes (b :: c') := by simp [cnodes]
      refine hC2.move ?_ (fun y _ => hlk y) (fun y hy => ?_)
      · rw [hR _ (fun e => dic (e ▸ hbc)) (fun e => dpc (e ▸ hbc)), k5 b c' rfl]
      · have hyc : y ∈ cnodes (b :: c') := by simp only [cnodes, List.cons_append, List.mem_cons]; exact .inr hy
        have hbn : y ≠ b.p := by
          have : b.p ∉ b.o.nodes ++ cnodes c' := by
            have := hnd'.2.1
            simp only [cnodes, List.cons_append, List.nodup_append, List.nodup_cons, List.mem_append] at this
            simp only [List.mem_append]; grind
          exact fun e => this (e ▸ hy)
        have e1 : y ≠ i := fun e => dic (e ▸ hyc)
        have e2 : y ≠ p := fun e => dpc (e ▸ hyc)
        rw [hR y e1 e2]
        refine k1 y e1 e2 ?_ (.inr hbn)
        by_cases h0 : m.root = 0
        · exact .inr h0
        · exact .inl (fun e => (hmn _ (BT.root_mem h0)).elim (fun h => dlc _ h (e ▸ hyc)) (fun h => drc _ h (e ▸ hyc)))
  · have hx' : ¬ (x ∈ l.nodes ∨ x = i ∨ x ∈ r.nodes ∨ x = p ∨ x ∈ o.nodes ∨ x ∈ cnodes c) := fun h => hx ((hmem x).2 (by grind))
    simp only [not_or] at hx'
    obtain ⟨e1, e2, e3, e4, e5, e6⟩ := hx'
    rw [hR x e2 e4]
    refine k1 x e2 e4 ?_ (hupc.imp id (fun hc e => e6 (e ▸ hc)))
    by_cases h00 : m.root = 0
    · exact .inr h00
    · exact .inl (fun h0 => (hmn _ (BT.root_mem h00)).elim (fun h => e1 (h0 ▸ h)) (fun h => e3 (h0 ▸ h)))
  · rw [hiu, k3, k2]
    refine ⟨?_, ?_, ?_, ?_⟩
    · cases s with
      | false => simp only [setKid, sd, Bool.false_eq_true, if_false, if_true]; rw [← hmr]; exact hkp
      | true =>
        simp [sd, kid] at hpo
        simp [setKid, sd]; rw [hpo]
        intro e; exact dpo (e ▸ BT.root_mem (by rw [e]; exact hp0))
    · cases s with
      | false =>
        simp [sd, kid] at hpo
        simp [setKid, sd]; rw [hpo]
        intro e; exact dpo (e ▸ BT.root_mem (by rw [e]; exact hp0))
      | true => simp [setKid, sd]; rw [← hmr]; exact hkp
    · cases s with
      | false =>
        simp [setKid, sd]; rw [hik0]
        intro e; exact dil (e ▸ BT.root_mem (by rw [e]; exact hi0))
      | true => simp [setKid, sd]; exact dpi
    · cases s with
      | false => simp [setKid, sd]; exact dpi
      | true =>
        simp [setKid, sd]; rw [hik1]
        intro e; exact dir (e ▸ BT.root_mem (by rw [e]; exact hi0))
end Go.Proofs.YtgmnemndjjmgkaaGreat

/- lct: the way from the root of a splay tree to a node; pushing along it; the sides of its nodes. -/
namespace Go.Proofs.YtgmnemndjjmgkaaGreat
open Go.RowKit
def Way : BT → List Nat → Prop
  | .nil, _ => False
  | .node _ _ _ _, [] => False
  | .node _ l v r, x :: ps => x = v ∧ (ps = [] ∨ Way l ps ∨ Way r ps)
theorem way_flip (t : BT) (ps : List Nat) : Way t.flip ps ↔ Way t ps := by
 cases t with
 | nil => exact Iff.rfl
 | node f l v r => cases ps <;> exact Iff.rfl
theorem way_fill (a : Fm) {t : BT} {ps : List Nat} (h : Way t ps) : Way (a.fill t) (a.p :: ps) := by
 unfold Fm.fill
 split
 · exact ⟨rfl, .inr (.inr h)⟩
 · exact ⟨rfl, .inr (.inl h)⟩
theorem way_plug : ∀ (c : List Fm) {t : BT} {ps : List Nat}, Way t ps → Way (plug c t) ((c.map Fm.p).reverse ++ ps)
  | [], _, _, h => by simpa [plug] using h
  | a :: c, t, ps, h => by
    have := way_plug c (way_fill a h)
    simpa [plug] using this
theorem plug_snoc (c : List Fm) (a : Fm) (t : BT) : plug (c ++ [a]) t = a.fill (plug c t) := by
 induction c generalizing t with
 | nil => rfl
 | cons b c ih => exact ih (b.fill t)
theorem zip_ex {i : Nat} : ∀ {t : BT}, i ∈ t.nodes → ∃ c f l r, t = plug c (.node f l i r)
  | .nil, h => by cases h
  | .node f l v r, h => by
    simp only [BT.nodes, List.mem_append, List.mem_cons] at h
    rcases h with h | rfl | h
    · obtain ⟨c, f', l', r', e⟩ := zip_ex h
      exact ⟨c ++ [⟨false, f, v, r⟩], f', l', r', by rw [plug_snoc, ← e]; rfl⟩
    · exact ⟨[], f, l, r, rfl⟩
    · obtain ⟨c, f', l', r', e⟩ := zip_ex h
      exact ⟨c ++ [⟨true, f, v, l⟩], f', l', r', by rw [plug_snoc, ← e]; rfl⟩
theorem climb {σ : Tbl} : ∀ {c : List Fm} {t : BT} {u : Nat}, Rep σ (plug c t) u → t.root ≠ 0 → (plug c t).nodes.Nodup → Out σ u (plug c t).nodes →
    (∀ k x y, (t.root :: c.map Fm.p)[k]? = some x → (t.root :: c.map Fm.p)[k + 1]? = some y → (sideOf σ x).2 = true ∧ (σ x).up = y) ∧ (∀ x, (t.root :: c.map Fm.p)[c.length]? = some x → (sideOf σ x).2 = false)
  | [], t, u, h, h0, _, hO => by
    refine ⟨fun k x y _ h2 => by simp at h2, fun x hx => ?_⟩
    simp at hx; subst hx
    cases t with
    | nil => exact absurd rfl h0
    | node f l v r =>
      simp only [plug] at h hO
      show (sideOf σ v).snd = false
      rw [sideOf_out h.1.2.1 hO (by simp [BT.nodes])]
  | a :: c, t, u, h, h0, hnd, hO => by
    have hi := climb (c := c) (t := a.fill t) (u := u) h (by rw [fill_root]; exact ((rep_plug.1 h).2).1.1) hnd hO
    rw [fill_root] at hi
    obtain ⟨hT, hC⟩ := rep_plug.1 h
    obtain ⟨⟨hp0, _, _, hpk, hpo⟩, hRo, _⟩ := hC
    refine ⟨fun k x y h1 h2 => ?_, fun x hx => ?_⟩
    · cases k with
      | zero =>
        simp at h1 h2
        subst h1; subst h2
        have hup : (σ t.root).up = a.p := by
          cases t with
          | nil => exact absurd rfl h0
          | node f l v r => exact hT.1.2.1
        refine ⟨?_, hup⟩
        rw [sideOf_frame h0 hp0 hup hpk hpo]
        intro e
        have hor : a.o.root ≠ 0 := by rw [e]; exact h0
        have h1 := BT.root_mem hor
        have h2 := BT.root_mem h0
        have := (plug_nodes (a :: c) t).nodup_iff.1 hnd
        rw [List.nodup_append] at this
        exact this.2.2 _ h2 _ (by simp only [cnodes, List.cons_append, List.mem_cons, List.mem_append]; exact .inr (.inl h1)) e.symm
      | succ k => exact hi.1 k x y (by simpa using h1) (by simpa using h2)
    · exact hi.2 x (by simpa using hx)
theorem pushK_at (σ : Tbl) (k x : Nat) : pushK σ k x = if x = k ∧ k ≠ 0 then { σ x with flip := !(σ x).flip } else σ x := by
 unfold pushK
 by_cases h : k = 0
 · rw [if_pos h, if_neg (fun e => e.2 h)]
 {
 rw [if_neg h]
 by_cases e : x = k
 · subst e; rw [upd_same, if_pos ⟨rfl, h⟩]
 · rw [upd_other e, if_neg (fun h => e h.1)]
 }
theorem InR.push {N : Nat} {σ : Tbl} (h : InR N σ) (i : Nat) (hi : i < N) : InR N (push σ i) := by
 have hK : ∀ (τ : Tbl) (k : Nat), InR N τ → InR N (pushK τ k) := by {
 intro τ k hτ j hj
 rw [pushK_at]; split <;> exact hτ j hj
 }
 unfold Proofs.YtgmnemndjjmgkaaGreat.push
 split
 {
 refine hK _ _ (hK _ _ ?_)
 exact h.upd ⟨(h i hi).2.1, (h i hi).1, (h i hi).2.2.1, (h i hi).2.2.2⟩
 }
 · exact h
theorem Rep.flip {σ σ' : Tbl} {t : BT} {u : Nat} (h : Rep σ t u) (hnd : t.nodes.Nodup) (ho : ∀ x ∈ t.nodes, x ≠ t.root → σ' x = σ x) (hr : t.root ≠ 0 → σ' t.root = { σ t.root with flip := !(σ t.root).flip }) : Rep σ' t.flip u := by
 cases t with
 | nil => trivial
 | node f l v r => {
 obtain ⟨h1, hl, hrr, h2, h3, h4⟩ := h
 have hv : σ' v = { σ v with flip := !(σ v).flip } := hr h1.1
 simp only [BT.nodes, List.nodup_append, List.nodup_cons] at hnd
 have hnl : ∀ x ∈ l.nodes, x ≠ v := fun x hx e => hnd.2.2 x hx v (by simp) e
 have hnr : ∀ x ∈ r.nodes, x ≠ v := fun x hx e => hnd.2.1.1 (e ▸ hx)
 have hlk : ∀ x ∈ (BT.node f l v r).nodes, (σ' x).light = (σ x).light ∧ (σ' x).key = (σ x).key := by {
 intro x hx
 by_cases e : x = v
 · subst e; rw [hv]; exact ⟨rfl, rfl⟩
 · rw [ho x hx e]; exact ⟨rfl, rfl⟩
 }
 refine ⟨by rw [hv]; exact ⟨h1.1, h1.2.1, by rw [h1.2.2.1], h1.2.2.2⟩, hl.congr (fun x hx => ho x (by simp [BT.nodes, hx]) (hnl x hx)), hrr.congr (fun x hx => ho x (by simp [BT.nodes, hx]) (hnr x hx)), by rw [hv]; exact h2, ?_, ?_⟩
 · rw [hv]; show _ = wrap64 (tot σ' (BT.node f l v r).nodes); rw [tot_congr (fun x hx => (hlk x hx).1)]; exact h3
 · rw [hv]; exact best_congr (σ := σ) (fun x hx => (hlk x hx).2) h4
 }
def BT.pushed : BT → BT
  | .nil => .nil
  | .node f l v r => if f then .node false r.flip v l.flip else .node false l v r
theorem pushed_seq (t : BT) : t.pushed.seq = t.seq := by
 cases t with
 | nil => rfl
 | node f l v r => cases f <;> simp [BT.pushed, BT.seq, BT.seq_flip]
theorem pushed_perm (t : BT) : t.pushed.nodes.Perm t.nodes := by
 cases t with
 | nil => exact .nil
 | node f l v r => {
 cases f with
 | false => exact .refl _
 | true => {
 simp only [BT.pushed, if_true, BT.nodes, BT.nodes_flip]
 exact List.perm_middle.trans (((List.perm_append_comm).cons v).trans List.perm_middle.symm)
 }
 }
theorem pushed_root (t : BT) : t.pushed.root = t.root := by
 cases t with
 | nil => rfl
 | node f l v r => cases f <;> rfl
theorem push_rep {σ : Tbl} {c : List Fm} {f : Bool} {l r : BT} {v u : Nat} (h : Rep σ (plug c (.node f l v r)) u) (hnd : (plug c (.node f l v r)).nodes.Nodup) :
    Rep (push σ v) (plug c (BT.node f l v r).pushed) u ∧ Rotated σ (push σ v) (plug c (.node f l v r)).nodes := by
 have hpm := plug_nodes c (.node f l v r)
 have hnd' := hpm.nodup_iff.1 hnd
 have hmem : ∀ x, x ∈ (plug c (.node f l v r)).nodes ↔ x ∈ (BT.node f l v r).nodes ++ cnodes c := fun x => hpm.mem_iff
 obtain ⟨hT, hC⟩ := rep_plug.1 h
 obtain ⟨⟨hv0, hvu, hvf, hk0, hk1⟩, hl, hr, hs, ht, hb⟩ := id hT
 simp only [BT.nodes, List.nodup_append, List.nodup_cons, List.mem_append, List.mem_cons, List.append_assoc] at hnd' hmem
 cases f with
 | false => {
 have e : push σ v = σ := by unfold push; rw [if_neg (by simp [hvf])]
 rw [e]
 exact ⟨h, fun _ _ => rfl, fun _ => ⟨rfl, rfl⟩⟩
 }
 | true => {
 have dvl : v ∉ l.nodes := by grind
 have dvr : v ∉ r.nodes := by grind
 have dlr : ∀ x ∈ l.nodes, x ∉ r.nodes := by grind
 have ndl : l.nodes.Nodup := by grind
 have ndr : r.nodes.Nodup := by grind
 have dvc : v ∉ cnodes c := by grind
 have dlc : ∀ x ∈ l.nodes, x ∉ cnodes c := by grind
 have drc : ∀ x ∈ r.nodes, x ∉ cnodes c := by grind
 have hlv : l.root ≠ v := fun e => dvl (e ▸ BT.root_mem (by rw [e]; exact hv0))
 have hrv : r.root ≠ v := fun e => dvr (e ▸ BT.root_mem (by rw [e]; exact hv0))
 have hx : ∀ x, push σ v x = if x = v then { σ v with flip := false, k0 := r.root, k1 := l.root } else if (x = l.root ∨ x = r.root) ∧ x ≠ 0 then { σ x with flip := !(σ x).flip } else σ x := by {
 intro x
 unfold push
 rw [if_pos hvf]
 show pushK (pushK (push0 σ v) (σ v).k1) (σ v).k0 x = _
 rw [hk0, hk1, pushK_at]
 by_cases e : x = v
 {
 subst e
 rw [if_neg (fun h => hlv h.1.symm), pushK_at, if_neg (fun h => hrv h.1.symm), if_pos rfl]
 simp only [push0, upd_same, hk0, hk1]
 }
 {
 rw [if_neg e]
 have e0 : push0 σ v x = σ x := by simp only [push0, upd_other e]
 by_cases e1 : x = l.root
 {
 by_cases e2 : x = 0
 {
 have hl0 : l.root = 0 := e1.symm.trans e2
 rw [if_neg (by simp [hl0]), pushK_at, if_neg (by rintro ⟨h1, h2⟩; exact h2 (h1.symm.trans e2)), if_neg (by simp [e2]), e0]
 }
 {
 rw [if_pos ⟨e1, fun h => e2 (e1.trans h)⟩, if_pos ⟨.inl e1, e2⟩]
 have : pushK (push0 σ v) r.root x = σ x := by rw [pushK_at, if_neg (by rintro ⟨h1, h2⟩; exact dlr x (e1 ▸ BT.root_mem (fun h0 => e2 (e1.trans h0))) (h1 ▸ BT.root_mem h2)), e0]
 rw [this]
 }
 }
 {
 rw [if_neg (fun h => e1 h.1), pushK_at]
 by_cases e2 : x = r.root
 {
 by_cases e3 : x = 0
 · rw [if_neg (fun h => h.2 (e2.symm.trans e3)), if_neg (fun h => h.2 e3), e0]
 · rw [if_pos ⟨e2, fun h => e3 (e2.trans h)⟩, if_pos ⟨.inr e2, e3⟩, e0]
 }
 · rw [if_neg (fun h => e2 h.1), if_neg (fun h => h.1.elim e1 e2), e0]
 }
 }
 }
 have hlk : ∀ x, (push σ v x).light = (σ x).light ∧ (push σ v x).key = (σ x).key := by {
 intro x; rw [hx]
 split
 · rename_i e; subst e; exact ⟨rfl, rfl⟩
 · split <;> exact ⟨rfl, rfl⟩
 }
 have hoth : ∀ x, x ≠ v → x ∉ l.nodes → x ∉ r.nodes → push σ v x = σ x := by {
 intro x e1 e2 e3
 rw [hx, if_neg e1, if_neg]
 rintro ⟨e | e, h0⟩
 · exact e2 (e ▸ BT.root_mem (fun h => h0 (e.trans h)))
 · exact e3 (e ▸ BT.root_mem (fun h => h0 (e.trans h)))
 }
 have hvv : push σ v v = { σ v with flip := false, k0 := r.root, k1 := l.root } := by rw [hx, if_pos rfl]
 have hpp := pushed_perm (.node true l v r)
 refine ⟨rep_plug.2 ⟨?_, ?_⟩, fun x hxn => ?_, hlk⟩
 {
 simp only [BT.pushed, if_true]
 have hll : Rep (push σ v) l.flip v := hl.flip ndl (fun x hxn hne => by
     rw [hx, if_neg (by rintro rfl; exact dvl hxn), if_neg]
     rintro ⟨e | e, h0⟩
     · exact hne e
     · exact dlr x hxn (e ▸ BT.root_mem (fun h => h0 (e.trans h)))) (fun h0 => by rw [hx, if_neg hlv, if_pos ⟨.inl rfl, h0⟩])
 have hrr : Rep (push σ v) r.flip v := hr.flip ndr (fun x hxn hne => by
     rw [hx, if_neg (by rintro rfl; exact dvr hxn), if_neg]
     rintro ⟨e | e, h0⟩
     · exact dlr x (e ▸ BT.root_mem (fun h => h0 (e.trans h))) hxn
     · exact hne e) (fun h0 => by rw [hx, if_neg hrv, if_pos ⟨.inr rfl, h0⟩])
 refine ⟨⟨hv0, by rw [hvv]; exact hvu, by rw [hvv], by rw [hvv, BT.root_flip], by rw [hvv, BT.root_flip]⟩, hrr, hll, ?_, ?_, ?_⟩
 · rw [hvv]; show (σ v).size = _; rw [hs]; exact congrArg (fun n : Nat => wrap64 n) hpp.length_eq.symm
 · rw [hvv]; show (σ v).total = _; rw [tot_congr (fun x _ => (hlk x).1), ht]; exact congrArg wrap64 (tot_perm hpp.symm)
 · rw [hvv]; exact best_congr (fun x _ => (hlk x).2) (best_perm hpp.symm hb)
 }
 {
 rw [pushed_root]
 refine RepC.perm hpp.symm (hC.congr (fun y hy => hoth y (fun e => dvc (e ▸ hy)) (fun h => dlc y h hy) (fun h => drc y h hy)) (fun y _ => hlk y))
 }
 {
 have hx' : ¬ (x ∈ l.nodes ∨ x = v ∨ x ∈ r.nodes ∨ x ∈ cnodes c) := fun h => hxn ((hmem x).2 (by grind))
 simp only [not_or] at hx'
 exact hoth x hx'.2.1 hx'.1 hx'.2.2.1
 }
 }
def pushAll (σ : Tbl) (ps : List Nat) : Tbl := ps.foldl push σ
theorem Rotated.trans {σ τ υ : Tbl} {ns : List Nat} (h : Rotated σ τ ns) (k : Rotated τ υ ns) : Rotated σ υ ns :=
  ⟨fun x hx => (k.other x hx).trans (h.other x hx), fun x => ⟨(k.lk x).1.trans (h.lk x).1, (k.lk x).2.trans (h.lk x).2⟩⟩
theorem Rotated.perm {σ τ : Tbl} {ns ms : List Nat} (h : Rotated σ τ ns) (hm : ∀ x, x ∈ ns ↔ x ∈ ms) : Rotated σ τ ms := ⟨fun x hx => h.other x (fun e => hx ((hm x).1 e)), h.lk⟩
theorem pushAll_rep {σ : Tbl} : ∀ {ps : List Nat} {c : List Fm} {t : BT} {u i : Nat}, Rep σ (plug c t) u → (plug c t).nodes.Nodup → (∀ a ∈ c, a.f = false) → Way t (ps ++ [i]) →
    ∃ c' l r, Rep (pushAll σ (ps ++ [i])) (plug c' (.node false l i r)) u ∧ (∀ a ∈ c', a.f = false) ∧ (plug c' (.node false l i r)).seq = (plug c t).seq ∧ (plug c' (.node false l i r)).nodes.Perm (plug c t).nodes ∧
      Rotated σ (pushAll σ (ps ++ [i])) (plug c t).nodes
  | [], c, .nil, u, i, _, _, _, hw => hw.elim
  | [], c, .node f l v r, u, i, h, hnd, hc, hw => by
    obtain ⟨rfl, _⟩ : i = v ∧ _ := hw
    obtain ⟨h1, h2⟩ := push_rep h hnd
    have e : ∃ l' r', (BT.node f l i r).pushed = .node false l' i r' := by cases f <;> exact ⟨_, _, rfl⟩
    obtain ⟨l', r', e⟩ := e
    refine ⟨c, l', r', by rw [← e]; exact h1, hc, by rw [← e]; exact plug_seq c (pushed_seq _), ?_, h2⟩
    rw [← e]
    exact (plug_nodes c _).trans (((pushed_perm (.node f l i r)).append_right _).trans (plug_nodes c _).symm)
  | p :: ps, c, .nil, u, i, _, _, _, hw => hw.elim
  | p :: ps, c, .node f l v r, u, i, h, hnd, hc, hw => by
    obtain ⟨rfl, hw⟩ : p = v ∧ _ := hw
    obtain ⟨h1, h2⟩ := push_rep h hnd
    have hw : Way l (ps ++ [i]) ∨ Way r (ps ++ [i]) := hw.elim (fun e => by simp at e) id
    have e : ∃ l' r', (BT.node f l p r).pushed = .node false l' p r' ∧ (Way l' (ps ++ [i]) ∨ Way r' (ps ++ [i])) := by
      cases f with
      | false => exact ⟨_, _, rfl, hw⟩
      | true => exact ⟨_, _, rfl, hw.symm.imp (way_flip _ _).2 (way_flip _ _).2⟩
    obtain ⟨l', r', e, hw'⟩ := e
    have hperm : (plug c (.node false l' p r')).nodes.Perm (plug c (.node f l p r)).nodes := by
      rw [← e]; exact (plug_nodes c _).trans (((pushed_perm (.node f l p r)).append_right _).trans (plug_nodes c _).symm)
    have hseq : (plug c (.node false l' p r')).seq = (plug c (.node f l p r)).seq := by rw [← e]; exact plug_seq c (pushed_seq _)
    rw [e] at h1
    have step : ∀ (a : Fm) (t' : BT), a.fill t' = .node false l' p r' → a.f = false → Way t' (ps ++ [i]) →
        ∃ c' l r, Rep (pushAll (push σ p) (ps ++ [i])) (plug c' (.node false l i r)) u ∧ (∀ a ∈ c', a.f = false) ∧ (plug c' (.node false l i r)).seq = (plug c (.node false l' p r')).seq ∧ (plug c' (.node false l i r)).nodes.Perm (plug c (.node false l' p r')).nodes ∧
          Rotated (push σ p) (pushAll (push σ p) (ps ++ [i])) (plug c (.node false l' p r')).nodes := by
      intro a t' ha haf hwt
      have := pushAll_rep (σ := push σ p) (ps := ps) (c := a :: c) (t := t') (u := u) (i := i) (by simp only [plug]; rw [ha]; exact h1) (by simp only [plug]; rw [ha]; exact hperm.nodup_iff.2 hnd)
        (fun b hb => (List.mem_cons.1 hb).elim (fun e => by rw [e]; exact haf) (hc b)) hwt
      simp only [plug] at this
      rw [ha] at this
      exact this
    have fin : ∃ c' l r, Rep (pushAll (push σ p) (ps ++ [i])) (plug c' (.node false l i r)) u ∧ (∀ a ∈ c', a.f = false) ∧ (plug c' (.node false l i r)).seq = (plug c (.node false l' p r')).seq ∧ (plug c' (.node false l i r)).nodes.Perm (plug c (.node false l' p r')).nodes ∧
          Rotated (push σ p) (pushAll (push σ p) (ps ++ [i])) (plug c (.node false l' p r')).nodes := by
      rcases hw' with hw' | hw'
      · exact step ⟨false, false, p, r'⟩ l' rfl rfl hw'
      · exact step ⟨true, false, p, l'⟩ r' rfl rfl hw'
    obtain ⟨c', l2, r2, a1, a2, a3, a4, a5⟩ := fin
    refine ⟨c', l2, r2, a1, a2, a3.trans hseq, a4.trans hperm, ?_⟩
    exact h2.trans (a5.perm (fun x => hperm.mem_iff))
end Go.Proofs.YtgmnemndjjmgkaaGreat

/- lct: the rotations of a splay, as steps of trees. -/
namespace Go.Proofs.YtgmnemndjjmgkaaGreat
open Go.RowKit
theorem Out.congr {σ τ : Tbl} {u : Nat} {ns ms : List Nat} (h : Out σ u ns) (hr : Rotated σ τ ms) (hm : ∀ x, x ∈ ns ↔ x ∈ ms) : Out τ u ns := by
 rcases h with h | ⟨h1, h2, h3⟩
 · exact .inl h
 {
 right
 rw [hr.other u (fun e => h1 ((hm u).2 e))]
 exact ⟨h1, h2, h3⟩
 }
theorem Out.perm {σ : Tbl} {u : Nat} {ns ms : List Nat} (h : Out σ u ns) (hm : ∀ x, x ∈ ns ↔ x ∈ ms) : Out σ u ms := by
 rcases h with h | ⟨h1, h2, h3⟩
 · exact .inl h
 · exact .inr ⟨fun e => h1 ((hm _).2 e), fun e => h2 ((hm _).2 e), fun e => h3 ((hm _).2 e)⟩
theorem side_frame {σ : Tbl} {a : Fm} {c : List Fm} {t : BT} {u : Nat} (h : Rep σ (plug (a :: c) t) u) (h0 : t.root ≠ 0) (hnd : (plug (a :: c) t).nodes.Nodup) : sideOf σ t.root = (sd a.s, true) ∧ (σ t.root).up = a.p := by
 obtain ⟨hT, hC⟩ := rep_plug.1 h
 obtain ⟨⟨hp0, _, _, hpk, hpo⟩, hRo, _⟩ := hC
 have hup : (σ t.root).up = a.p := by {
 cases t with
 | nil => exact absurd rfl h0
 | node f l v r => exact hT.1.2.1
 }
 refine ⟨?_, hup⟩
 refine sideOf_frame h0 hp0 hup hpk hpo ?_
 intro e
 have hor : a.o.root ≠ 0 := by rw [e]; exact h0
 have h1 := BT.root_mem hor
 have h2 := BT.root_mem h0
 have := (plug_nodes (a :: c) t).nodup_iff.1 hnd
 rw [List.nodup_append] at this
 exact this.2.2 _ h2 _ (by simp only [cnodes, List.cons_append, List.mem_cons, List.mem_append]; exact .inr (.inl h1)) e.symm
theorem InR.rotate {N : Nat} {σ : Tbl} (h : InR N σ) {i : Nat} (hi : i < N) (q0 : (rot3 σ i (σ i).up).k0 ≠ (σ i).up) (q1 : (rot3 σ i (σ i).up).k1 ≠ (σ i).up) (q2 : (rot3 σ i i).k0 ≠ i) (q3 : (rot3 σ i i).k1 ≠ i) : InR N (rotate σ i) := by
 have hp := (h i hi).2.2.1
 have hR1 := h.rot1 hi
 have hR2 : InR N (rot2 σ i) := hR1.hang hp (hR1.kid hi _)
 have hR3 : InR N (rot3 σ i) := hR2.hang hi hp
 unfold Proofs.YtgmnemndjjmgkaaGreat.rotate
 exact (hR3.refresh hp q0 q1).refresh hi (by rw [refresh_links.1]; exact q2) (by rw [refresh_links.2.1]; exact q3)
def RotOK (σ : Tbl) (i : Nat) : Prop := (rot3 σ i (σ i).up).k0 ≠ (σ i).up ∧ (rot3 σ i (σ i).up).k1 ≠ (σ i).up ∧ (rot3 σ i i).k0 ≠ i ∧ (rot3 σ i i).k1 ≠ i
structure Spin (N : Nat) (σ τ : Tbl) (u i : Nat) (t₀ : BT) (c : List Fm) (l r : BT) : Prop where
  rep : Rep τ (plug c (.node false l i r)) u
  ff : ∀ a ∈ c, a.f = false
  seq : (plug c (.node false l i r)).seq = t₀.seq
  perm : (plug c (.node false l i r)).nodes.Perm t₀.nodes
  rot : Rotated σ τ t₀.nodes
  inR : InR N τ
section
variable {N : Nat} {σ τ : Tbl} {u i : Nat} {t₀ : BT} {a b : Fm} {c : List Fm} {l r : BT}
theorem Spin.nd (h : Spin N σ τ u i t₀ c l r) (hnd : t₀.nodes.Nodup) : (plug c (.node false l i r)).nodes.Nodup := h.perm.nodup_iff.2 hnd
theorem Spin.out (h : Spin N σ τ u i t₀ c l r) (hO : Out σ u t₀.nodes) : Out τ u (plug c (.node false l i r)).nodes :=
  (hO.congr h.rot (fun _ => Iff.rfl)).perm (fun _ => h.perm.mem_iff.symm)
theorem Spin.zig (h : Spin N σ τ u i t₀ (a :: c) l r) (hnd : t₀.nodes.Nodup) (hO : Out σ u t₀.nodes) (hi : i < N) : RotOK τ i ∧ ∃ l' r', Spin N σ (rotate τ i) u i t₀ c l' r' := by
 obtain ⟨h1, h2, h3⟩ := rotate_rep h.rep (h.ff a (by simp)) (h.nd hnd) (h.out hO)
 obtain ⟨l', r', e⟩ : ∃ l' r', rotT a l i r = .node false l' i r' := by unfold rotT; split <;> exact ⟨_, _, rfl⟩
 have hn : (plug c (.node false l' i r')).nodes.Perm (plug (a :: c) (.node false l i r)).nodes := by {
 rw [← e]; simp only [plug]
 refine (plug_nodes c _).trans (.trans ?_ (plug_nodes c _).symm)
 rw [rotT_nodes]
 }
 refine ⟨h3, l', r', by rw [← e]; exact h1, fun b hb => h.ff b (by simp [hb]), ?_, hn.trans h.perm, ?_, h.inR.rotate hi h3.1 h3.2.1 h3.2.2.1 h3.2.2.2⟩
 · rw [← h.seq, ← e]; simp only [plug]; exact plug_seq c (rotT_seq a (h.ff a (by simp)) l i r)
 · exact h.rot.trans (h2.perm (fun _ => h.perm.mem_iff))
theorem Spin.zigp (h : Spin N σ τ u i t₀ (a :: b :: c) l r) (hs : a.s = b.s) (hnd : t₀.nodes.Nodup) (hO : Out σ u t₀.nodes) (hp : a.p < N) : RotOK τ a.p ∧ ∃ a', Spin N σ (rotate τ a.p) u i t₀ (a' :: c) l r := by
 have hrep := h.rep
 have hnd' := h.nd hnd
 have hO' := h.out hO
 have haf := h.ff a (by simp)
 have hbf := h.ff b (by simp)
 have hperm := h.perm
 have hseq := h.seq
 obtain ⟨s, f, p, o⟩ := a
 obtain ⟨s', f', p', o'⟩ := b
 dsimp only at haf hbf hs hp ⊢
 subst haf; subst hbf; subst hs
 have ff : ∀ x ∈ c, x.f = false := fun x hx => h.ff x (by simp [hx])
 cases s with
 | false => {
 have key := rotate_rep (σ := τ) (a := ⟨false, false, p', o'⟩) (c := c) (l := .node false l i r) (i := p) (r := o) (u := u) hrep rfl hnd' hO'
 obtain ⟨h1, h2, h3⟩ := key
 refine ⟨h3, ⟨false, false, p, .node false o p' o'⟩, h1, ?_, ?_, ?_, h.rot.trans (h2.perm (fun _ => hperm.mem_iff)), h.inR.rotate hp h3.1 h3.2.1 h3.2.2.1 h3.2.2.2⟩
 · intro x hx; rcases List.mem_cons.1 hx with rfl | hx; exact rfl; exact ff x hx
 · rw [← hseq]; simp only [plug]; exact plug_seq c (by simp [Fm.fill, BT.seq])
 {
 refine .trans ?_ hperm; simp only [plug]
 refine (plug_nodes c _).trans (.trans (.append_right _ ?_) (plug_nodes c _).symm)
 simp [Fm.fill, BT.nodes]
 }
 }
 | true => {
 have key := rotate_rep (σ := τ) (a := ⟨true, false, p', o'⟩) (c := c) (l := o) (i := p) (r := .node false l i r) (u := u) hrep rfl hnd' hO'
 obtain ⟨h1, h2, h3⟩ := key
 refine ⟨h3, ⟨true, false, p, .node false o' p' o⟩, h1, ?_, ?_, ?_, h.rot.trans (h2.perm (fun _ => hperm.mem_iff)), h.inR.rotate hp h3.1 h3.2.1 h3.2.2.1 h3.2.2.2⟩
 · intro x hx; rcases List.mem_cons.1 hx with rfl | hx; exact rfl; exact ff x hx
 · rw [← hseq]; simp only [plug]; exact plug_seq c (by simp [Fm.fill, BT.seq])
 {
 refine .trans ?_ hperm; simp only [plug]
 refine (plug_nodes c _).trans (.trans (.append_right _ ?_) (plug_nodes c _).symm)
 simp [Fm.fill, BT.nodes]
 }
 }
end
end Go.Proofs.YtgmnemndjjmgkaaGreat

namespace Go.Proofs.YtgmnemndjjmgkaaGreat
open Go.RowKit
def Ch (par : Nat → Nat) : Nat → List Nat → Prop
  | _, [] => True
  | u, x :: l => par x = u ∧ Ch par x l
theorem ch_mid {par : Nat → Nat} : ∀ {u : Nat} {l : List Nat} {j : Nat} {r : List Nat}, Ch par u (l ++ j :: r) ↔ Ch par u (l ++ [j]) ∧ Ch par j r
  | u, [], j, r => by simp [Ch]
  | u, x :: l, j, r => by simp only [List.cons_append, Ch]; rw [ch_mid, and_assoc]
theorem ch_congr {par par' : Nat → Nat} : ∀ {u : Nat} {l : List Nat}, (∀ x ∈ l, par' x = par x) → Ch par u l → Ch par' u l
  | _, [], _, _ => trivial
  | u, x :: l, h, ⟨h1, h2⟩ => ⟨(h x (by simp)).trans h1, ch_congr (fun y hy => h y (by simp [hy])) h2⟩
theorem ch_rt {par rt : Nat → Nat} (h1 : ∀ x, par x ≠ 0 → rt x = rt (par x)) : ∀ {u : Nat} {l : List Nat}, Ch par u l → (∀ x ∈ l, x ≠ 0) → u ≠ 0 → ∀ x ∈ l, rt x = rt u
  | u, y :: l, ⟨e, hc⟩, hn, hu, x, hx => by
    have hy : rt y = rt u := by rw [h1 y (by rw [e]; exact hu), e]
    rcases List.mem_cons.1 hx with rfl | hx
    · exact hy
    · rw [ch_rt h1 hc (fun z hz => hn z (by simp [hz])) (hn y (by simp)) x hx, hy]
theorem ch_rt_head {par rt : Nat → Nat} (h0 : ∀ x, par x = 0 → rt x = x) (h1 : ∀ x, par x ≠ 0 → rt x = rt (par x)) {y : Nat} {l : List Nat} (h : Ch par 0 (y :: l)) (hn : ∀ x ∈ y :: l, x ≠ 0) : ∀ x ∈ y :: l, rt x = y := by
 intro x hx
 have hy : rt y = y := h0 y h.1
 rcases List.mem_cons.1 hx with rfl | hx
 · exact hy
 · rw [ch_rt h1 h.2 (fun z hz => hn z (by simp [hz])) (hn y (by simp)) x hx, hy]
theorem ch_dep {par d : Nat → Nat} (h1 : ∀ x, par x ≠ 0 → d (par x) < d x) : ∀ {u : Nat} {l : List Nat}, Ch par u l → (∀ x ∈ l, x ≠ 0) → u ≠ 0 → ∀ x ∈ l, d u < d x
  | u, y :: l, ⟨e, hc⟩, hn, hu, x, hx => by
    have hy : d u < d y := by have := h1 y (by rw [e]; exact hu); rwa [e] at this
    rcases List.mem_cons.1 hx with rfl | hx
    · exact hy
    · exact Nat.lt_trans hy (ch_dep h1 hc (fun z hz => hn z (by simp [hz])) (hn y (by simp)) x hx)
abbrev Fst := List (BT × Nat)
def fnodes (F : Fst) : List Nat := F.flatMap fun p => p.1.nodes
def lsum (σ : Tbl) : Fst → Nat → Int
  | [], _ => 0
  | p :: F, v => (if p.2 = v then tot σ p.1.nodes else 0) + lsum σ F v
theorem fnodes_cons (p : BT × Nat) (F : Fst) : fnodes (p :: F) = p.1.nodes ++ fnodes F := by simp [fnodes]
theorem mem_fnodes {x : Nat} {F : Fst} : x ∈ fnodes F ↔ ∃ p ∈ F, x ∈ p.1.nodes := by simp [fnodes]
theorem fnodes_perm {F G : Fst} (h : F.Perm G) : (fnodes F).Perm (fnodes G) := h.flatMap_right _
theorem lsum_perm {σ : Tbl} {F G : Fst} (h : F.Perm G) (v : Nat) : lsum σ F v = lsum σ G v := by
 induction h with
 | nil => rfl
 | cons p _ ih => simp [lsum, ih]
 | swap p q F => simp only [lsum]; omega
 | trans _ _ h1 h2 => exact h1.trans h2
theorem lsum_congr {σ σ' : Tbl} : ∀ {F : Fst} {v : Nat}, (∀ x ∈ fnodes F, (σ' x).light = (σ x).light) → lsum σ' F v = lsum σ F v
  | [], _, _ => rfl
  | p :: F, v, h => by
    rw [fnodes_cons] at h
    simp only [lsum]
    rw [tot_congr (fun x hx => h x (by simp [hx])), lsum_congr (fun x hx => h x (by simp [hx]))]
structure LF (N : Nat) (σ : Tbl) (F : Fst) (par d rt : Nat → Nat) : Prop where
  rep : ∀ p ∈ F, Rep σ p.1 p.2
  nd : (fnodes F).Nodup
  mem : ∀ x, x ∈ fnodes F ↔ 0 < x ∧ x < N
  up : ∀ p ∈ F, p.2 < N
  ch : ∀ p ∈ F, Ch par p.2 p.1.seq
  dep : ∀ x, par x ≠ 0 → d (par x) < d x
  none : ∀ x, ¬ (0 < x ∧ x < N) → par x = 0
  rt0 : ∀ x, par x = 0 → rt x = x
  rt1 : ∀ x, par x ≠ 0 → rt x = rt (par x)
  light : ∀ v, 0 < v → v < N → (σ v).light = wrap64 (lsum σ F v)
  zero : (σ 0).total = 0 ∧ (σ 0).k0 = 0 ∧ (σ 0).k1 = 0 ∧ (σ 0).up = 0 ∧ (σ 0).first = 0
  pos : 0 < N
section
variable {N : Nat} {σ σ' : Tbl} {F G R : Fst} {par d rt : Nat → Nat} {t t' : BT} {u : Nat}
theorem LF.perm (h : LF N σ F par d rt) (hp : F.Perm G) : LF N σ G par d rt :=
  ⟨fun p hp' => h.rep p (hp.mem_iff.2 hp'), (fnodes_perm hp).nodup_iff.1 h.nd, fun x => (fnodes_perm hp).mem_iff.symm.trans (h.mem x), fun p hp' => h.up p (hp.mem_iff.2 hp'), fun p hp' => h.ch p (hp.mem_iff.2 hp'), h.dep, h.none, h.rt0, h.rt1,
    fun v h1 h2 => by rw [← lsum_perm hp]; exact h.light v h1 h2, h.zero, h.pos⟩
theorem mem_split_perm {p : BT × Nat} (h : p ∈ F) : ∃ R, F.Perm (p :: R) := by
 obtain ⟨A, B, rfl⟩ := List.append_of_mem h
 exact ⟨A ++ B, List.perm_middle⟩
theorem Rep.kids {x : Nat} : ∀ {t : BT} {u : Nat}, Rep σ t u → x ∈ t.nodes → ((σ x).k0 = 0 ∨ (σ x).k0 ∈ t.nodes) ∧ ((σ x).k1 = 0 ∨ (σ x).k1 ∈ t.nodes) ∧ (x = t.root ∨ ((σ x).up ∈ t.nodes)) ∧ (x = t.root → (σ x).up = u) ∧ (σ x).first ∈ t.nodes
  | .nil, _, _, hx => by cases hx
  | .node f l v r, u, ⟨h1, hl, hr, _, _, hb⟩, hx => by
    have hroot : ∀ t : BT, t.root = 0 ∨ t.root ∈ t.nodes := fun t => by
      by_cases e : t.root = 0
      · exact .inl e
      · exact .inr (BT.root_mem e)
    simp only [BT.nodes, List.mem_append, List.mem_cons] at hx ⊢
    by_cases e : x = v
    · subst e
      refine ⟨?_, ?_, .inl rfl, fun _ => h1.2.1, ?_⟩
      · rw [h1.2.2.2.1]; rcases hroot l with h | h; exact .inl h; exact .inr (.inl h)
      · rw [h1.2.2.2.2]; rcases hroot r with h | h; exact .inl h; exact .inr (.inr (.inr h))
      · have := hb.1; simpa [BT.nodes] using this
    · rcases hx with hx | hx | hx
      · obtain ⟨a, b, c, c', c2⟩ := Rep.kids hl hx
        refine ⟨a.imp id .inl, b.imp id .inl, .inr ?_, fun h => absurd h e, .inl c2⟩
        rcases c with c | c
        · rw [c' c]; exact .inr (.inl rfl)
        · exact .inl c
      · exact absurd hx e
      · obtain ⟨a, b, c, c', c2⟩ := Rep.kids hr hx
        refine ⟨a.imp id (fun h => .inr (.inr h)), b.imp id (fun h => .inr (.inr h)), .inr ?_, fun h => absurd h e, .inr (.inr c2)⟩
        rcases c with c | c
        · rw [c' c]; exact .inr (.inl rfl)
        · exact .inr (.inr c)
theorem LF.tree (h : LF N σ F par d rt) {x : Nat} (h0 : 0 < x) (hx : x < N) : ∃ t u R, F.Perm ((t, u) :: R) ∧ x ∈ t.nodes := by
 obtain ⟨p, hp, hxp⟩ := mem_fnodes.1 ((h.mem x).2 ⟨h0, hx⟩)
 obtain ⟨R, hR⟩ := mem_split_perm hp
 exact ⟨p.1, p.2, R, hR, hxp⟩
theorem LF.inR (h : LF N σ F par d rt) : InR N σ := by
 intro x hx
 by_cases h0 : x = 0
 {
 subst h0
 have := h.pos
 rw [h.zero.2.1, h.zero.2.2.1, h.zero.2.2.2.1, h.zero.2.2.2.2]; exact ⟨this, this, this, this⟩
 }
 {
 obtain ⟨t, u, R, hR, hxt⟩ := h.tree (by omega) hx
 have h' := h.perm hR
 have hk := (h'.rep (t, u) (by simp)).kids hxt
 have hN : ∀ y, y ∈ t.nodes → y < N := fun y hy => ((h'.mem y).1 (by rw [fnodes_cons]; simp [hy])).2
 have hp := h.pos
 refine ⟨hk.1.elim (fun e => by omega) (hN _), hk.2.1.elim (fun e => by omega) (hN _), ?_, hN _ hk.2.2.2.2⟩
 rcases hk.2.2.1 with e | e
 · rw [hk.2.2.2.1 e]; exact h'.up (t, u) (by simp)
 · exact hN _ e
 }
theorem seq_mem {t : BT} {x : Nat} : x ∈ t.seq ↔ x ∈ t.nodes := (BT.seq_perm t).mem_iff
theorem LF.lt (h : LF N σ F par d rt) {p : BT × Nat} (hp : p ∈ F) {x : Nat} (hx : x ∈ p.1.nodes) : 0 < x ∧ x < N := (h.mem x).1 (mem_fnodes.2 ⟨p, hp, hx⟩)
theorem LF.seq0 (h : LF N σ F par d rt) {p : BT × Nat} (hp : p ∈ F) : ∀ x ∈ p.1.seq, x ≠ 0 := fun x hx => by have := (h.lt hp (seq_mem.1 hx)).1; omega
theorem LF.outs (h : LF N σ ((t, u) :: R) par d rt) : Out σ u t.nodes := by
 by_cases hu : u = 0
 · exact .inl hu
 {
 right
 have hm : (t, u) ∈ (t, u) :: R := by simp
 have hd := ch_dep h.dep (h.ch _ hm) (h.seq0 hm) hu
 have hut : u ∉ t.nodes := fun e => Nat.lt_irrefl _ (hd u (seq_mem.2 e))
 have huN := h.up _ hm
 obtain ⟨q, hq, hqu⟩ := mem_fnodes.1 ((h.mem u).2 ⟨by omega, huN⟩)
 have hqR : q ∈ R := by {
 rcases List.mem_cons.1 hq with rfl | hq
 · exact absurd hqu hut
 · exact hq
 }
 have hk := (h.rep q hq).kids hqu
 have hnd := h.nd
 rw [fnodes_cons, List.nodup_append] at hnd
 have hdis : ∀ y, y ∈ q.1.nodes → y ∉ t.nodes := fun y hy hyt => hnd.2.2 y hyt y (mem_fnodes.2 ⟨q, hqR, hy⟩) rfl
 have h0 : (0 : Nat) ∉ t.nodes := fun e => by have := (h.lt hm e).1; omega
 exact ⟨hut, hk.1.elim (fun e => by rw [e]; exact h0) (hdis _), hk.2.1.elim (fun e => by rw [e]; exact h0) (hdis _)⟩
 }
theorem LF.splay (h : LF N σ ((t, u) :: R) par d rt) (hrep : Rep σ' t' u) (hseq : t'.seq = t.seq) (hperm : t'.nodes.Perm t.nodes) (hrot : Rotated σ σ' t.nodes) : LF N σ' ((t', u) :: R) par d rt := by
 have hnd := h.nd
 rw [fnodes_cons, List.nodup_append] at hnd
 have hfp : (fnodes ((t', u) :: R)).Perm (fnodes ((t, u) :: R)) := by rw [fnodes_cons, fnodes_cons]; exact hperm.append_right _
 refine ⟨fun p hp => ?_, hfp.nodup_iff.2 h.nd, fun x => hfp.mem_iff.trans (h.mem x), fun p hp => ?_, fun p hp => ?_, h.dep, h.none, h.rt0, h.rt1, fun v h1 h2 => ?_, ?_, h.pos⟩
 {
 rcases List.mem_cons.1 hp with rfl | hp
 · exact hrep
 · exact (h.rep p (by simp [hp])).congr (fun x hx => hrot.other x (fun e => hnd.2.2 x e x (mem_fnodes.2 ⟨p, hp, hx⟩) rfl))
 }
 {
 rcases List.mem_cons.1 hp with rfl | hp
 · exact h.up (t, u) (by simp)
 · exact h.up p (by simp [hp])
 }
 {
 rcases List.mem_cons.1 hp with rfl | hp
 · show Ch par u t'.seq; rw [hseq]; exact h.ch (t, u) (by simp)
 · exact h.ch p (by simp [hp])
 }
 {
 rw [(hrot.lk v).1, h.light v h1 h2]
 congr 1
 rw [lsum_congr (fun x _ => (hrot.lk x).1)]
 simp only [lsum]
 rw [tot_perm hperm]
 }
 · rw [hrot.other 0 (fun e => by have := (h.lt (p := (t, u)) (by simp) e).1; omega)]; exact h.zero
theorem total_root (hz : (σ 0).total = 0) (h : Rep σ t u) : (σ t.root).total = wrap64 (tot σ t.nodes) := by
 cases t with
 | nil => show (σ 0).total = _; rw [hz]; simp [BT.nodes, tot, wrap64]
 | node f l v r => exact h.2.2.2.2.1
end
def xst1 (σ : Tbl) (j B : Nat) : Tbl := σ.upd j { σ j with light := wrap64 ((σ j).light + wrap64 ((σ (σ j).k1).total - (σ B).total)) }
def xst2 (σ : Tbl) (j B : Nat) : Tbl := (xst1 σ j B).upd j { xst1 σ j B j with k1 := B }
def xstep (σ : Tbl) (j B : Nat) : Tbl := refresh (xst2 σ j B) j
theorem xst2_other {σ : Tbl} {j B x : Nat} (h : x ≠ j) : xst2 σ j B x = σ x := by unfold xst2 xst1; rw [upd_other h, upd_other h]
theorem xst2_at (σ : Tbl) (j B : Nat) : xst2 σ j B j = { σ j with light := wrap64 ((σ j).light + wrap64 ((σ (σ j).k1).total - (σ B).total)), k1 := B } := by unfold xst2 xst1; rw [upd_same, upd_same]
section
variable {N : Nat} {σ : Tbl} {R : Fst} {par d rt : Nat → Nat} {l r B : BT} {j u : Nat}
theorem LF.xstep (h : LF N σ ((.node false l j r, u) :: (B, j) :: R) par d rt) :
    LF N (xstep σ j B.root) ((.node false l j B, u) :: (r, j) :: R) par d rt ∧ (∀ x, x ≠ j → xstep σ j B.root x = σ x) ∧ (∀ x, (xstep σ j B.root x).key = (σ x).key) ∧
      (σ j).k1 = r.root ∧ (xst2 σ j B.root j).k0 ≠ j ∧ (xst2 σ j B.root j).k1 ≠ j ∧ InR N (xst2 σ j B.root) := by
 have m1 : (BT.node false l j r, u) ∈ (BT.node false l j r, u) :: (B, j) :: R := by simp
 have m2 : (B, j) ∈ (BT.node false l j r, u) :: (B, j) :: R := by simp
 obtain ⟨⟨hj0, hju, hjf, hk0, hk1⟩, hl, hr, _⟩ := h.rep _ m1
 have hB : Rep σ B j := h.rep _ m2
 have hnd := h.nd
 have hmem := h.mem
 simp only [fnodes_cons, BT.nodes, List.nodup_append, List.nodup_cons, List.mem_append, List.mem_cons, List.append_assoc, List.cons_append] at hnd hmem
 have djl : j ∉ l.nodes := by grind
 have djr : j ∉ r.nodes := by grind
 have djB : j ∉ B.nodes := by grind
 have djR : j ∉ fnodes R := by grind
 have hB0 : ∀ b : BT, j ∉ b.nodes → b.root ≠ j := fun b hb e => hb (e ▸ BT.root_mem (by rw [e]; exact hj0))
 have hjN : j < N := (h.lt m1 (by simp [BT.nodes])).2
 have htr := total_root h.zero.1 hr
 have htB := total_root h.zero.1 hB
 have huj : u ≠ j := by {
 rintro rfl
 have := h.outs
 rcases this with e | ⟨e, _⟩
 · exact hj0 e
 · exact e (by simp [BT.nodes])
 }
 have hR2 : InR N (xst2 σ j B.root) := by {
 have hi := h.inR
 intro x hx
 by_cases e : x = j
 {
 subst e; rw [xst2_at]
 refine ⟨(hi x hx).1, ?_, (hi x hx).2.2.1, (hi x hx).2.2.2⟩
 by_cases e : B.root = 0
 · show B.root < N; rw [e]; exact h.pos
 · exact (h.lt m2 (BT.root_mem e)).2
 }
 · rw [xst2_other e]; exact hi x hx
 }
 have hcg : ∀ x, x ≠ j → xst2 σ j B.root x = σ x := fun x hx => xst2_other hx
 have hq0 : (xst2 σ j B.root j).k0 ≠ j := by rw [xst2_at]; show (σ j).k0 ≠ j; rw [hk0]; exact hB0 l djl
 have hq1 : (xst2 σ j B.root j).k1 ≠ j := by rw [xst2_at]; exact hB0 B djB
 have hoth : ∀ x, x ≠ j → Proofs.YtgmnemndjjmgkaaGreat.xstep σ j B.root x = σ x := fun x hx => by unfold Proofs.YtgmnemndjjmgkaaGreat.xstep; rw [refresh_other hx, hcg x hx]
 have hkey : ∀ x, (Proofs.YtgmnemndjjmgkaaGreat.xstep σ j B.root x).key = (σ x).key := by {
 intro x
 by_cases e : x = j
 · subst e; unfold Proofs.YtgmnemndjjmgkaaGreat.xstep; rw [refresh_links.2.2.2.2.1, xst2_at]
 · rw [hoth x e]
 }
 have hnew : Rep (Proofs.YtgmnemndjjmgkaaGreat.xstep σ j B.root) (.node false l j B) u :=
   refresh_rep hj0 (by rw [xst2_at]; exact hju) (by rw [xst2_at]; exact hjf) (by rw [xst2_at]; exact hk0) (by rw [xst2_at]) (hl.congr (fun x hx => hcg x (fun e => djl (e ▸ hx)))) (hB.congr (fun x hx => hcg x (fun e => djB (e ▸ hx)))) djl djB
 have hll : (Proofs.YtgmnemndjjmgkaaGreat.xstep σ j B.root j).light = wrap64 ((σ j).light + (tot σ r.nodes - tot σ B.nodes)) := by {
 unfold Proofs.YtgmnemndjjmgkaaGreat.xstep; rw [refresh_links.2.2.2.2.2, xst2_at]
 show wrap64 ((σ j).light + wrap64 ((σ (σ j).k1).total - (σ B.root).total)) = _
 rw [hk1, htr, htB]; unfold wrap64; omega
 }
 have hch := h.ch _ m1
 simp only [BT.seq, Bool.false_eq_true, if_false] at hch
 have hchB : Ch par j B.seq := h.ch _ m2
 have hfp : (fnodes ((.node false l j B, u) :: (r, j) :: R)).Perm (fnodes ((.node false l j r, u) :: (B, j) :: R)) := by {
 simp only [fnodes_cons, BT.nodes, List.append_assoc, List.cons_append]
 refine .append_left _ (.cons _ ?_)
 rw [← List.append_assoc, ← List.append_assoc]
 exact List.perm_append_comm.append_right _
 }
 refine ⟨⟨fun p hp => ?_, hfp.nodup_iff.2 h.nd, fun x => hfp.mem_iff.trans (h.mem x), fun p hp => ?_, fun p hp => ?_, h.dep, h.none, h.rt0, h.rt1, fun v h1 h2 => ?_, ?_, h.pos⟩, hoth, hkey, hk1, hq0, hq1, hR2⟩
 {
 rcases List.mem_cons.1 hp with rfl | hp
 · exact hnew
 rcases List.mem_cons.1 hp with rfl | hp
 · exact hr.congr (fun x hx => hoth x (fun e => djr (e ▸ hx)))
 · exact (h.rep p (by simp [hp])).congr (fun x hx => hoth x (fun e => djR (e ▸ mem_fnodes.2 ⟨p, hp, hx⟩)))
 }
 {
 rcases List.mem_cons.1 hp with rfl | hp
 · exact h.up (BT.node false l j r, u) m1
 rcases List.mem_cons.1 hp with rfl | hp
 · exact hjN
 · exact h.up p (by simp [hp])
 }
 {
 rcases List.mem_cons.1 hp with rfl | hp
 {
 simp only [BT.seq, Bool.false_eq_true, if_false]
 exact ch_mid.2 ⟨(ch_mid.1 hch).1, hchB⟩
 }
 rcases List.mem_cons.1 hp with rfl | hp
 · exact (ch_mid.1 hch).2
 · exact h.ch p (by simp [hp])
 }
 {
 have e1 : tot (Proofs.YtgmnemndjjmgkaaGreat.xstep σ j B.root) l.nodes = tot σ l.nodes := tot_congr (fun x hx => by rw [hoth x (fun e => djl (e ▸ hx))])
 have e2 : tot (Proofs.YtgmnemndjjmgkaaGreat.xstep σ j B.root) r.nodes = tot σ r.nodes := tot_congr (fun x hx => by rw [hoth x (fun e => djr (e ▸ hx))])
 have e3 : tot (Proofs.YtgmnemndjjmgkaaGreat.xstep σ j B.root) B.nodes = tot σ B.nodes := tot_congr (fun x hx => by rw [hoth x (fun e => djB (e ▸ hx))])
 have e4 : lsum (Proofs.YtgmnemndjjmgkaaGreat.xstep σ j B.root) R v = lsum σ R v := lsum_congr (fun x hx => by rw [hoth x (fun e => djR (e ▸ hx))])
 have tn : ∀ (τ : Tbl) (b : BT), tot τ (BT.node false l j b).nodes = tot τ l.nodes + (1 + (τ j).light) + tot τ b.nodes := by intro τ b; simp only [BT.nodes, tot, List.map_append, List.map_cons, List.sum_append, List.sum_cons]; omega
 have hlv := h.light v h1 h2
 simp only [lsum] at hlv ⊢
 rw [tn] at hlv ⊢
 rw [e1, e2, e3, e4, hll]
 by_cases ev : v = j
 {
 subst ev
 rw [hll]
 rw [if_neg huj] at hlv ⊢
 rw [if_pos rfl] at hlv ⊢
 rw [hlv]; unfold wrap64; omega
 }
 {
 rw [hoth v ev, hlv, if_neg (show ¬ j = v from fun e => ev e.symm)]
 by_cases eu : u = v
 · rw [if_pos eu, if_pos eu, if_neg (show ¬ j = v from fun e => ev e.symm)]; unfold wrap64; omega
 · rw [if_neg eu, if_neg eu, if_neg (show ¬ j = v from fun e => ev e.symm)]
 }
 }
 · rw [hoth 0 (fun e => hj0 e.symm)]; exact h.zero
end
end Go.Proofs.YtgmnemndjjmgkaaGreat
