/- lct: what lead, Link, Cut and Set make of the forest of splay trees. -/
import Derived.Test.YtgmnemndjjmgkaaGreatB9
set_option linter.unusedSimpArgs false
set_option linter.unusedVariables false
/- lct: the forest as a list of splay trees, each with the vertex above its path. -/
namespace Go.Proofs.YtgmnemndjjmgkaaGreat
open Go.RowKit

/-- Each vertex of the list has the one ahead of it as its parent; the first one has u. -/
def Ch (par : Nat → Nat) : Nat → List Nat → Prop
  | _, [] => True
  | u, x :: l => par x = u ∧ Ch par x l

theorem ch_mid {par : Nat → Nat} : ∀ {u : Nat} {l : List Nat} {j : Nat} {r : List Nat}, Ch par u (l ++ j :: r) ↔ Ch par u (l ++ [j]) ∧ Ch par j r
  | u, [], j, r => by simp [Ch]
  | u, x :: l, j, r => by simp only [List.cons_append, Ch]; rw [ch_mid, and_assoc]
theorem ch_congr {par par' : Nat → Nat} : ∀ {u : Nat} {l : List Nat}, (∀ x ∈ l, par' x = par x) → Ch par u l → Ch par' u l
  | _, [], _, _ => trivial
  | u, x :: l, h, ⟨h1, h2⟩ => ⟨(h x (by simp)).trans h1, ch_congr (fun y hy => h y (by simp [hy])) h2⟩
theorem ch_rt {par rt : Nat → Nat} (h1 : ∀ x, par x ≠ 0 → rt x = rt (par x)) : ∀ {u : Nat} {l : List Nat}, Ch par u l → (∀ x ∈ l, x ≠ 0) → u ≠ 0 → ∀ x ∈ l, rt x = rt u
  | u, y :: l, ⟨e, hc⟩, hn, hu, x, hx => by
    have hy : rt y = rt u := by rw [h1 y (by rw [e]; exact hu), e]
    rcases List.mem_cons.1 hx with rfl | hx
    · exact hy
    · rw [ch_rt h1 hc (fun z hz => hn z (by simp [hz])) (hn y (by simp)) x hx, hy]
theorem ch_rt_head {par rt : Nat → Nat} (h0 : ∀ x, par x = 0 → rt x = x) (h1 : ∀ x, par x ≠ 0 → rt x = rt (par x)) {y : Nat} {l : List Nat} (h : Ch par 0 (y :: l)) (hn : ∀ x ∈ y :: l, x ≠ 0) : ∀ x ∈ y :: l, rt x = y := by
  intro x hx
  have hy : rt y = y := h0 y h.1
  rcases List.mem_cons.1 hx with rfl | hx
  · exact hy
  · rw [ch_rt h1 h.2 (fun z hz => hn z (by simp [hz])) (hn y (by simp)) x hx, hy]
theorem ch_dep {par d : Nat → Nat} (h1 : ∀ x, par x ≠ 0 → d (par x) < d x) : ∀ {u : Nat} {l : List Nat}, Ch par u l → (∀ x ∈ l, x ≠ 0) → u ≠ 0 → ∀ x ∈ l, d u < d x
  | u, y :: l, ⟨e, hc⟩, hn, hu, x, hx => by
    have hy : d u < d y := by have := h1 y (by rw [e]; exact hu); rwa [e] at this
    rcases List.mem_cons.1 hx with rfl | hx
    · exact hy
    · exact Nat.lt_trans hy (ch_dep h1 hc (fun z hz => hn z (by simp [hz])) (hn y (by simp)) x hx)

abbrev Fst := List (BT × Nat)
def fnodes (F : Fst) : List Nat := F.flatMap fun p => p.1.nodes
def lsum (σ : Tbl) : Fst → Nat → Int
  | [], _ => 0
  | p :: F, v => (if p.2 = v then tot σ p.1.nodes else 0) + lsum σ F v

theorem fnodes_cons (p : BT × Nat) (F : Fst) : fnodes (p :: F) = p.1.nodes ++ fnodes F := by simp [fnodes]
theorem mem_fnodes {x : Nat} {F : Fst} : x ∈ fnodes F ↔ ∃ p ∈ F, x ∈ p.1.nodes := by simp [fnodes]
theorem fnodes_perm {F G : Fst} (h : F.Perm G) : (fnodes F).Perm (fnodes G) := h.flatMap_right _
theorem lsum_perm {σ : Tbl} {F G : Fst} (h : F.Perm G) (v : Nat) : lsum σ F v = lsum σ G v := by
  induction h with
  | nil => rfl
  | cons p _ ih => simp [lsum, ih]
  | swap p q F => simp only [lsum]; omega
  | trans _ _ h1 h2 => exact h1.trans h2
theorem lsum_congr {σ σ' : Tbl} : ∀ {F : Fst} {v : Nat}, (∀ x ∈ fnodes F, (σ' x).light = (σ x).light) → lsum σ' F v = lsum σ F v
  | [], _, _ => rfl
  | p :: F, v, h => by
    rw [fnodes_cons] at h
    simp only [lsum]
    rw [tot_congr (fun x hx => h x (by simp [hx])), lsum_congr (fun x hx => h x (by simp [hx]))]

structure LF (N : Nat) (σ : Tbl) (F : Fst) (par d rt : Nat → Nat) : Prop where
  rep : ∀ p ∈ F, Rep σ p.1 p.2
  nd : (fnodes F).Nodup
  mem : ∀ x, x ∈ fnodes F ↔ 0 < x ∧ x < N
  up : ∀ p ∈ F, p.2 < N
  ch : ∀ p ∈ F, Ch par p.2 p.1.seq
  dep : ∀ x, par x ≠ 0 → d (par x) < d x
  none : ∀ x, ¬ (0 < x ∧ x < N) → par x = 0
  rt0 : ∀ x, par x = 0 → rt x = x
  rt1 : ∀ x, par x ≠ 0 → rt x = rt (par x)
  light : ∀ v, 0 < v → v < N → (σ v).light = wrap64 (lsum σ F v)
  zero : (σ 0).total = 0 ∧ (σ 0).k0 = 0 ∧ (σ 0).k1 = 0 ∧ (σ 0).up = 0 ∧ (σ 0).first = 0
  pos : 0 < N

section
variable {N : Nat} {σ σ' : Tbl} {F G R : Fst} {par d rt : Nat → Nat} {t t' : BT} {u : Nat}

theorem LF.perm (h : LF N σ F par d rt) (hp : F.Perm G) : LF N σ G par d rt :=
  ⟨fun p hp' => h.rep p (hp.mem_iff.2 hp'), (fnodes_perm hp).nodup_iff.1 h.nd, fun x => (fnodes_perm hp).mem_iff.symm.trans (h.mem x), fun p hp' => h.up p (hp.mem_iff.2 hp'), fun p hp' => h.ch p (hp.mem_iff.2 hp'), h.dep, h.none, h.rt0, h.rt1,
    fun v h1 h2 => by rw [← lsum_perm hp]; exact h.light v h1 h2, h.zero, h.pos⟩

theorem mem_split_perm {p : BT × Nat} (h : p ∈ F) : ∃ R, F.Perm (p :: R) := by
  obtain ⟨A, B, rfl⟩ := List.append_of_mem h
  exact ⟨A ++ B, List.perm_middle⟩

theorem Rep.kids {x : Nat} : ∀ {t : BT} {u : Nat}, Rep σ t u → x ∈ t.nodes → ((σ x).k0 = 0 ∨ (σ x).k0 ∈ t.nodes) ∧ ((σ x).k1 = 0 ∨ (σ x).k1 ∈ t.nodes) ∧ (x = t.root ∨ ((σ x).up ∈ t.nodes)) ∧ (x = t.root → (σ x).up = u) ∧ (σ x).first ∈ t.nodes
  | .nil, _, _, hx => by cases hx
  | .node f l v r, u, ⟨h1, hl, hr, _, _, hb⟩, hx => by
    have hroot : ∀ t : BT, t.root = 0 ∨ t.root ∈ t.nodes := fun t => by
      by_cases e : t.root = 0
      · exact .inl e
      · exact .inr (BT.root_mem e)
    simp only [BT.nodes, List.mem_append, List.mem_cons] at hx ⊢
    by_cases e : x = v
    · subst e
      refine ⟨?_, ?_, .inl rfl, fun _ => h1.2.1, ?_⟩
      · rw [h1.2.2.2.1]; rcases hroot l with h | h; exact .inl h; exact .inr (.inl h)
      · rw [h1.2.2.2.2]; rcases hroot r with h | h; exact .inl h; exact .inr (.inr (.inr h))
      · have := hb.1; simpa [BT.nodes] using this
    · rcases hx with hx | hx | hx
      · obtain ⟨a, b, c, c', c2⟩ := Rep.kids hl hx
        refine ⟨a.imp id .inl, b.imp id .inl, .inr ?_, fun h => absurd h e, .inl c2⟩
        rcases c with c | c
        · rw [c' c]; exact .inr (.inl rfl)
        · exact .inl c
      · exact absurd hx e
      · obtain ⟨a, b, c, c', c2⟩ := Rep.kids hr hx
        refine ⟨a.imp id (fun h => .inr (.inr h)), b.imp id (fun h => .inr (.inr h)), .inr ?_, fun h => absurd h e, .inr (.inr c2)⟩
        rcases c with c | c
        · rw [c' c]; exact .inr (.inl rfl)
        · exact .inr (.inr c)

theorem LF.tree (h : LF N σ F par d rt) {x : Nat} (h0 : 0 < x) (hx : x < N) : ∃ t u R, F.Perm ((t, u) :: R) ∧ x ∈ t.nodes := by
  obtain ⟨p, hp, hxp⟩ := mem_fnodes.1 ((h.mem x).2 ⟨h0, hx⟩)
  obtain ⟨R, hR⟩ := mem_split_perm hp
  exact ⟨p.1, p.2, R, hR, hxp⟩

theorem LF.inR (h : LF N σ F par d rt) : InR N σ := by
  intro x hx
  by_cases h0 : x = 0
  · subst h0
    have := h.pos
    rw [h.zero.2.1, h.zero.2.2.1, h.zero.2.2.2.1, h.zero.2.2.2.2]; exact ⟨this, this, this, this⟩
  · obtain ⟨t, u, R, hR, hxt⟩ := h.tree (by omega) hx
    have h' := h.perm hR
    have hk := (h'.rep (t, u) (by simp)).kids hxt
    have hN : ∀ y, y ∈ t.nodes → y < N := fun y hy => ((h'.mem y).1 (by rw [fnodes_cons]; simp [hy])).2
    have hp := h.pos
    refine ⟨hk.1.elim (fun e => by omega) (hN _), hk.2.1.elim (fun e => by omega) (hN _), ?_, hN _ hk.2.2.2.2⟩
    rcases hk.2.2.1 with e | e
    · rw [hk.2.2.2.1 e]; exact h'.up (t, u) (by simp)
    · exact hN _ e

theorem seq_mem {t : BT} {x : Nat} : x ∈ t.seq ↔ x ∈ t.nodes := (BT.seq_perm t).mem_iff

theorem LF.lt (h : LF N σ F par d rt) {p : BT × Nat} (hp : p ∈ F) {x : Nat} (hx : x ∈ p.1.nodes) : 0 < x ∧ x < N := (h.mem x).1 (mem_fnodes.2 ⟨p, hp, hx⟩)
theorem LF.seq0 (h : LF N σ F par d rt) {p : BT × Nat} (hp : p ∈ F) : ∀ x ∈ p.1.seq, x ≠ 0 := fun x hx => by have := (h.lt hp (seq_mem.1 hx)).1; omega

theorem LF.outs (h : LF N σ ((t, u) :: R) par d rt) : Out σ u t.nodes := by
  by_cases hu : u = 0
  · exact .inl hu
  · right
    have hm : (t, u) ∈ (t, u) :: R := by simp
    have hd := ch_dep h.dep (h.ch _ hm) (h.seq0 hm) hu
    have hut : u ∉ t.nodes := fun e => Nat.lt_irrefl _ (hd u (seq_mem.2 e))
    have huN := h.up _ hm
    obtain ⟨q, hq, hqu⟩ := mem_fnodes.1 ((h.mem u).2 ⟨by omega, huN⟩)
    have hqR : q ∈ R := by
      rcases List.mem_cons.1 hq with rfl | hq
      · exact absurd hqu hut
      · exact hq
    have hk := (h.rep q hq).kids hqu
    have hnd := h.nd
    rw [fnodes_cons, List.nodup_append] at hnd
    have hdis : ∀ y, y ∈ q.1.nodes → y ∉ t.nodes := fun y hy hyt => hnd.2.2 y hyt y (mem_fnodes.2 ⟨q, hqR, hy⟩) rfl
    have h0 : (0 : Nat) ∉ t.nodes := fun e => by have := (h.lt hm e).1; omega
    exact ⟨hut, hk.1.elim (fun e => by rw [e]; exact h0) (hdis _), hk.2.1.elim (fun e => by rw [e]; exact h0) (hdis _)⟩

/-- One tree is another one with the same path. -/
theorem LF.splay (h : LF N σ ((t, u) :: R) par d rt) (hrep : Rep σ' t' u) (hseq : t'.seq = t.seq) (hperm : t'.nodes.Perm t.nodes) (hrot : Rotated σ σ' t.nodes) : LF N σ' ((t', u) :: R) par d rt := by
  have hnd := h.nd
  rw [fnodes_cons, List.nodup_append] at hnd
  have hfp : (fnodes ((t', u) :: R)).Perm (fnodes ((t, u) :: R)) := by rw [fnodes_cons, fnodes_cons]; exact hperm.append_right _
  refine ⟨fun p hp => ?_, hfp.nodup_iff.2 h.nd, fun x => hfp.mem_iff.trans (h.mem x), fun p hp => ?_, fun p hp => ?_, h.dep, h.none, h.rt0, h.rt1, fun v h1 h2 => ?_, ?_, h.pos⟩
  · rcases List.mem_cons.1 hp with rfl | hp
    · exact hrep
    · exact (h.rep p (by simp [hp])).congr (fun x hx => hrot.other x (fun e => hnd.2.2 x e x (mem_fnodes.2 ⟨p, hp, hx⟩) rfl))
  · rcases List.mem_cons.1 hp with rfl | hp
    · exact h.up (t, u) (by simp)
    · exact h.up p (by simp [hp])
  · rcases List.mem_cons.1 hp with rfl | hp
    · show Ch par u t'.seq; rw [hseq]; exact h.ch (t, u) (by simp)
    · exact h.ch p (by simp [hp])
  · rw [(hrot.lk v).1, h.light v h1 h2]
    congr 1
    rw [lsum_congr (fun x _ => (hrot.lk x).1)]
    simp only [lsum]
    rw [tot_perm hperm]
  · rw [hrot.other 0 (fun e => by have := (h.lt (p := (t, u)) (by simp) e).1; omega)]; exact h.zero

theorem total_root (hz : (σ 0).total = 0) (h : Rep σ t u) : (σ t.root).total = wrap64 (tot σ t.nodes) := by
  cases t with
  | nil => show (σ 0).total = _; rw [hz]; simp [BT.nodes, tot, wrap64]
  | node f l v r => exact h.2.2.2.2.1
end

/-- What a round of expose makes of the table. -/
def xst1 (σ : Tbl) (j B : Nat) : Tbl := σ.upd j { σ j with light := wrap64 ((σ j).light + wrap64 ((σ (σ j).k1).total - (σ B).total)) }
def xst2 (σ : Tbl) (j B : Nat) : Tbl := (xst1 σ j B).upd j { xst1 σ j B j with k1 := B }
def xstep (σ : Tbl) (j B : Nat) : Tbl := refresh (xst2 σ j B) j

theorem xst2_other {σ : Tbl} {j B x : Nat} (h : x ≠ j) : xst2 σ j B x = σ x := by unfold xst2 xst1; rw [upd_other h, upd_other h]
theorem xst2_at (σ : Tbl) (j B : Nat) : xst2 σ j B j = { σ j with light := wrap64 ((σ j).light + wrap64 ((σ (σ j).k1).total - (σ B).total)), k1 := B } := by unfold xst2 xst1; rw [upd_same, upd_same]

section
variable {N : Nat} {σ : Tbl} {R : Fst} {par d rt : Nat → Nat} {l r B : BT} {j u : Nat}
theorem LF.xstep (h : LF N σ ((.node false l j r, u) :: (B, j) :: R) par d rt) :
    LF N (xstep σ j B.root) ((.node false l j B, u) :: (r, j) :: R) par d rt ∧ (∀ x, x ≠ j → xstep σ j B.root x = σ x) ∧ (∀ x, (xstep σ j B.root x).key = (σ x).key) ∧
      (σ j).k1 = r.root ∧ (xst2 σ j B.root j).k0 ≠ j ∧ (xst2 σ j B.root j).k1 ≠ j ∧ InR N (xst2 σ j B.root) := by
  have m1 : (BT.node false l j r, u) ∈ (BT.node false l j r, u) :: (B, j) :: R := by simp
  have m2 : (B, j) ∈ (BT.node false l j r, u) :: (B, j) :: R := by simp
  obtain ⟨⟨hj0, hju, hjf, hk0, hk1⟩, hl, hr, _⟩ := h.rep _ m1
  have hB : Rep σ B j := h.rep _ m2
  have hnd := h.nd
  have hmem := h.mem
  simp only [fnodes_cons, BT.nodes, List.nodup_append, List.nodup_cons, List.mem_append, List.mem_cons, List.append_assoc, List.cons_append] at hnd hmem
  have djl : j ∉ l.nodes := by grind
  have djr : j ∉ r.nodes := by grind
  have djB : j ∉ B.nodes := by grind
  have djR : j ∉ fnodes R := by grind
  have hB0 : ∀ b : BT, j ∉ b.nodes → b.root ≠ j := fun b hb e => hb (e ▸ BT.root_mem (by rw [e]; exact hj0))
  have hjN : j < N := (h.lt m1 (by simp [BT.nodes])).2
  have htr := total_root h.zero.1 hr
  have htB := total_root h.zero.1 hB
  have huj : u ≠ j := by
    rintro rfl
    have := h.outs
    rcases this with e | ⟨e, _⟩
    · exact hj0 e
    · exact e (by simp [BT.nodes])
  have hR2 : InR N (xst2 σ j B.root) := by
    have hi := h.inR
    intro x hx
    by_cases e : x = j
    · subst e; rw [xst2_at]
      refine ⟨(hi x hx).1, ?_, (hi x hx).2.2.1, (hi x hx).2.2.2⟩
      by_cases e : B.root = 0
      · show B.root < N; rw [e]; exact h.pos
      · exact (h.lt m2 (BT.root_mem e)).2
    · rw [xst2_other e]; exact hi x hx
  have hcg : ∀ x, x ≠ j → xst2 σ j B.root x = σ x := fun x hx => xst2_other hx
  have hq0 : (xst2 σ j B.root j).k0 ≠ j := by rw [xst2_at]; show (σ j).k0 ≠ j; rw [hk0]; exact hB0 l djl
  have hq1 : (xst2 σ j B.root j).k1 ≠ j := by rw [xst2_at]; exact hB0 B djB
  have hoth : ∀ x, x ≠ j → Proofs.YtgmnemndjjmgkaaGreat.xstep σ j B.root x = σ x := fun x hx => by unfold Proofs.YtgmnemndjjmgkaaGreat.xstep; rw [refresh_other hx, hcg x hx]
  have hkey : ∀ x, (Proofs.YtgmnemndjjmgkaaGreat.xstep σ j B.root x).key = (σ x).key := by
    intro x
    by_cases e : x = j
    · subst e; unfold Proofs.YtgmnemndjjmgkaaGreat.xstep; rw [refresh_links.2.2.2.2.1, xst2_at]
    · rw [hoth x e]
  have hnew : Rep (Proofs.YtgmnemndjjmgkaaGreat.xstep σ j B.root) (.node false l j B) u :=
    refresh_rep hj0 (by rw [xst2_at]; exact hju) (by rw [xst2_at]; exact hjf) (by rw [xst2_at]; exact hk0) (by rw [xst2_at]) (hl.congr (fun x hx => hcg x (fun e => djl (e ▸ hx)))) (hB.congr (fun x hx => hcg x (fun e => djB (e ▸ hx)))) djl djB
  have hll : (Proofs.YtgmnemndjjmgkaaGreat.xstep σ j B.root j).light = wrap64 ((σ j).light + (tot σ r.nodes - tot σ B.nodes)) := by
    unfold Proofs.YtgmnemndjjmgkaaGreat.xstep; rw [refresh_links.2.2.2.2.2, xst2_at]
    show wrap64 ((σ j).light + wrap64 ((σ (σ j).k1).total - (σ B.root).total)) = _
    rw [hk1, htr, htB]; unfold wrap64; omega
  have hch := h.ch _ m1
  simp only [BT.seq, Bool.false_eq_true, if_false] at hch
  have hchB : Ch par j B.seq := h.ch _ m2
  have hfp : (fnodes ((.node false l j B, u) :: (r, j) :: R)).Perm (fnodes ((.node false l j r, u) :: (B, j) :: R)) := by
    simp only [fnodes_cons, BT.nodes, List.append_assoc, List.cons_append]
    refine .append_left _ (.cons _ ?_)
    rw [← List.append_assoc, ← List.append_assoc]
    exact List.perm_append_comm.append_right _
  refine ⟨⟨fun p hp => ?_, hfp.nodup_iff.2 h.nd, fun x => hfp.mem_iff.trans (h.mem x), fun p hp => ?_, fun p hp => ?_, h.dep, h.none, h.rt0, h.rt1, fun v h1 h2 => ?_, ?_, h.pos⟩, hoth, hkey, hk1, hq0, hq1, hR2⟩
  · rcases List.mem_cons.1 hp with rfl | hp
    · exact hnew
    rcases List.mem_cons.1 hp with rfl | hp
    · exact hr.congr (fun x hx => hoth x (fun e => djr (e ▸ hx)))
    · exact (h.rep p (by simp [hp])).congr (fun x hx => hoth x (fun e => djR (e ▸ mem_fnodes.2 ⟨p, hp, hx⟩)))
  · rcases List.mem_cons.1 hp with rfl | hp
    · exact h.up (BT.node false l j r, u) m1
    rcases List.mem_cons.1 hp with rfl | hp
    · exact hjN
    · exact h.up p (by simp [hp])
  · rcases List.mem_cons.1 hp with rfl | hp
    · simp only [BT.seq, Bool.false_eq_true, if_false]
      exact ch_mid.2 ⟨(ch_mid.1 hch).1, hchB⟩
    rcases List.mem_cons.1 hp with rfl | hp
    · exact (ch_mid.1 hch).2
    · exact h.ch p (by simp [hp])
  · have e1 : tot (Proofs.YtgmnemndjjmgkaaGreat.xstep σ j B.root) l.nodes = tot σ l.nodes := tot_congr (fun x hx => by rw [hoth x (fun e => djl (e ▸ hx))])
    have e2 : tot (Proofs.YtgmnemndjjmgkaaGreat.xstep σ j B.root) r.nodes = tot σ r.nodes := tot_congr (fun x hx => by rw [hoth x (fun e => djr (e ▸ hx))])
    have e3 : tot (Proofs.YtgmnemndjjmgkaaGreat.xstep σ j B.root) B.nodes = tot σ B.nodes := tot_congr (fun x hx => by rw [hoth x (fun e => djB (e ▸ hx))])
    have e4 : lsum (Proofs.YtgmnemndjjmgkaaGreat.xstep σ j B.root) R v = lsum σ R v := lsum_congr (fun x hx => by rw [hoth x (fun e => djR (e ▸ hx))])
    have tn : ∀ (τ : Tbl) (b : BT), tot τ (BT.node false l j b).nodes = tot τ l.nodes + (1 + (τ j).light) + tot τ b.nodes := by
      intro τ b; simp only [BT.nodes, tot, List.map_append, List.map_cons, List.sum_append, List.sum_cons]; omega
    have hlv := h.light v h1 h2
    simp only [lsum] at hlv ⊢
    rw [tn] at hlv ⊢
    rw [e1, e2, e3, e4, hll]
    by_cases ev : v = j
    · subst ev
      rw [hll]
      rw [if_neg huj] at hlv ⊢
      rw [if_pos rfl] at hlv ⊢
      rw [hlv]; unfold wrap64; omega
    · rw [hoth v ev, hlv, if_neg (show ¬ j = v from fun e => ev e.symm)]
      by_cases eu : u = v
      · rw [if_pos eu, if_pos eu, if_neg (show ¬ j = v from fun e => ev e.symm)]; unfold wrap64; omega
      · rw [if_neg eu, if_neg eu, if_neg (show ¬ j = v from fun e => ev e.symm)]
  · rw [hoth 0 (fun e => hj0 e.symm)]; exact h.zero
end

end Go.Proofs.YtgmnemndjjmgkaaGreat

/- lct: what holds between two rounds of expose. -/
namespace Go.Proofs.YtgmnemndjjmgkaaGreat
open Go.RowKit

section
variable {N : Nat} {σ : Tbl} {F R : Fst} {par d rt : Nat → Nat} {t : BT} {u : Nat}
/-- The vertices of a path lie in one tree of the forest. -/
theorem LF.same (h : LF N σ F par d rt) {p : BT × Nat} (hp : p ∈ F) : (∀ x ∈ p.1.nodes, ∀ y ∈ p.1.nodes, rt x = rt y) ∧ (p.2 ≠ 0 → ∀ x ∈ p.1.nodes, rt x = rt p.2) := by
  have hc := h.ch p hp
  have h0 := h.seq0 hp
  have hu : p.2 ≠ 0 → ∀ x ∈ p.1.nodes, rt x = rt p.2 := fun hu x hx => ch_rt h.rt1 hc h0 hu x (seq_mem.2 hx)
  refine ⟨fun x hx y hy => ?_, hu⟩
  by_cases e : p.2 = 0
  · rw [e] at hc
    have hx' := seq_mem.2 hx
    have hy' := seq_mem.2 hy
    generalize p.1.seq = s at *
    cases s with
    | nil => cases hx'
    | cons z s => rw [ch_rt_head h.rt0 h.rt1 hc h0 x hx', ch_rt_head h.rt0 h.rt1 hc h0 y hy']
  · rw [hu e x hx, hu e y hy]

theorem LF.addNil (h : LF N σ F par d rt) {j : Nat} (hj : j < N) : LF N σ ((.nil, j) :: F) par d rt := by
  have e : fnodes ((BT.nil, j) :: F) = fnodes F := by rw [fnodes_cons]; rfl
  refine ⟨fun p hp => ?_, by rw [e]; exact h.nd, fun x => by rw [e]; exact h.mem x, fun p hp => ?_, fun p hp => ?_, h.dep, h.none, h.rt0, h.rt1, fun v h1 h2 => ?_, h.zero, h.pos⟩
  · rcases List.mem_cons.1 hp with rfl | hp
    · trivial
    · exact h.rep p hp
  · rcases List.mem_cons.1 hp with rfl | hp
    · exact hj
    · exact h.up p hp
  · rcases List.mem_cons.1 hp with rfl | hp
    · trivial
    · exact h.ch p hp
  · rw [h.light v h1 h2]; simp [lsum, BT.nodes, tot]

theorem LF.disj (h : LF N σ ((t, u) :: R) par d rt) {p : BT × Nat} (hp : p ∈ R) : ∀ x ∈ t.nodes, x ∉ p.1.nodes := by
  have hnd := h.nd
  rw [fnodes_cons, List.nodup_append] at hnd
  exact fun x hx hxp => hnd.2.2 x hx x (mem_fnodes.2 ⟨p, hp, hxp⟩) rfl
end

theorem last_eq {l r S : List Nat} {i : Nat} (h : l ++ i :: r = S ++ [i]) (hnd : (l ++ i :: r).Nodup) : r = [] ∧ l = S := by
  have hi : i ∉ l := fun e => (List.nodup_append.1 hnd).2.2 i e i (by simp) rfl
  have hr : i ∉ r := (List.nodup_cons.1 (List.nodup_append.1 hnd).2.1).1
  rcases List.eq_nil_or_concat r with rfl | ⟨r', x, rfl⟩
  · exact ⟨rfl, by simpa using h⟩
  · rw [List.concat_eq_append] at h hr
    rw [← List.cons_append, ← List.append_assoc] at h
    have := List.append_inj_right' h rfl
    simp at this
    exact absurd (by simp [this]) hr
theorem nil_of_seq {t : BT} (h : t.seq = []) : t = .nil := by
  cases t with
  | nil => rfl
  | node f l v r => cases f <;> simp [BT.seq] at h

structure XI (N : Nat) (σ : Tbl) (F : Fst) (par d rt : Nat → Nat) (i : Nat) (τ : Tbl) (B : BT) (j : Nat) (R : Fst) : Prop where
  lf : LF N τ ((B, j) :: R) par d rt
  key : ∀ x, (τ x).key = (σ x).key
  frame : ∀ x, rt x ≠ rt i → τ x = σ x
  trees : ∀ p ∈ F, (∃ x ∈ p.1.nodes, rt x ≠ rt i) → p ∈ R
  rtj : j ≠ 0 → rt j = rt i
  rtB : ∀ x ∈ B.nodes, rt x = rt i
  last : (B = .nil ∧ j = i) ∨ ∃ S, B.seq = S ++ [i]
  tops : j ≠ 0 → ∀ T, (T, 0) ∈ F ↔ (T, 0) ∈ R
  fin : j = 0 → ∃ T0 A Bq Rq, (T0, 0) ∈ F ∧ T0.seq = A ++ B.root :: Rq ∧ B.seq = A ++ B.root :: Bq ∧ ∀ x ∈ Bq, x ∉ T0.nodes

section
variable {N : Nat} {σ τ τ' : Tbl} {F R R2 : Fst} {par d rt : Nat → Nat} {i j u : Nat} {t B l r : BT}
theorem XI.start (h : LF N σ F par d rt) (hi : i < N) (h0 : 0 < i) : XI N σ F par d rt i σ .nil i F :=
  ⟨h.addNil hi, fun _ => rfl, fun _ _ => rfl, fun _ hp _ => hp, fun _ => rfl, fun _ hx => (by cases hx), .inl ⟨rfl, rfl⟩, fun _ _ => Iff.rfl, fun e => by omega⟩

/-- The tree of j is found among the others. -/
theorem XI.split (h : XI N σ F par d rt i τ B j R) (hj : j ≠ 0) : ∃ t u R2, R.Perm ((t, u) :: R2) ∧ j ∈ t.nodes := by
  have hjN : j < N := h.lf.up (B, j) (by simp)
  obtain ⟨p, hp, hxp⟩ := mem_fnodes.1 ((h.lf.mem j).2 ⟨by omega, hjN⟩)
  have hpR : p ∈ R := by
    rcases List.mem_cons.1 hp with rfl | hp
    · rcases h.lf.outs with e | ⟨e, _⟩
      · exact absurd e hj
      · exact absurd hxp e
    · exact hp
  obtain ⟨R2, h2⟩ := mem_split_perm hpR
  exact ⟨p.1, p.2, R2, h2, hxp⟩
theorem XI.lf2 (h : XI N σ F par d rt i τ B j R) (hR : R.Perm ((t, u) :: R2)) : LF N τ ((t, u) :: (B, j) :: R2) par d rt :=
  h.lf.perm ((List.Perm.cons _ hR).trans (List.Perm.swap _ _ _))

theorem XI.next (h : XI N σ F par d rt i τ B j R) (hj : j ≠ 0) (hR : R.Perm ((t, u) :: R2)) (hjt : j ∈ t.nodes)
    (hrep : Rep τ' (.node false l j r) u) (hseq : (BT.node false l j r).seq = t.seq) (hperm : (BT.node false l j r).nodes.Perm t.nodes) (hrot : Rotated τ τ' t.nodes) :
    XI N σ F par d rt i (xstep τ' j B.root) (.node false l j B) u ((r, j) :: R2) ∧ ((τ' j).k1 = r.root ∧ (xst2 τ' j B.root j).k0 ≠ j ∧ (xst2 τ' j B.root j).k1 ≠ j ∧ InR N (xst2 τ' j B.root)) ∧ (u ≠ 0 → d u < d j) ∧ (xstep τ' j B.root j).up = u := by
  have h2 := h.lf2 hR
  have h3 := h2.splay hrep hseq hperm hrot
  obtain ⟨h4, hoth, hkey, hk1, hq0, hq1, hin⟩ := h3.xstep
  have mt : (t, u) ∈ (t, u) :: (B, j) :: R2 := by simp
  have hst := h2.same mt
  have hrj := h.rtj hj
  have hrt : ∀ x ∈ t.nodes, rt x = rt i := fun x hx => (hst.1 x hx j hjt).trans hrj
  have hru : u ≠ 0 → rt u = rt i := fun hu => (hst.2 hu j hjt).symm.trans hrj
  have mB : (BT.node false l j B, u) ∈ (BT.node false l j B, u) :: (r, j) :: R2 := by simp
  refine ⟨⟨h4, fun x => (hkey x).trans ((hrot.lk x).2.trans (h.key x)), fun x hx => ?_, fun p hp hx => ?_, hru, fun x hx => ?_, .inr ?_, fun hu T => ?_, fun hu => ?_⟩, ⟨hk1, hq0, hq1, hin⟩, fun hu => ?_, ?_⟩
  · rw [hoth x (fun e => hx (by rw [e]; exact hrj)), hrot.other x (fun e => hx (hrt x e)), h.frame x hx]
  · have h5 := hR.mem_iff.1 (h.trees p hp hx)
    rcases List.mem_cons.1 h5 with rfl | h5
    · obtain ⟨x, hx, hne⟩ := hx; exact absurd (hrt x hx) hne
    · simp [h5]
  · exact ((h4.same mB).1 x hx j (by simp [BT.nodes])).trans hrj
  · simp only [BT.seq, Bool.false_eq_true, if_false]
    rcases h.last with ⟨rfl, rfl⟩ | ⟨S, hS⟩
    · exact ⟨l.seq, rfl⟩
    · exact ⟨l.seq ++ j :: S, by rw [hS]; simp⟩
  · rw [h.tops hj T, hR.mem_iff]
    simp only [List.mem_cons, Prod.mk.injEq]
    constructor
    · rintro (⟨_, e⟩ | e)
      · exact absurd e.symm hu
      · exact .inr e
    · rintro (⟨_, e⟩ | e)
      · exact absurd e.symm hj
      · exact .inr e
  · subst hu
    refine ⟨t, l.seq, B.seq, r.seq, (h.tops hj t).2 (hR.mem_iff.2 (by simp)), ?_, ?_, fun x hx => ?_⟩
    · rw [← hseq]; simp [BT.seq, BT.root]
    · simp [BT.seq, BT.root]
    · exact fun e => h2.disj (p := (B, j)) (by simp) x e (seq_mem.1 hx)
  · exact ch_dep h2.dep (h2.ch _ mt) (h2.seq0 mt) hu j (seq_mem.2 hjt)
  · exact (h4.rep _ mB).1.2.1

theorem XI.done (h : XI N σ F par d rt i τ B 0 R) (hi : i ≠ 0) : i ∈ B.nodes ∧ ∃ S, B.seq = S ++ [i] := by
  rcases h.last with ⟨_, e⟩ | ⟨S, hS⟩
  · exact absurd e.symm hi
  · exact ⟨seq_mem.1 (by rw [hS]; simp), S, hS⟩
end

/-- What expose makes. -/
structure Exposed (N : Nat) (σ : Tbl) (F : Fst) (par d rt : Nat → Nat) (i m : Nat) (τ : Tbl) (l : BT) (R : Fst) : Prop where
  lf : LF N τ ((.node false l i .nil, 0) :: R) par d rt
  key : ∀ x, (τ x).key = (σ x).key
  frame : ∀ x, rt x ≠ rt i → τ x = σ x
  trees : ∀ p ∈ F, (∃ x ∈ p.1.nodes, rt x ≠ rt i) → p ∈ R
  meets : ∃ T0 A Bq Rq, (T0, 0) ∈ F ∧ T0.seq = A ++ m :: Rq ∧ l.seq ++ [i] = A ++ m :: Bq ∧ ∀ x ∈ Bq, x ∉ T0.nodes

theorem XI.exposed {N : Nat} {σ τ τ' : Tbl} {F R : Fst} {par d rt : Nat → Nat} {i : Nat} {B l r : BT} (h : XI N σ F par d rt i τ B 0 R) (hi : i ≠ 0) (hrep : Rep τ' (.node false l i r) 0) (hseq : (BT.node false l i r).seq = B.seq) (hperm : (BT.node false l i r).nodes.Perm B.nodes) (hrot : Rotated τ τ' B.nodes) :
    Exposed N σ F par d rt i B.root τ' l R := by
  have h1 := h.lf.splay hrep hseq hperm hrot
  obtain ⟨hiB, S, hS⟩ := h.done hi
  have hnd : (l.seq ++ i :: r.seq).Nodup := by
    have := h1.nd
    rw [fnodes_cons, List.nodup_append] at this
    have h2 := (BT.seq_perm (.node false l i r)).nodup_iff.2 this.1
    simpa [BT.seq] using h2
  have he : l.seq ++ i :: r.seq = S ++ [i] := by
    have : (BT.node false l i r).seq = l.seq ++ i :: r.seq := by simp [BT.seq]
    rw [← this, hseq, hS]
  obtain ⟨hr, hl⟩ := last_eq he hnd
  have hrn := nil_of_seq hr
  subst hrn
  refine ⟨h1, fun x => ((hrot.lk x).2).trans (h.key x), fun x hx => ?_, h.trees, ?_⟩
  · rw [hrot.other x (fun e => hx (h.rtB x e)), h.frame x hx]
  · obtain ⟨T0, A, Bq, Rq, a1, a2, a3, a4⟩ := h.fin rfl
    exact ⟨T0, A, Bq, Rq, a1, a2, by rw [hl, ← hS]; exact a3, a4⟩

end Go.Proofs.YtgmnemndjjmgkaaGreat

/- lct: rooted forests given by parents; their edges; another root; paths. -/
namespace Go.Proofs.YtgmnemndjjmgkaaGreat
open Go.RowKit

def Adj (par : Nat → Nat) (x y : Nat) : Prop := x ≠ 0 ∧ y ≠ 0 ∧ (par x = y ∨ par y = x)
theorem Adj.symm {par : Nat → Nat} {x y : Nat} (h : Adj par x y) : Adj par y x := ⟨h.2.1, h.1, h.2.2.symm⟩

/-- Parents, with depths and roots. -/
structure Rtd (par d rt : Nat → Nat) : Prop where
  dep : ∀ x, par x ≠ 0 → d (par x) < d x
  rt0 : ∀ x, par x = 0 → rt x = x
  rt1 : ∀ x, par x ≠ 0 → rt x = rt (par x)

theorem LF.rtd {N : Nat} {σ : Tbl} {F : Fst} {par d rt : Nat → Nat} (h : LF N σ F par d rt) : Rtd par d rt := ⟨h.dep, h.rt0, h.rt1⟩

def rtF (par : Nat → Nat) : Nat → Nat → Nat
  | 0, x => x
  | k + 1, x => if par x = 0 then x else rtF par k (par x)
theorem rtF_le {par d : Nat → Nat} (dep : ∀ x, par x ≠ 0 → d (par x) < d x) : ∀ (k : Nat) (x m : Nat), d x ≤ k → d x ≤ m → rtF par k x = rtF par m x := by
  intro k
  induction k with
  | zero =>
    intro x m hk hm
    have h0 : par x = 0 := by
      apply Classical.byContradiction; intro h; have := dep x h; omega
    cases m with
    | zero => rfl
    | succ m => simp [rtF, h0]
  | succ k ih =>
    intro x m hk hm
    by_cases h0 : par x = 0
    · cases m with
      | zero => simp [rtF, h0]
      | succ m => simp [rtF, h0]
    · have := dep x h0
      cases m with
      | zero => omega
      | succ m => simp only [rtF, if_neg h0]; exact ih _ _ (by omega) (by omega)
theorem rt_ex {par d : Nat → Nat} (dep : ∀ x, par x ≠ 0 → d (par x) < d x) : ∃ rt, Rtd par d rt := by
  refine ⟨fun x => rtF par (d x) x, dep, fun x h => ?_, fun x h => ?_⟩
  · cases e : d x with
    | zero => simp [rtF]
    | succ k => simp [rtF, h]
  · have := dep x h
    show rtF par (d x) x = rtF par (d (par x)) (par x)
    obtain ⟨k, hk⟩ : ∃ k, d x = k + 1 := ⟨d x - 1, by omega⟩
    rw [hk]; simp only [rtF, if_neg h]
    exact rtF_le dep _ _ _ (by omega) (by omega)

section
variable {par d rt : Nat → Nat}
theorem Rtd.root (h : Rtd par d rt) : ∀ (k x : Nat), d x ≤ k → par (rt x) = 0 := by
  intro k
  induction k with
  | zero =>
    intro x hk
    have h0 : par x = 0 := by
      apply Classical.byContradiction; intro e; have := h.dep x e; omega
    rw [h.rt0 x h0]; exact h0
  | succ k ih =>
    intro x hk
    by_cases h0 : par x = 0
    · rw [h.rt0 x h0]; exact h0
    · rw [h.rt1 x h0]; have := h.dep x h0; exact ih _ (by omega)
theorem Rtd.par_rt (h : Rtd par d rt) (x : Nat) : par (rt x) = 0 := h.root _ x (Nat.le_refl _)
theorem Rtd.idem (h : Rtd par d rt) (x : Nat) : rt (rt x) = rt x := h.rt0 _ (h.par_rt x)
theorem Rtd.adj (h : Rtd par d rt) {x y : Nat} (ha : Adj par x y) : rt x = rt y := by
  rcases ha with ⟨hx, hy, e | e⟩
  · rw [h.rt1 x (by rw [e]; exact hy), e]
  · rw [h.rt1 y (by rw [e]; exact hx), e]
theorem Rtd.irrefl (h : Rtd par d rt) (x : Nat) : ¬ Adj par x x := by
  rintro ⟨hx, _, e | e⟩ <;> · have := h.dep x (by rw [e]; exact hx); rw [e] at this; omega

/-- From every vertex the chain of its ancestors leads up to a root. -/
theorem Rtd.chain (h : Rtd par d rt) : ∀ (k x : Nat), d x ≤ k → x ≠ 0 → ∃ S, Ch par 0 (S ++ [x]) ∧ (S ++ [x]).Nodup ∧ (∀ y ∈ S ++ [x], y ≠ 0) ∧ (∀ y ∈ S, d y < d x) := by
  intro k
  induction k with
  | zero =>
    intro x hk hx
    have h0 : par x = 0 := by
      apply Classical.byContradiction; intro e; have := h.dep x e; omega
    exact ⟨[], ⟨h0, trivial⟩, by simp, by simpa using hx, by simp⟩
  | succ k ih =>
    intro x hk hx
    by_cases h0 : par x = 0
    · exact ⟨[], ⟨h0, trivial⟩, by simp, by simpa using hx, by simp⟩
    · have hd := h.dep x h0
      obtain ⟨S, h1, h2, h3, h4⟩ := ih (par x) (by omega) h0
      have hlt : ∀ y ∈ S ++ [par x], d y < d x := by
        intro y hy
        rcases List.mem_append.1 hy with hy | hy
        · have := h4 y hy; omega
        · simp at hy; rw [hy]; exact hd
      refine ⟨S ++ [par x], ?_, ?_, ?_, hlt⟩
      · rw [List.append_assoc]; exact ch_mid.2 ⟨h1, rfl, trivial⟩
      · rw [List.nodup_append]
        exact ⟨h2, by simp, fun a ha b hb => by simp at hb; subst hb; rintro rfl; have := hlt a ha; omega⟩
      · intro y hy
        rcases List.mem_append.1 hy with hy | hy
        · exact h3 y hy
        · simp at hy; rw [hy]; exact hx
end

def pv : Nat → List Nat → Nat → Nat
  | _, [], _ => 0
  | u, y :: l, x => if x = y then u else pv y l x
theorem ch_pv : ∀ {u : Nat} {L : List Nat}, L.Nodup → Ch (pv u L) u L
  | _, [], _ => trivial
  | u, y :: l, h => by
    have hy : y ∉ l := (List.nodup_cons.1 h).1
    refine ⟨by simp [pv], ch_congr (fun x hx => ?_) (ch_pv (u := y) (List.nodup_cons.1 h).2)⟩
    simp only [pv]; rw [if_neg (by rintro rfl; exact hy hx)]
theorem ch_split {par : Nat → Nat} {x : Nat} : ∀ {u : Nat} {L : List Nat}, Ch par u L → x ∈ L → (∃ B, L = x :: B ∧ par x = u) ∨ ∃ A B, L = A ++ par x :: x :: B
  | u, y :: l, ⟨e, hc⟩, hx => by
    rcases List.mem_cons.1 hx with rfl | hx
    · exact .inl ⟨l, rfl, e⟩
    · rcases ch_split hc hx with ⟨B, hB, hp⟩ | ⟨A, B, hA⟩
      · exact .inr ⟨[], B, by rw [hB, hp]; rfl⟩
      · exact .inr ⟨y :: A, B, by rw [hA]; rfl⟩
theorem ch_at {par : Nat → Nat} {u x y : Nat} {A B : List Nat} (h : Ch par u (A ++ y :: x :: B)) : par x = y := (ch_mid.1 h).2.1

/-- Another root: the path down to i is turned. -/
theorem reroot {par d rt : Nat → Nat} (h : Rtd par d rt) {S : List Nat} {i : Nat} (hn : (S ++ [i]).Nodup) (hz : ∀ x ∈ S ++ [i], x ≠ 0) (hc : Ch par 0 (S ++ [i])) :
    ∃ par' d' rt', Rtd par' d' rt' ∧ (∀ x, x ∉ S ++ [i] → par' x = par x) ∧ Ch par' 0 (S ++ [i]).reverse ∧ (∀ x y, Adj par' x y ↔ Adj par x y) ∧ (∀ x y, rt' x = rt' y ↔ rt x = rt y) ∧ rt' i = i ∧ par' i = 0 := by
  generalize hL : S ++ [i] = L at *
  have hrev : L.reverse = i :: S.reverse := by rw [← hL]; simp
  have hiL : i ∈ L := by rw [← hL]; simp
  obtain ⟨par', hp'⟩ : ∃ par' : Nat → Nat, par' = fun x => if x ∈ L then pv 0 L.reverse x else par x := ⟨_, rfl⟩
  have hout : ∀ x, x ∉ L → par' x = par x := fun x hx => by rw [hp']; simp [hx]
  have hc' : Ch par' 0 L.reverse := ch_congr (fun x hx => by rw [hp']; simp only [List.mem_reverse] at hx; simp [hx]) (ch_pv (u := 0) (((List.reverse_perm L).nodup_iff.2 hn)))
  have hpi : par' i = 0 := by rw [hrev] at hc'; exact hc'.1
  -- within the path the pointers are turned
  have turn1 : ∀ x ∈ L, par x ≠ 0 → par x ∈ L ∧ par' (par x) = x := by
    intro x hx h0
    rcases ch_split hc hx with ⟨B, _, e⟩ | ⟨A, B, e⟩
    · exact absurd e h0
    · refine ⟨by rw [e]; simp, ?_⟩
      have e2 : L.reverse = B.reverse ++ x :: par x :: A.reverse := by rw [e]; simp
      rw [e2] at hc'; exact ch_at hc'
  have turn2 : ∀ x ∈ L, par' x ≠ 0 → par' x ∈ L ∧ par (par' x) = x := by
    intro x hx h0
    rcases ch_split hc' (List.mem_reverse.2 hx) with ⟨B, _, e⟩ | ⟨A, B, e⟩
    · exact absurd e h0
    · have e2 : L = B.reverse ++ x :: par' x :: A.reverse := by
        have := congrArg List.reverse e; simpa using this
      exact ⟨by rw [e2]; simp, by rw [e2] at hc; exact ch_at hc⟩
  have hrtL : ∀ x ∈ L, rt x = rt i := by
    cases hL0 : L with
    | nil => rw [hL0] at hiL; cases hiL
    | cons y l =>
      rw [hL0] at hc hz hiL
      intro x hx
      rw [ch_rt_head h.rt0 h.rt1 hc hz x hx, ch_rt_head h.rt0 h.rt1 hc hz i hiL]
  have hroot : ∀ x, par x = 0 → rt x = rt i → x ∈ L := by
    intro x hx he
    cases hL0 : L with
    | nil => rw [hL0] at hiL; cases hiL
    | cons y l =>
      rw [hL0] at hc hz hiL
      have := ch_rt_head h.rt0 h.rt1 hc hz i hiL
      rw [h.rt0 x hx] at he
      rw [he, this]; simp
  refine ⟨par', fun x => if x ∈ L then L.reverse.idxOf x else d x + L.length, fun x => if rt x = rt i then i else rt x, ⟨fun x h0 => ?_, fun x h0 => ?_, fun x h0 => ?_⟩, hout, hc', ?_, ?_, by simp, hpi⟩
  · by_cases hx : x ∈ L
    · rcases ch_split hc' (List.mem_reverse.2 hx) with ⟨B, _, e⟩ | ⟨A, B, e⟩
      · exact absurd e h0
      · have hm := (turn2 x hx h0).1
        simp only [if_pos hx, if_pos hm]
        have hnr := ((List.reverse_perm L).nodup_iff.2 hn)
        rw [e] at hnr ⊢
        generalize par' x = y at *
        have n1 : y ∉ A := fun ha => (List.nodup_append.1 hnr).2.2 y ha y (by simp) rfl
        have n2 : x ∉ A := fun ha => (List.nodup_append.1 hnr).2.2 x ha x (by simp) rfl
        have n3 : x ≠ y := by
          have := (List.nodup_cons.1 (List.nodup_append.1 hnr).2.1).1
          rintro rfl; exact this (by simp)
        have n4 : ¬ y = x := fun e => n3 e.symm
        rw [List.idxOf_append, if_neg n1, List.idxOf_append, if_neg n2]
        have n5 : (y == x) = false := beq_eq_false_iff_ne.2 n4
        simp [List.idxOf_cons, n5]
    · rw [hout x hx] at h0 ⊢
      have hd := h.dep x h0
      simp only [if_neg hx]
      by_cases hm : par x ∈ L
      · simp only [if_pos hm]
        have := List.idxOf_lt_length_of_mem (List.mem_reverse.2 hm)
        rw [List.length_reverse] at this; omega
      · simp only [if_neg hm]; omega
  · show (if rt x = rt i then i else rt x) = x
    by_cases hx : x ∈ L
    · rw [if_pos (hrtL x hx)]
      rcases ch_split hc' (List.mem_reverse.2 hx) with ⟨B, e, _⟩ | ⟨A, B, e⟩
      · rw [hrev] at e; exact (List.cons.inj e).1
      · exfalso
        have : par' x ∈ L := by rw [← List.mem_reverse, e]; simp
        exact hz _ this h0
    · rw [hout x hx] at h0
      rw [if_neg (fun e => hx (hroot x h0 e)), h.rt0 x h0]
  · show (if rt x = rt i then i else rt x) = if rt (par' x) = rt i then i else rt (par' x)
    by_cases hx : x ∈ L
    · rw [if_pos (hrtL x hx), if_pos (hrtL _ (turn2 x hx h0).1)]
    · rw [hout x hx] at h0 ⊢
      rw [h.rt1 x h0]
  · intro x y
    constructor
    · rintro ⟨hx, hy, e⟩
      refine ⟨hx, hy, ?_⟩
      have key : ∀ x y, y ≠ 0 → par' x = y → par x = y ∨ par y = x := by
        intro x y hy e
        by_cases hxL : x ∈ L
        · right; have := (turn2 x hxL (by rw [e]; exact hy)).2; rwa [e] at this
        · left; rw [← hout x hxL]; exact e
      rcases e with e | e
      · exact key x y hy e
      · exact (key y x hx e).symm
    · rintro ⟨hx, hy, e⟩
      refine ⟨hx, hy, ?_⟩
      have key : ∀ x y, y ≠ 0 → par x = y → par' x = y ∨ par' y = x := by
        intro x y hy e
        by_cases hxL : x ∈ L
        · right; have := (turn1 x hxL (by rw [e]; exact hy)).2; rwa [e] at this
        · left; rw [hout x hxL]; exact e
      rcases e with e | e
      · exact key x y hy e
      · exact (key y x hx e).symm
  · intro x y
    show (if rt x = rt i then i else rt x) = (if rt y = rt i then i else rt y) ↔ _
    have hne : ∀ z, rt z ≠ rt i → i ≠ rt z := by
      rintro z hz rfl
      exact hz (h.idem z).symm
    by_cases h1 : rt x = rt i
    · by_cases h2 : rt y = rt i
      · rw [if_pos h1, if_pos h2, h1, h2]; simp
      · rw [if_pos h1, if_neg h2, h1]
        exact ⟨fun e => absurd e (hne y h2), fun e => absurd e.symm h2⟩
    · by_cases h2 : rt y = rt i
      · rw [if_neg h1, if_pos h2, h2]
        exact ⟨fun e => absurd e.symm (hne x h1), fun e => absurd e h1⟩
      · rw [if_neg h1, if_neg h2]

end Go.Proofs.YtgmnemndjjmgkaaGreat

namespace Go.Proofs.YtgmnemndjjmgkaaGreat
open Go.RowKit

section
variable {N : Nat} {σ : Tbl} {R : Fst} {par d rt : Nat → Nat} {l Ta : BT} {i a b : Nat}

theorem LF.top_seq (h : LF N σ ((.node false l i .nil, 0) :: R) par d rt) : (l.seq ++ [i]).Nodup ∧ (∀ x ∈ l.seq ++ [i], x ≠ 0) ∧ Ch par 0 (l.seq ++ [i]) := by
  have m1 : (BT.node false l i .nil, 0) ∈ (BT.node false l i .nil, 0) :: R := by simp
  have e : (BT.node false l i .nil).seq = l.seq ++ [i] := by simp [BT.seq]
  have hnd := h.nd
  rw [fnodes_cons, List.nodup_append] at hnd
  exact ⟨by rw [← e]; exact (BT.seq_perm _).nodup_iff.2 hnd.1, by rw [← e]; exact h.seq0 m1, by rw [← e]; exact h.ch _ m1⟩

theorem LF.lead (h : LF N σ ((.node false l i .nil, 0) :: R) par d rt) : ∃ par' d' rt', LF N (σ.upd i { σ i with flip := true }) ((.node true l i .nil, 0) :: R) par' d' rt' ∧ (∀ x y, Adj par' x y ↔ Adj par x y) ∧ (∀ x y, rt' x = rt' y ↔ rt x = rt y) ∧ rt' i = i ∧ par' i = 0 := by
  obtain ⟨hn, hz, hc⟩ := h.top_seq
  obtain ⟨par', d', rt', hR, hout, hc', hadj, hrt, hi, hpi⟩ := reroot h.rtd hn hz hc
  have m1 : (BT.node false l i .nil, 0) ∈ (BT.node false l i .nil, 0) :: R := by simp
  have hseq : ∀ x, x ∈ l.seq ++ [i] ↔ x ∈ (BT.node false l i .nil).nodes := by
    intro x; rw [← seq_mem]; simp [BT.seq]
  have hnd := h.nd
  rw [fnodes_cons, List.nodup_append] at hnd
  have hi1 : i ∉ l.nodes := by have := hnd.1; simp only [BT.nodes, List.nodup_append] at this; exact fun e => this.2.2 i e i (by simp) rfl
  have hoth : ∀ x, x ≠ i → (σ.upd i { σ i with flip := true }) x = σ x := fun x hx => upd_other hx
  have hii : (σ.upd i { σ i with flip := true }) i = { σ i with flip := true } := upd_same _ _ _
  have hlk : ∀ x, ((σ.upd i { σ i with flip := true }) x).light = (σ x).light ∧ ((σ.upd i { σ i with flip := true }) x).key = (σ x).key := by
    intro x
    by_cases e : x = i
    · subst e; rw [hii]; exact ⟨rfl, rfl⟩
    · rw [hoth x e]; exact ⟨rfl, rfl⟩
  refine ⟨par', d', rt', ⟨fun p hp => ?_, h.nd, h.mem, fun p hp => ?_, fun p hp => ?_, hR.dep, fun x hx => ?_, hR.rt0, hR.rt1, fun v h1 h2 => ?_, ?_, h.pos⟩, hadj, hrt, hi, hpi⟩
  · rcases List.mem_cons.1 hp with rfl | hp
    · obtain ⟨q1, q2, q3, q4, q5, q6⟩ := h.rep _ m1
      refine ⟨by rw [hii]; exact ⟨q1.1, q1.2.1, rfl, q1.2.2.2⟩, q2.congr (fun x hx => hoth x (fun e => hi1 (e ▸ hx))), trivial, by rw [hii]; exact q4, ?_, ?_⟩
      · rw [hii, tot_congr (fun x _ => (hlk x).1)]; exact q5
      · rw [hii]; exact best_congr (fun x _ => (hlk x).2) q6
    · exact (h.rep p (by simp [hp])).congr (fun x hx => hoth x (fun e => hnd.2.2 i (by simp [BT.nodes]) i (mem_fnodes.2 ⟨p, hp, e ▸ hx⟩) rfl))
  · rcases List.mem_cons.1 hp with rfl | hp
    · exact h.pos
    · exact h.up p (by simp [hp])
  · rcases List.mem_cons.1 hp with rfl | hp
    · show Ch par' 0 (BT.node true l i .nil).seq
      simp only [BT.seq, if_true]; exact hc'
    · refine ch_congr (fun x hx => hout x ?_) (h.ch p (by simp [hp]))
      rw [hseq]
      exact fun e => hnd.2.2 x e x (mem_fnodes.2 ⟨p, hp, seq_mem.1 hx⟩) rfl
  · rw [hout x ?_]
    · exact h.none x hx
    · rw [hseq]; exact fun e => hx ((h.mem x).1 (by rw [fnodes_cons]; simp only [List.mem_append]; exact .inl e))
  · rw [(hlk v).1, h.light v h1 h2, lsum_congr (σ := σ) (σ' := σ.upd i { σ i with flip := true }) (fun x _ => (hlk x).1)]; rfl
  · have : (0 : Nat) ≠ i := fun e => hz i (by simp) e.symm
    rw [hoth 0 this]; exact h.zero

/-- An edge between two trees: a is the top of the one, b the last vertex of the other's path. -/
def lnk1 (σ : Tbl) (a b : Nat) : Tbl := σ.upd a { σ a with up := b }
def lnk2 (σ : Tbl) (a b : Nat) : Tbl := (lnk1 σ a b).upd b { lnk1 σ a b b with light := wrap64 ((lnk1 σ a b b).light + (lnk1 σ a b a).total) }
theorem LF.link (h : LF N σ ((Ta, 0) :: (.node false l b .nil, 0) :: R) par d rt) (hra : Ta.root = a) (ha0 : a ≠ 0) (ha : rt a = a) (hab : rt b ≠ a) :
    (∃ par' d' rt', LF N (refresh (lnk2 σ a b) b) ((Ta, b) :: (.node false l b .nil, 0) :: R) par' d' rt' ∧ (∀ x y, Adj par' x y ↔ Adj par x y ∨ (x = a ∧ y = b) ∨ (x = b ∧ y = a))) ∧
      (∀ x, (refresh (lnk2 σ a b) b x).key = (σ x).key) ∧ (lnk2 σ a b b).k0 ≠ b ∧ (lnk2 σ a b b).k1 ≠ b ∧ InR N (lnk2 σ a b) := by
  have m1 : (Ta, 0) ∈ (Ta, 0) :: (BT.node false l b .nil, 0) :: R := by simp
  have m2 : (BT.node false l b .nil, 0) ∈ (Ta, 0) :: (BT.node false l b .nil, 0) :: R := by simp
  have haT : a ∈ Ta.nodes := hra ▸ BT.root_mem (by rw [hra]; exact ha0)
  have hTa := h.rep _ m1
  obtain ⟨⟨hb0, hbu, hbf, hk0, hk1⟩, hl, hr, _⟩ := h.rep _ m2
  have hnd := h.nd
  simp only [fnodes_cons, BT.nodes, List.nodup_append, List.nodup_cons, List.mem_append, List.mem_cons, List.append_assoc, List.cons_append, List.nil_append] at hnd
  have dbl : b ∉ l.nodes := by grind
  have dbT : b ∉ Ta.nodes := by grind
  have dbR : b ∉ fnodes R := by grind
  have dal : a ∉ l.nodes := by grind
  have daR : a ∉ fnodes R := by grind
  have ndT : Ta.nodes.Nodup := by grind
  have hne : a ≠ b := fun e => dbT (e ▸ haT)
  have hne' : b ≠ a := fun e => hne e.symm
  have hbN := (h.lt m2 (x := b) (by simp [BT.nodes])).2
  have haN := (h.lt m1 haT).2
  have l1b : lnk1 σ a b b = σ b := upd_other hne'
  have l1a : lnk1 σ a b a = { σ a with up := b } := upd_same _ _ _
  have l2 : ∀ x, x ≠ a → x ≠ b → lnk2 σ a b x = σ x := fun x e1 e2 => by unfold lnk2 lnk1; rw [upd_other e2, upd_other e1]
  have l2a : lnk2 σ a b a = { σ a with up := b } := by unfold lnk2; rw [upd_other hne, l1a]
  have l2b : lnk2 σ a b b = { σ b with light := wrap64 ((σ b).light + (σ a).total) } := by unfold lnk2; rw [upd_same, l1b, l1a]
  have htA : (σ a).total = wrap64 (tot σ Ta.nodes) := by rw [← hra]; exact total_root h.zero.1 hTa
  have r3 : ∀ x, x ≠ b → refresh (lnk2 σ a b) b x = lnk2 σ a b x := fun x hx => refresh_other hx
  have lk3 := @refresh_links (lnk2 σ a b) b b
  have hkey : ∀ x, (refresh (lnk2 σ a b) b x).key = (σ x).key := by
    intro x
    rw [refresh_links.2.2.2.2.1]
    by_cases e1 : x = a
    · subst e1; rw [l2a]
    · by_cases e2 : x = b
      · subst e2; rw [l2b]
      · rw [l2 x e1 e2]
  have hlt3 : ∀ x, x ≠ b → (refresh (lnk2 σ a b) b x).light = (σ x).light := by
    intro x hx
    rw [r3 x hx]
    by_cases e1 : x = a
    · subst e1; rw [l2a]
    · rw [l2 x e1 hx]
  have hq0 : (lnk2 σ a b b).k0 ≠ b := by
    rw [l2b]; show (σ b).k0 ≠ b; rw [hk0]; intro e; exact dbl (e ▸ BT.root_mem (by rw [e]; exact hb0))
  have hq1 : (lnk2 σ a b b).k1 ≠ b := by rw [l2b]; show (σ b).k1 ≠ b; rw [hk1]; exact fun e => hb0 e.symm
  have hin : InR N (lnk2 σ a b) := by
    have hi := h.inR
    intro x hx
    by_cases e1 : x = a
    · subst e1; rw [l2a]; exact ⟨(hi x hx).1, (hi x hx).2.1, hbN, (hi x hx).2.2.2⟩
    · by_cases e2 : x = b
      · subst e2; rw [l2b]; exact hi x hx
      · rw [l2 x e1 e2]; exact hi x hx
  refine ⟨⟨fun x => if x = a then b else par x, fun x => if rt x = a then d x + d b + 1 else d x, fun x => if rt x = a then rt b else rt x, ⟨fun p hp => ?_, h.nd, h.mem, fun p hp => ?_, fun p hp => ?_, fun x hx => ?_, fun x hx => ?_, fun x hx => ?_, fun x hx => ?_, fun v h1 h2 => ?_, ?_, h.pos⟩, fun x y => ?_⟩, hkey, hq0, hq1, hin⟩
  · rcases List.mem_cons.1 hp with rfl | hp
    · have : Rep (lnk2 σ a b) Ta b := hTa.reup ndT (fun x hx hxr => l2 x (by rw [← hra]; exact hxr) (fun e => dbT (e ▸ hx))) (fun _ => by rw [hra]; exact l2a)
      exact this.congr (fun x hx => r3 x (fun e => dbT (e ▸ hx)))
    rcases List.mem_cons.1 hp with rfl | hp
    · refine refresh_rep hb0 (by rw [l2b]; exact hbu) (by rw [l2b]; exact hbf) (by rw [l2b]; exact hk0) (by rw [l2b]; exact hk1) (hl.congr (fun x hx => l2 x (fun e => dal (e ▸ hx)) (fun e => dbl (e ▸ hx)))) trivial dbl (by simp [BT.nodes])
    · refine (h.rep p (by simp [hp])).congr (fun x hx => ?_)
      have hxR := mem_fnodes.2 ⟨p, hp, hx⟩
      rw [r3 x (fun e => dbR (e ▸ hxR)), l2 x (fun e => daR (e ▸ hxR)) (fun e => dbR (e ▸ hxR))]
  · rcases List.mem_cons.1 hp with rfl | hp
    · exact hbN
    rcases List.mem_cons.1 hp with rfl | hp
    · exact h.pos
    · exact h.up p (by simp [hp])
  · rcases List.mem_cons.1 hp with rfl | hp
    · have hc := h.ch _ m1
      have h0 := h.seq0 m1
      have haS := seq_mem.2 haT
      have hndS := (BT.seq_perm Ta).nodup_iff.2 ndT
      show Ch (fun x => if x = a then b else par x) b Ta.seq
      dsimp only at hc h0
      generalize Ta.seq = s at *
      cases s with
      | nil => trivial
      | cons y s =>
        have hy : y = a := by rw [← ch_rt_head h.rt0 h.rt1 hc h0 a haS, ha]
        subst hy
        refine ⟨by simp, ch_congr (fun x hx => ?_) hc.2⟩
        rw [if_neg (by rintro rfl; exact (List.nodup_cons.1 hndS).1 hx)]
    rcases List.mem_cons.1 hp with rfl | hp
    · refine ch_congr (fun x hx => ?_) (h.ch _ m2)
      rw [if_neg]
      rintro rfl
      have := seq_mem.1 hx
      simp only [BT.nodes, List.mem_append, List.mem_cons, List.not_mem_nil, or_false] at this
      exact this.elim dal hne
    · refine ch_congr (fun x hx => ?_) (h.ch p (by simp [hp]))
      rw [if_neg]
      rintro rfl
      exact daR (mem_fnodes.2 ⟨p, hp, seq_mem.1 hx⟩)
  · try dsimp only at hx ⊢
    by_cases e : x = a
    · subst e
      simp only [if_true, ha, if_neg hab]; omega
    · rw [if_neg e] at hx ⊢
      have := h.dep x hx
      rw [h.rt1 x hx]
      split <;> omega
  · try dsimp only
    have hxa : x ≠ a := by rintro rfl; exact hx ⟨by omega, haN⟩
    rw [if_neg hxa]; exact h.none x hx
  · try dsimp only at hx ⊢
    by_cases e : x = a
    · rw [if_pos e] at hx; exact absurd hx hb0
    · rw [if_neg e] at hx
      rw [h.rt0 x hx, if_neg e]
  · try dsimp only at hx ⊢
    by_cases e : x = a
    · subst e
      simp only [if_true, ha, if_neg hab]
    · rw [if_neg e] at hx ⊢
      rw [h.rt1 x hx]
  · have eT : tot (refresh (lnk2 σ a b) b) Ta.nodes = tot σ Ta.nodes := tot_congr (fun x hx => hlt3 x (fun e => dbT (e ▸ hx)))
    have eR : lsum (refresh (lnk2 σ a b) b) R v = lsum σ R v := lsum_congr (fun x hx => hlt3 x (fun e => dbR (e ▸ hx)))
    have hlv := h.light v h1 h2
    have hv0 : ¬ (0 = v) := by omega
    simp only [lsum, if_neg hv0] at hlv ⊢
    rw [eT, eR]
    by_cases ev : b = v
    · subst ev
      rw [if_pos rfl, lk3.2.2.2.2.2, l2b]
      show wrap64 ((σ b).light + (σ a).total) = _
      rw [hlv, htA]; unfold wrap64; omega
    · rw [if_neg ev, hlt3 v (fun e => ev e.symm), hlv]
  · have h0a : (0 : Nat) ≠ a := fun e => ha0 e.symm
    have h0b : (0 : Nat) ≠ b := fun e => hb0 e.symm
    rw [r3 0 h0b, l2 0 h0a h0b]; exact h.zero
  · have hpa : par a = 0 := by
      have := h.rtd.par_rt a; rwa [ha] at this
    constructor
    · rintro ⟨hx, hy, e⟩
      dsimp only at e
      rcases e with e | e
      · by_cases ex : x = a
        · rw [if_pos ex] at e; exact .inr (.inl ⟨ex, e.symm⟩)
        · rw [if_neg ex] at e; exact .inl ⟨hx, hy, .inl e⟩
      · by_cases ey : y = a
        · rw [if_pos ey] at e; exact .inr (.inr ⟨e.symm, ey⟩)
        · rw [if_neg ey] at e; exact .inl ⟨hx, hy, .inr e⟩
    · rintro (⟨hx, hy, e⟩ | ⟨rfl, rfl⟩ | ⟨rfl, rfl⟩)
      · refine ⟨hx, hy, ?_⟩
        dsimp only
        rcases e with e | e
        · left; rw [if_neg]; exact e
          rintro rfl; rw [hpa] at e; exact hy e.symm
        · right; rw [if_neg]; exact e
          rintro rfl; rw [hpa] at e; exact hx e.symm
      · exact ⟨ha0, hb0, .inl (by simp)⟩
      · exact ⟨hb0, ha0, .inr (by simp)⟩

theorem single_of_seq {t : BT} {a : Nat} (h : t.seq = [a]) : ∃ f, t = .node f .nil a .nil := by
  cases t with
  | nil => cases h
  | node f l v r =>
    have e : l.seq ++ v :: r.seq = [a] := by
      cases f with
      | false => simpa [BT.seq] using h
      | true =>
        have := congrArg List.reverse h
        simpa [BT.seq] using this
    have hl : l.seq = [] := by
      cases hls : l.seq with
      | nil => rfl
      | cons x s => rw [hls] at e; simp at e
    rw [hl] at e
    simp at e
    have h1 := nil_of_seq hl
    have h2 := nil_of_seq e.2
    subst h1; subst h2
    exact ⟨f, by rw [e.1]⟩

def cut1 (σ : Tbl) (a : Nat) : Tbl := σ.upd a { σ a with up := 0 }
def cut2 (σ : Tbl) (a b : Nat) : Tbl := (cut1 σ a).upd b { cut1 σ a b with k0 := 0 }
/-- The edge from a to b below it is removed. -/
theorem LF.cut (h : LF N σ ((.node false l b .nil, 0) :: R) par d rt) (hl : l.seq = [a]) :
    (∃ par' d' rt' F', LF N (refresh (cut2 σ a b) b) F' par' d' rt' ∧ (∀ x y, Adj par' x y ↔ Adj par x y ∧ ¬ (x = a ∧ y = b) ∧ ¬ (x = b ∧ y = a))) ∧
      (∀ x, (refresh (cut2 σ a b) b x).key = (σ x).key) ∧ (cut2 σ a b b).k0 ≠ b ∧ (cut2 σ a b b).k1 ≠ b ∧ InR N (cut2 σ a b) := by
  obtain ⟨f, rfl⟩ := single_of_seq hl
  have m1 : (BT.node false (.node f .nil a .nil) b .nil, 0) ∈ (BT.node false (.node f .nil a .nil) b .nil, 0) :: R := by simp
  obtain ⟨⟨hb0, hbu, hbf, hk0, hk1⟩, hla, _, _⟩ := h.rep _ m1
  have hnd := h.nd
  simp only [fnodes_cons, BT.nodes, List.nodup_cons, List.mem_cons, List.cons_append, List.nil_append] at hnd
  have hne : a ≠ b := by grind
  have hne' : b ≠ a := fun e => hne e.symm
  have dbR : b ∉ fnodes R := by grind
  have daR : a ∉ fnodes R := by grind
  have ha0 : a ≠ 0 := hla.1.1
  have hab : Ch par 0 [a, b] := by
    have e : (BT.node false (.node f .nil a .nil) b .nil).seq = [a, b] := by cases f <;> simp [BT.seq]
    rw [← e]; exact h.ch _ m1
  have hpb : par b = a := hab.2.1
  have hpa : par a = 0 := hab.1
  have l2 : ∀ x, x ≠ a → x ≠ b → cut2 σ a b x = σ x := fun x e1 e2 => by unfold cut2 cut1; rw [upd_other e2, upd_other e1]
  have l2a : cut2 σ a b a = { σ a with up := 0 } := by unfold cut2 cut1; rw [upd_other hne, upd_same]
  have l2b : cut2 σ a b b = { σ b with k0 := 0 } := by unfold cut2 cut1; rw [upd_same, upd_other hne']
  have r3 : ∀ x, x ≠ b → refresh (cut2 σ a b) b x = cut2 σ a b x := fun x hx => refresh_other hx
  have hlk : ∀ x, (refresh (cut2 σ a b) b x).light = (σ x).light ∧ (refresh (cut2 σ a b) b x).key = (σ x).key := by
    intro x
    have := @refresh_links (cut2 σ a b) b x
    rw [this.2.2.2.2.2, this.2.2.2.2.1]
    by_cases e1 : x = a
    · subst e1; rw [l2a]; exact ⟨rfl, rfl⟩
    · by_cases e2 : x = b
      · subst e2; rw [l2b]; exact ⟨rfl, rfl⟩
      · rw [l2 x e1 e2]; exact ⟨rfl, rfl⟩
  have hq0 : (cut2 σ a b b).k0 ≠ b := by rw [l2b]; exact fun e => hb0 e.symm
  have hq1 : (cut2 σ a b b).k1 ≠ b := by rw [l2b]; show (σ b).k1 ≠ b; rw [hk1]; exact fun e => hb0 e.symm
  have hin : InR N (cut2 σ a b) := by
    have hi := h.inR
    intro x hx
    by_cases e1 : x = a
    · subst e1; rw [l2a]; exact ⟨(hi x hx).1, (hi x hx).2.1, h.pos, (hi x hx).2.2.2⟩
    · by_cases e2 : x = b
      · subst e2; rw [l2b]; exact ⟨h.pos, (hi x hx).2⟩
      · rw [l2 x e1 e2]; exact hi x hx
  have dep' : ∀ x, (if x = b then 0 else par x) ≠ 0 → d (if x = b then 0 else par x) < d x := by
    intro x hx
    by_cases e : x = b
    · rw [if_pos e] at hx; exact absurd rfl hx
    · rw [if_neg e] at hx ⊢; exact h.dep x hx
  obtain ⟨rt', hrt⟩ := rt_ex (par := fun x => if x = b then 0 else par x) (d := d) dep'
  have hfp : fnodes ((BT.node f .nil a .nil, 0) :: (BT.node false .nil b .nil, 0) :: R) = fnodes ((BT.node false (.node f .nil a .nil) b .nil, 0) :: R) := by simp [fnodes_cons, BT.nodes]
  refine ⟨⟨fun x => if x = b then 0 else par x, d, rt', (.node f .nil a .nil, 0) :: (.node false .nil b .nil, 0) :: R, ⟨fun p hp => ?_, by rw [hfp]; exact h.nd, fun x => by rw [hfp]; exact h.mem x, fun p hp => ?_, fun p hp => ?_, dep', fun x hx => ?_, hrt.rt0, hrt.rt1, fun v h1 h2 => ?_, ?_, h.pos⟩, fun x y => ?_⟩, fun x => (hlk x).2, hq0, hq1, hin⟩
  · rcases List.mem_cons.1 hp with rfl | hp
    · have : Rep (cut2 σ a b) (.node f .nil a .nil) 0 := hla.reup (by simp [BT.nodes]) (fun x hx hxr => absurd (show x = a by simpa [BT.nodes] using hx) hxr) (fun _ => l2a)
      exact this.congr (fun x hx => r3 x (by simp [BT.nodes] at hx; rw [hx]; exact hne))
    rcases List.mem_cons.1 hp with rfl | hp
    · exact refresh_rep hb0 (by rw [l2b]; exact hbu) (by rw [l2b]; exact hbf) (by rw [l2b]; rfl) (by rw [l2b]; exact hk1) trivial trivial (by simp [BT.nodes]) (by simp [BT.nodes])
    · refine (h.rep p (by simp [hp])).congr (fun x hx => ?_)
      have hxR := mem_fnodes.2 ⟨p, hp, hx⟩
      rw [r3 x (fun e => dbR (e ▸ hxR)), l2 x (fun e => daR (e ▸ hxR)) (fun e => dbR (e ▸ hxR))]
  · rcases List.mem_cons.1 hp with rfl | hp
    · exact h.pos
    rcases List.mem_cons.1 hp with rfl | hp
    · exact h.pos
    · exact h.up p (by simp [hp])
  · rcases List.mem_cons.1 hp with rfl | hp
    · have e : (BT.node f .nil a .nil).seq = [a] := hl
      show Ch _ 0 (BT.node f .nil a .nil).seq
      rw [e]
      exact ⟨by show (if a = b then 0 else par a) = 0; rw [if_neg hne, hpa], trivial⟩
    rcases List.mem_cons.1 hp with rfl | hp
    · show Ch _ 0 (BT.node false .nil b .nil).seq
      simp [BT.seq, Ch]
    · exact ch_congr (fun x hx => if_neg (show ¬ x = b from fun e => dbR (mem_fnodes.2 ⟨p, hp, e ▸ seq_mem.1 hx⟩))) (h.ch p (by simp [hp]))
  · try dsimp only
    split
    · rfl
    · exact h.none x hx
  · have hlv := h.light v h1 h2
    have hv0 : ¬ (0 = v) := by omega
    rw [(hlk v).1, hlv]
    simp only [lsum, if_neg hv0]
    rw [lsum_congr (σ := σ) (σ' := refresh (cut2 σ a b) b) (fun x _ => (hlk x).1)]
    congr 1; omega
  · have h0a : (0 : Nat) ≠ a := fun e => ha0 e.symm
    have h0b : (0 : Nat) ≠ b := fun e => hb0 e.symm
    rw [r3 0 h0b, l2 0 h0a h0b]; exact h.zero
  · constructor
    · rintro ⟨hx, hy, e⟩
      dsimp only at e
      rcases e with e | e
      · by_cases ex : x = b
        · rw [if_pos ex] at e; exact absurd e.symm hy
        · rw [if_neg ex] at e
          refine ⟨⟨hx, hy, .inl e⟩, ?_, fun h => ex h.1⟩
          rintro ⟨rfl, rfl⟩; rw [hpa] at e; exact hy e.symm
      · by_cases ey : y = b
        · rw [if_pos ey] at e; exact absurd e.symm hx
        · rw [if_neg ey] at e
          refine ⟨⟨hx, hy, .inr e⟩, fun h => ey h.2, ?_⟩
          rintro ⟨rfl, rfl⟩; rw [hpa] at e; exact hx e.symm
    · rintro ⟨⟨hx, hy, e⟩, n1, n2⟩
      refine ⟨hx, hy, ?_⟩
      dsimp only
      rcases e with e | e
      · left; rw [if_neg]; exact e
        rintro rfl; rw [hpb] at e; exact n2 ⟨rfl, e.symm⟩
      · right; rw [if_neg]; exact e
        rintro rfl; rw [hpb] at e; exact n1 ⟨e.symm, rfl⟩

def set1 (σ : Tbl) (i : Nat) (k : Int) : Tbl := σ.upd i { σ i with key := k }
theorem LF.set (h : LF N σ ((.node false l i .nil, 0) :: R) par d rt) (k : Int) :
    LF N (refresh (set1 σ i k) i) ((.node false l i .nil, 0) :: R) par d rt ∧ (∀ x, (refresh (set1 σ i k) i x).key = if x = i then k else (σ x).key) ∧ (set1 σ i k i).k0 ≠ i ∧ (set1 σ i k i).k1 ≠ i ∧ InR N (set1 σ i k) := by
  have m1 : (BT.node false l i .nil, 0) ∈ (BT.node false l i .nil, 0) :: R := by simp
  obtain ⟨⟨hi0, hiu, hif, hk0, hk1⟩, hl, _, _⟩ := h.rep _ m1
  have hnd := h.nd
  simp only [fnodes_cons, BT.nodes, List.nodup_append, List.nodup_cons, List.mem_cons, List.append_assoc, List.cons_append, List.nil_append] at hnd
  have dil : i ∉ l.nodes := by grind
  have diR : i ∉ fnodes R := by grind
  have l1 : ∀ x, x ≠ i → set1 σ i k x = σ x := fun x e => by unfold set1; rw [upd_other e]
  have l1i : set1 σ i k i = { σ i with key := k } := by unfold set1; rw [upd_same]
  have r3 : ∀ x, x ≠ i → refresh (set1 σ i k) i x = σ x := fun x hx => by rw [refresh_other hx, l1 x hx]
  have hli : ∀ x, (refresh (set1 σ i k) i x).light = (σ x).light := by
    intro x
    by_cases e : x = i
    · subst e; rw [refresh_links.2.2.2.2.2, l1i]
    · rw [r3 x e]
  have hq0 : (set1 σ i k i).k0 ≠ i := by rw [l1i]; show (σ i).k0 ≠ i; rw [hk0]; intro e; exact dil (e ▸ BT.root_mem (by rw [e]; exact hi0))
  have hq1 : (set1 σ i k i).k1 ≠ i := by rw [l1i]; show (σ i).k1 ≠ i; rw [hk1]; exact fun e => hi0 e.symm
  refine ⟨⟨fun p hp => ?_, h.nd, h.mem, h.up, h.ch, h.dep, h.none, h.rt0, h.rt1, fun v h1 h2 => ?_, ?_, h.pos⟩, fun x => ?_, hq0, hq1, ?_⟩
  · rcases List.mem_cons.1 hp with rfl | hp
    · exact refresh_rep hi0 (by rw [l1i]; exact hiu) (by rw [l1i]; exact hif) (by rw [l1i]; exact hk0) (by rw [l1i]; exact hk1) (hl.congr (fun x hx => l1 x (fun e => dil (e ▸ hx)))) trivial dil (by simp [BT.nodes])
    · exact (h.rep p (by simp [hp])).congr (fun x hx => r3 x (fun e => diR (e ▸ mem_fnodes.2 ⟨p, hp, hx⟩)))
  · rw [hli v, h.light v h1 h2, lsum_congr (σ := σ) (σ' := refresh (set1 σ i k) i) (fun x _ => hli x)]
  · rw [r3 0 (fun e => hi0 e.symm)]; exact h.zero
  · by_cases e : x = i
    · subst e; rw [if_pos rfl, refresh_links.2.2.2.2.1, l1i]
    · rw [if_neg e, r3 x e]
  · have hi := h.inR
    intro x hx
    by_cases e1 : x = i
    · subst e1; rw [l1i]; exact hi x hx
    · rw [l1 x e1]; exact hi x hx
end

end Go.Proofs.YtgmnemndjjmgkaaGreat
