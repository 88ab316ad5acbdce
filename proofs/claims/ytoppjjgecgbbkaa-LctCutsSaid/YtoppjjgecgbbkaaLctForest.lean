/- lct: the forest as a list of splay trees, each with the vertex above its path. -/
import Derived.Test.YtoppjjgecgbbkaaLctSpin
namespace Go.Proofs.Ytoppjjgecgbbkaa
open Go.RowKit

/-- Each vertex of the list has the one ahead of it as its parent; the first one has u. -/
def Ch (par : Nat → Nat) : Nat → List Nat → Prop
  | _, [] => True
  | u, x :: l => par x = u ∧ Ch par x l

theorem ch_mid {par : Nat → Nat} : ∀ {u : Nat} {l : List Nat} {j : Nat} {r : List Nat}, Ch par u (l ++ j :: r) ↔ Ch par u (l ++ [j]) ∧ Ch par j r
  | u, [], j, r => by simp [Ch]
  | u, x :: l, j, r => by simp only [List.cons_append, Ch]; rw [ch_mid, and_assoc]
theorem ch_congr {par par' : Nat → Nat} : ∀ {u : Nat} {l : List Nat}, (∀ x ∈ l, par' x = par x) → Ch par u l → Ch par' u l
  | _, [], _, _ => trivial
  | u, x :: l, h, ⟨h1, h2⟩ => ⟨(h x (by simp)).trans h1, ch_congr (fun y hy => h y (by simp [hy])) h2⟩
theorem ch_rt {par rt : Nat → Nat} (h1 : ∀ x, par x ≠ 0 → rt x = rt (par x)) : ∀ {u : Nat} {l : List Nat}, Ch par u l → (∀ x ∈ l, x ≠ 0) → u ≠ 0 → ∀ x ∈ l, rt x = rt u
  | u, y :: l, ⟨e, hc⟩, hn, hu, x, hx => by
    have hy : rt y = rt u := by rw [h1 y (by rw [e]; exact hu), e]
    rcases List.mem_cons.1 hx with rfl | hx
    · exact hy
    · rw [ch_rt h1 hc (fun z hz => hn z (by simp [hz])) (hn y (by simp)) x hx, hy]
theorem ch_rt_head {par rt : Nat → Nat} (h0 : ∀ x, par x = 0 → rt x = x) (h1 : ∀ x, par x ≠ 0 → rt x = rt (par x)) {y : Nat} {l : List Nat} (h : Ch par 0 (y :: l)) (hn : ∀ x ∈ y :: l, x ≠ 0) : ∀ x ∈ y :: l, rt x = y := by
  intro x hx
  have hy : rt y = y := h0 y h.1
  rcases List.mem_cons.1 hx with rfl | hx
  · exact hy
  · rw [ch_rt h1 h.2 (fun z hz => hn z (by simp [hz])) (hn y (by simp)) x hx, hy]
theorem ch_dep {par d : Nat → Nat} (h1 : ∀ x, par x ≠ 0 → d (par x) < d x) : ∀ {u : Nat} {l : List Nat}, Ch par u l → (∀ x ∈ l, x ≠ 0) → u ≠ 0 → ∀ x ∈ l, d u < d x
  | u, y :: l, ⟨e, hc⟩, hn, hu, x, hx => by
    have hy : d u < d y := by have := h1 y (by rw [e]; exact hu); rwa [e] at this
    rcases List.mem_cons.1 hx with rfl | hx
    · exact hy
    · exact Nat.lt_trans hy (ch_dep h1 hc (fun z hz => hn z (by simp [hz])) (hn y (by simp)) x hx)

abbrev Fst := List (BT × Nat)
def fnodes (F : Fst) : List Nat := F.flatMap fun p => p.1.nodes
def lsum (σ : Tbl) : Fst → Nat → Int
  | [], _ => 0
  | p :: F, v => (if p.2 = v then tot σ p.1.nodes else 0) + lsum σ F v

theorem fnodes_cons (p : BT × Nat) (F : Fst) : fnodes (p :: F) = p.1.nodes ++ fnodes F := by simp [fnodes]
theorem mem_fnodes {x : Nat} {F : Fst} : x ∈ fnodes F ↔ ∃ p ∈ F, x ∈ p.1.nodes := by simp [fnodes]
theorem fnodes_perm {F G : Fst} (h : F.Perm G) : (fnodes F).Perm (fnodes G) := h.flatMap_right _
theorem lsum_perm {σ : Tbl} {F G : Fst} (h : F.Perm G) (v : Nat) : lsum σ F v = lsum σ G v := by
  induction h with
  | nil => rfl
  | cons p _ ih => simp [lsum, ih]
  | swap p q F => simp only [lsum]; omega
  | trans _ _ h1 h2 => exact h1.trans h2
theorem lsum_congr {σ σ' : Tbl} : ∀ {F : Fst} {v : Nat}, (∀ x ∈ fnodes F, (σ' x).light = (σ x).light) → lsum σ' F v = lsum σ F v
  | [], _, _ => rfl
  | p :: F, v, h => by
    rw [fnodes_cons] at h
    simp only [lsum]
    rw [tot_congr (fun x hx => h x (by simp [hx])), lsum_congr (fun x hx => h x (by simp [hx]))]

structure LF (N : Nat) (σ : Tbl) (F : Fst) (par d rt : Nat → Nat) : Prop where
  rep : ∀ p ∈ F, Rep σ p.1 p.2
  nd : (fnodes F).Nodup
  mem : ∀ x, x ∈ fnodes F ↔ 0 < x ∧ x < N
  up : ∀ p ∈ F, p.2 < N
  ch : ∀ p ∈ F, Ch par p.2 p.1.seq
  dep : ∀ x, par x ≠ 0 → d (par x) < d x
  none : ∀ x, ¬ (0 < x ∧ x < N) → par x = 0
  rt0 : ∀ x, par x = 0 → rt x = x
  rt1 : ∀ x, par x ≠ 0 → rt x = rt (par x)
  light : ∀ v, 0 < v → v < N → (σ v).light = wrap64 (lsum σ F v)
  zero : (σ 0).total = 0 ∧ (σ 0).k0 = 0 ∧ (σ 0).k1 = 0 ∧ (σ 0).up = 0 ∧ (σ 0).first = 0
  pos : 0 < N

section
variable {N : Nat} {σ σ' : Tbl} {F G R : Fst} {par d rt : Nat → Nat} {t t' : BT} {u : Nat}

theorem LF.perm (h : LF N σ F par d rt) (hp : F.Perm G) : LF N σ G par d rt :=
  ⟨fun p hp' => h.rep p (hp.mem_iff.2 hp'), (fnodes_perm hp).nodup_iff.1 h.nd, fun x => (fnodes_perm hp).mem_iff.symm.trans (h.mem x), fun p hp' => h.up p (hp.mem_iff.2 hp'), fun p hp' => h.ch p (hp.mem_iff.2 hp'), h.dep, h.none, h.rt0, h.rt1,
    fun v h1 h2 => by rw [← lsum_perm hp]; exact h.light v h1 h2, h.zero, h.pos⟩

theorem mem_split_perm {p : BT × Nat} (h : p ∈ F) : ∃ R, F.Perm (p :: R) := by
  obtain ⟨A, B, rfl⟩ := List.append_of_mem h
  exact ⟨A ++ B, List.perm_middle⟩

theorem Rep.kids {x : Nat} : ∀ {t : BT} {u : Nat}, Rep σ t u → x ∈ t.nodes → ((σ x).k0 = 0 ∨ (σ x).k0 ∈ t.nodes) ∧ ((σ x).k1 = 0 ∨ (σ x).k1 ∈ t.nodes) ∧ (x = t.root ∨ ((σ x).up ∈ t.nodes)) ∧ (x = t.root → (σ x).up = u) ∧ (σ x).first ∈ t.nodes
  | .nil, _, _, hx => by cases hx
  | .node f l v r, u, ⟨h1, hl, hr, _, _, hb⟩, hx => by
    have hroot : ∀ t : BT, t.root = 0 ∨ t.root ∈ t.nodes := fun t => by
      by_cases e : t.root = 0
      · exact .inl e
      · exact .inr (BT.root_mem e)
    simp only [BT.nodes, List.mem_append, List.mem_cons] at hx ⊢
    by_cases e : x = v
    · subst e
      refine ⟨?_, ?_, .inl rfl, fun _ => h1.2.1, ?_⟩
      · rw [h1.2.2.2.1]; rcases hroot l with h | h; exact .inl h; exact .inr (.inl h)
      · rw [h1.2.2.2.2]; rcases hroot r with h | h; exact .inl h; exact .inr (.inr (.inr h))
      · have := hb.1; simpa [BT.nodes] using this
    · rcases hx with hx | hx | hx
      · obtain ⟨a, b, c, c', c2⟩ := Rep.kids hl hx
        refine ⟨a.imp id .inl, b.imp id .inl, .inr ?_, fun h => absurd h e, .inl c2⟩
        rcases c with c | c
        · rw [c' c]; exact .inr (.inl rfl)
        · exact .inl c
      · exact absurd hx e
      · obtain ⟨a, b, c, c', c2⟩ := Rep.kids hr hx
        refine ⟨a.imp id (fun h => .inr (.inr h)), b.imp id (fun h => .inr (.inr h)), .inr ?_, fun h => absurd h e, .inr (.inr c2)⟩
        rcases c with c | c
        · rw [c' c]; exact .inr (.inl rfl)
        · exact .inr (.inr c)

theorem LF.tree (h : LF N σ F par d rt) {x : Nat} (h0 : 0 < x) (hx : x < N) : ∃ t u R, F.Perm ((t, u) :: R) ∧ x ∈ t.nodes := by
  obtain ⟨p, hp, hxp⟩ := mem_fnodes.1 ((h.mem x).2 ⟨h0, hx⟩)
  obtain ⟨R, hR⟩ := mem_split_perm hp
  exact ⟨p.1, p.2, R, hR, hxp⟩

theorem LF.inR (h : LF N σ F par d rt) : InR N σ := by
  intro x hx
  by_cases h0 : x = 0
  · subst h0
    have := h.pos
    rw [h.zero.2.1, h.zero.2.2.1, h.zero.2.2.2.1, h.zero.2.2.2.2]; exact ⟨this, this, this, this⟩
  · obtain ⟨t, u, R, hR, hxt⟩ := h.tree (by omega) hx
    have h' := h.perm hR
    have hk := (h'.rep (t, u) (by simp)).kids hxt
    have hN : ∀ y, y ∈ t.nodes → y < N := fun y hy => ((h'.mem y).1 (by rw [fnodes_cons]; simp [hy])).2
    have hp := h.pos
    refine ⟨hk.1.elim (fun e => by omega) (hN _), hk.2.1.elim (fun e => by omega) (hN _), ?_, hN _ hk.2.2.2.2⟩
    rcases hk.2.2.1 with e | e
    · rw [hk.2.2.2.1 e]; exact h'.up (t, u) (by simp)
    · exact hN _ e

theorem seq_mem {t : BT} {x : Nat} : x ∈ t.seq ↔ x ∈ t.nodes := (BT.seq_perm t).mem_iff

theorem LF.lt (h : LF N σ F par d rt) {p : BT × Nat} (hp : p ∈ F) {x : Nat} (hx : x ∈ p.1.nodes) : 0 < x ∧ x < N := (h.mem x).1 (mem_fnodes.2 ⟨p, hp, hx⟩)
theorem LF.seq0 (h : LF N σ F par d rt) {p : BT × Nat} (hp : p ∈ F) : ∀ x ∈ p.1.seq, x ≠ 0 := fun x hx => by have := (h.lt hp (seq_mem.1 hx)).1; omega

theorem LF.outs (h : LF N σ ((t, u) :: R) par d rt) : Out σ u t.nodes := by
  by_cases hu : u = 0
  · exact .inl hu
  · right
    have hm : (t, u) ∈ (t, u) :: R := by simp
    have hd := ch_dep h.dep (h.ch _ hm) (h.seq0 hm) hu
    have hut : u ∉ t.nodes := fun e => Nat.lt_irrefl _ (hd u (seq_mem.2 e))
    have huN := h.up _ hm
    obtain ⟨q, hq, hqu⟩ := mem_fnodes.1 ((h.mem u).2 ⟨by omega, huN⟩)
    have hqR : q ∈ R := by
      rcases List.mem_cons.1 hq with rfl | hq
      · exact absurd hqu hut
      · exact hq
    have hk := (h.rep q hq).kids hqu
    have hnd := h.nd
    rw [fnodes_cons, List.nodup_append] at hnd
    have hdis : ∀ y, y ∈ q.1.nodes → y ∉ t.nodes := fun y hy hyt => hnd.2.2 y hyt y (mem_fnodes.2 ⟨q, hqR, hy⟩) rfl
    have h0 : (0 : Nat) ∉ t.nodes := fun e => by have := (h.lt hm e).1; omega
    exact ⟨hut, hk.1.elim (fun e => by rw [e]; exact h0) (hdis _), hk.2.1.elim (fun e => by rw [e]; exact h0) (hdis _)⟩

/-- One tree is another one with the same path. -/
theorem LF.splay (h : LF N σ ((t, u) :: R) par d rt) (hrep : Rep σ' t' u) (hseq : t'.seq = t.seq) (hperm : t'.nodes.Perm t.nodes) (hrot : Rotated σ σ' t.nodes) : LF N σ' ((t', u) :: R) par d rt := by
  have hnd := h.nd
  rw [fnodes_cons, List.nodup_append] at hnd
  have hfp : (fnodes ((t', u) :: R)).Perm (fnodes ((t, u) :: R)) := by rw [fnodes_cons, fnodes_cons]; exact hperm.append_right _
  refine ⟨fun p hp => ?_, hfp.nodup_iff.2 h.nd, fun x => hfp.mem_iff.trans (h.mem x), fun p hp => ?_, fun p hp => ?_, h.dep, h.none, h.rt0, h.rt1, fun v h1 h2 => ?_, ?_, h.pos⟩
  · rcases List.mem_cons.1 hp with rfl | hp
    · exact hrep
    · exact (h.rep p (by simp [hp])).congr (fun x hx => hrot.other x (fun e => hnd.2.2 x e x (mem_fnodes.2 ⟨p, hp, hx⟩) rfl))
  · rcases List.mem_cons.1 hp with rfl | hp
    · exact h.up (t, u) (by simp)
    · exact h.up p (by simp [hp])
  · rcases List.mem_cons.1 hp with rfl | hp
    · show Ch par u t'.seq; rw [hseq]; exact h.ch (t, u) (by simp)
    · exact h.ch p (by simp [hp])
  · rw [(hrot.lk v).1, h.light v h1 h2]
    congr 1
    rw [lsum_congr (fun x _ => (hrot.lk x).1)]
    simp only [lsum]
    rw [tot_perm hperm]
  · rw [hrot.other 0 (fun e => by have := (h.lt (p := (t, u)) (by simp) e).1; omega)]; exact h.zero

theorem total_root (hz : (σ 0).total = 0) (h : Rep σ t u) : (σ t.root).total = wrap64 (tot σ t.nodes) := by
  cases t with
  | nil => show (σ 0).total = _; rw [hz]; simp [BT.nodes, tot, wrap64]
  | node f l v r => exact h.2.2.2.2.1
end

/-- What a round of expose makes of the table. -/
def xst1 (σ : Tbl) (j B : Nat) : Tbl := σ.upd j { σ j with light := wrap64 ((σ j).light + wrap64 ((σ (σ j).k1).total - (σ B).total)) }
def xst2 (σ : Tbl) (j B : Nat) : Tbl := (xst1 σ j B).upd j { xst1 σ j B j with k1 := B }
def xstep (σ : Tbl) (j B : Nat) : Tbl := refresh (xst2 σ j B) j

theorem xst2_other {σ : Tbl} {j B x : Nat} (h : x ≠ j) : xst2 σ j B x = σ x := by unfold xst2 xst1; rw [upd_other h, upd_other h]
theorem xst2_at (σ : Tbl) (j B : Nat) : xst2 σ j B j = { σ j with light := wrap64 ((σ j).light + wrap64 ((σ (σ j).k1).total - (σ B).total)), k1 := B } := by unfold xst2 xst1; rw [upd_same, upd_same]

section
variable {N : Nat} {σ : Tbl} {R : Fst} {par d rt : Nat → Nat} {l r B : BT} {j u : Nat}
theorem LF.xstep (h : LF N σ ((.node false l j r, u) :: (B, j) :: R) par d rt) :
    LF N (xstep σ j B.root) ((.node false l j B, u) :: (r, j) :: R) par d rt ∧ (∀ x, x ≠ j → xstep σ j B.root x = σ x) ∧ (∀ x, (xstep σ j B.root x).key = (σ x).key) ∧
      (σ j).k1 = r.root ∧ (xst2 σ j B.root j).k0 ≠ j ∧ (xst2 σ j B.root j).k1 ≠ j ∧ InR N (xst2 σ j B.root) := by
  have m1 : (BT.node false l j r, u) ∈ (BT.node false l j r, u) :: (B, j) :: R := by simp
  have m2 : (B, j) ∈ (BT.node false l j r, u) :: (B, j) :: R := by simp
  obtain ⟨⟨hj0, hju, hjf, hk0, hk1⟩, hl, hr, _⟩ := h.rep _ m1
  have hB : Rep σ B j := h.rep _ m2
  have hnd := h.nd
  have hmem := h.mem
  simp only [fnodes_cons, BT.nodes, List.nodup_append, List.nodup_cons, List.mem_append, List.mem_cons, List.append_assoc, List.cons_append] at hnd hmem
  have djl : j ∉ l.nodes := by grind
  have djr : j ∉ r.nodes := by grind
  have djB : j ∉ B.nodes := by grind
  have djR : j ∉ fnodes R := by grind
  have hB0 : ∀ b : BT, j ∉ b.nodes → b.root ≠ j := fun b hb e => hb (e ▸ BT.root_mem (by rw [e]; exact hj0))
  have hjN : j < N := (h.lt m1 (by simp [BT.nodes])).2
  have htr := total_root h.zero.1 hr
  have htB := total_root h.zero.1 hB
  have huj : u ≠ j := by
    rintro rfl
    have := h.outs
    rcases this with e | ⟨e, _⟩
    · exact hj0 e
    · exact e (by simp [BT.nodes])
  have hR2 : InR N (xst2 σ j B.root) := by
    have hi := h.inR
    intro x hx
    by_cases e : x = j
    · subst e; rw [xst2_at]
      refine ⟨(hi x hx).1, ?_, (hi x hx).2.2.1, (hi x hx).2.2.2⟩
      by_cases e : B.root = 0
      · show B.root < N; rw [e]; exact h.pos
      · exact (h.lt m2 (BT.root_mem e)).2
    · rw [xst2_other e]; exact hi x hx
  have hcg : ∀ x, x ≠ j → xst2 σ j B.root x = σ x := fun x hx => xst2_other hx
  have hq0 : (xst2 σ j B.root j).k0 ≠ j := by rw [xst2_at]; show (σ j).k0 ≠ j; rw [hk0]; exact hB0 l djl
  have hq1 : (xst2 σ j B.root j).k1 ≠ j := by rw [xst2_at]; exact hB0 B djB
  have hoth : ∀ x, x ≠ j → Proofs.Ytoppjjgecgbbkaa.xstep σ j B.root x = σ x := fun x hx => by unfold Proofs.Ytoppjjgecgbbkaa.xstep; rw [refresh_other hx, hcg x hx]
  have hkey : ∀ x, (Proofs.Ytoppjjgecgbbkaa.xstep σ j B.root x).key = (σ x).key := by
    intro x
    by_cases e : x = j
    · subst e; unfold Proofs.Ytoppjjgecgbbkaa.xstep; rw [refresh_links.2.2.2.2.1, xst2_at]
    · rw [hoth x e]
  have hnew : Rep (Proofs.Ytoppjjgecgbbkaa.xstep σ j B.root) (.node false l j B) u :=
    refresh_rep hj0 (by rw [xst2_at]; exact hju) (by rw [xst2_at]; exact hjf) (by rw [xst2_at]; exact hk0) (by rw [xst2_at]) (hl.congr (fun x hx => hcg x (fun e => djl (e ▸ hx)))) (hB.congr (fun x hx => hcg x (fun e => djB (e ▸ hx)))) djl djB
  have hll : (Proofs.Ytoppjjgecgbbkaa.xstep σ j B.root j).light = wrap64 ((σ j).light + (tot σ r.nodes - tot σ B.nodes)) := by
    unfold Proofs.Ytoppjjgecgbbkaa.xstep; rw [refresh_links.2.2.2.2.2, xst2_at]
    show wrap64 ((σ j).light + wrap64 ((σ (σ j).k1).total - (σ B.root).total)) = _
    rw [hk1, htr, htB]; unfold wrap64; omega
  have hch := h.ch _ m1
  simp only [BT.seq, Bool.false_eq_true, if_false] at hch
  have hchB : Ch par j B.seq := h.ch _ m2
  have hfp : (fnodes ((.node false l j B, u) :: (r, j) :: R)).Perm (fnodes ((.node false l j r, u) :: (B, j) :: R)) := by
    simp only [fnodes_cons, BT.nodes, List.append_assoc, List.cons_append]
    refine .append_left _ (.cons _ ?_)
    rw [← List.append_assoc, ← List.append_assoc]
    exact List.perm_append_comm.append_right _
  refine ⟨⟨fun p hp => ?_, hfp.nodup_iff.2 h.nd, fun x => hfp.mem_iff.trans (h.mem x), fun p hp => ?_, fun p hp => ?_, h.dep, h.none, h.rt0, h.rt1, fun v h1 h2 => ?_, ?_, h.pos⟩, hoth, hkey, hk1, hq0, hq1, hR2⟩
  · rcases List.mem_cons.1 hp with rfl | hp
    · exact hnew
    rcases List.mem_cons.1 hp with rfl | hp
    · exact hr.congr (fun x hx => hoth x (fun e => djr (e ▸ hx)))
    · exact (h.rep p (by simp [hp])).congr (fun x hx => hoth x (fun e => djR (e ▸ mem_fnodes.2 ⟨p, hp, hx⟩)))
  · rcases List.mem_cons.1 hp with rfl | hp
    · exact h.up (BT.node false l j r, u) m1
    rcases List.mem_cons.1 hp with rfl | hp
    · exact hjN
    · exact h.up p (by simp [hp])
  · rcases List.mem_cons.1 hp with rfl | hp
    · simp only [BT.seq, Bool.false_eq_true, if_false]
      exact ch_mid.2 ⟨(ch_mid.1 hch).1, hchB⟩
    rcases List.mem_cons.1 hp with rfl | hp
    · exact (ch_mid.1 hch).2
    · exact h.ch p (by simp [hp])
  · have e1 : tot (Proofs.Ytoppjjgecgbbkaa.xstep σ j B.root) l.nodes = tot σ l.nodes := tot_congr (fun x hx => by rw [hoth x (fun e => djl (e ▸ hx))])
    have e2 : tot (Proofs.Ytoppjjgecgbbkaa.xstep σ j B.root) r.nodes = tot σ r.nodes := tot_congr (fun x hx => by rw [hoth x (fun e => djr (e ▸ hx))])
    have e3 : tot (Proofs.Ytoppjjgecgbbkaa.xstep σ j B.root) B.nodes = tot σ B.nodes := tot_congr (fun x hx => by rw [hoth x (fun e => djB (e ▸ hx))])
    have e4 : lsum (Proofs.Ytoppjjgecgbbkaa.xstep σ j B.root) R v = lsum σ R v := lsum_congr (fun x hx => by rw [hoth x (fun e => djR (e ▸ hx))])
    have tn : ∀ (τ : Tbl) (b : BT), tot τ (BT.node false l j b).nodes = tot τ l.nodes + (1 + (τ j).light) + tot τ b.nodes := by
      intro τ b; simp only [BT.nodes, tot, List.map_append, List.map_cons, List.sum_append, List.sum_cons]; omega
    have hlv := h.light v h1 h2
    simp only [lsum] at hlv ⊢
    rw [tn] at hlv ⊢
    rw [e1, e2, e3, e4, hll]
    by_cases ev : v = j
    · subst ev
      rw [hll]
      rw [if_neg huj] at hlv ⊢
      rw [if_pos rfl] at hlv ⊢
      rw [hlv]; unfold wrap64; omega
    · rw [hoth v ev, hlv, if_neg (show ¬ j = v from fun e => ev e.symm)]
      by_cases eu : u = v
      · rw [if_pos eu, if_pos eu, if_neg (show ¬ j = v from fun e => ev e.symm)]; unfold wrap64; omega
      · rw [if_neg eu, if_neg eu, if_neg (show ¬ j = v from fun e => ev e.symm)]
  · rw [hoth 0 (fun e => hj0 e.symm)]; exact h.zero
end

end Go.Proofs.Ytoppjjgecgbbkaa
