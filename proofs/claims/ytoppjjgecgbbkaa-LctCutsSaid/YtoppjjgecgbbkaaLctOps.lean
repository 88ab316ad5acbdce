/- lct: what lead, Link, Cut and Set make of the forest of splay trees. -/
import Derived.Test.YtoppjjgecgbbkaaLctXI
import Derived.Test.YtoppjjgecgbbkaaLctGraph
namespace Go.Proofs.Ytoppjjgecgbbkaa
open Go.RowKit

section
variable {N : Nat} {σ : Tbl} {R : Fst} {par d rt : Nat → Nat} {l Ta : BT} {i a b : Nat}

theorem LF.top_seq (h : LF N σ ((.node false l i .nil, 0) :: R) par d rt) : (l.seq ++ [i]).Nodup ∧ (∀ x ∈ l.seq ++ [i], x ≠ 0) ∧ Ch par 0 (l.seq ++ [i]) := by
  have m1 : (BT.node false l i .nil, 0) ∈ (BT.node false l i .nil, 0) :: R := by simp
  have e : (BT.node false l i .nil).seq = l.seq ++ [i] := by simp [BT.seq]
  have hnd := h.nd
  rw [fnodes_cons, List.nodup_append] at hnd
  exact ⟨by rw [← e]; exact (BT.seq_perm _).nodup_iff.2 hnd.1, by rw [← e]; exact h.seq0 m1, by rw [← e]; exact h.ch _ m1⟩

theorem LF.lead (h : LF N σ ((.node false l i .nil, 0) :: R) par d rt) : ∃ par' d' rt', LF N (σ.upd i { σ i with flip := true }) ((.node true l i .nil, 0) :: R) par' d' rt' ∧ (∀ x y, Adj par' x y ↔ Adj par x y) ∧ (∀ x y, rt' x = rt' y ↔ rt x = rt y) ∧ rt' i = i ∧ par' i = 0 := by
  obtain ⟨hn, hz, hc⟩ := h.top_seq
  obtain ⟨par', d', rt', hR, hout, hc', hadj, hrt, hi, hpi⟩ := reroot h.rtd hn hz hc
  have m1 : (BT.node false l i .nil, 0) ∈ (BT.node false l i .nil, 0) :: R := by simp
  have hseq : ∀ x, x ∈ l.seq ++ [i] ↔ x ∈ (BT.node false l i .nil).nodes := by
    intro x; rw [← seq_mem]; simp [BT.seq]
  have hnd := h.nd
  rw [fnodes_cons, List.nodup_append] at hnd
  have hi1 : i ∉ l.nodes := by have := hnd.1; simp only [BT.nodes, List.nodup_append] at this; exact fun e => this.2.2 i e i (by simp) rfl
  have hoth : ∀ x, x ≠ i → (σ.upd i { σ i with flip := true }) x = σ x := fun x hx => upd_other hx
  have hii : (σ.upd i { σ i with flip := true }) i = { σ i with flip := true } := upd_same _ _ _
  have hlk : ∀ x, ((σ.upd i { σ i with flip := true }) x).light = (σ x).light ∧ ((σ.upd i { σ i with flip := true }) x).key = (σ x).key := by
    intro x
    by_cases e : x = i
    · subst e; rw [hii]; exact ⟨rfl, rfl⟩
    · rw [hoth x e]; exact ⟨rfl, rfl⟩
  refine ⟨par', d', rt', ⟨fun p hp => ?_, h.nd, h.mem, fun p hp => ?_, fun p hp => ?_, hR.dep, fun x hx => ?_, hR.rt0, hR.rt1, fun v h1 h2 => ?_, ?_, h.pos⟩, hadj, hrt, hi, hpi⟩
  · rcases List.mem_cons.1 hp with rfl | hp
    · obtain ⟨q1, q2, q3, q4, q5, q6⟩ := h.rep _ m1
      refine ⟨by rw [hii]; exact ⟨q1.1, q1.2.1, rfl, q1.2.2.2⟩, q2.congr (fun x hx => hoth x (fun e => hi1 (e ▸ hx))), trivial, by rw [hii]; exact q4, ?_, ?_⟩
      · rw [hii, tot_congr (fun x _ => (hlk x).1)]; exact q5
      · rw [hii]; exact best_congr (fun x _ => (hlk x).2) q6
    · exact (h.rep p (by simp [hp])).congr (fun x hx => hoth x (fun e => hnd.2.2 i (by simp [BT.nodes]) i (mem_fnodes.2 ⟨p, hp, e ▸ hx⟩) rfl))
  · rcases List.mem_cons.1 hp with rfl | hp
    · exact h.pos
    · exact h.up p (by simp [hp])
  · rcases List.mem_cons.1 hp with rfl | hp
    · show Ch par' 0 (BT.node true l i .nil).seq
      simp only [BT.seq, if_true]; exact hc'
    · refine ch_congr (fun x hx => hout x ?_) (h.ch p (by simp [hp]))
      rw [hseq]
      exact fun e => hnd.2.2 x e x (mem_fnodes.2 ⟨p, hp, seq_mem.1 hx⟩) rfl
  · rw [hout x ?_]
    · exact h.none x hx
    · rw [hseq]; exact fun e => hx ((h.mem x).1 (by rw [fnodes_cons]; simp only [List.mem_append]; exact .inl e))
  · rw [(hlk v).1, h.light v h1 h2, lsum_congr (σ := σ) (σ' := σ.upd i { σ i with flip := true }) (fun x _ => (hlk x).1)]; rfl
  · have : (0 : Nat) ≠ i := fun e => hz i (by simp) e.symm
    rw [hoth 0 this]; exact h.zero

/-- An edge between two trees: a is the top of the one, b the last vertex of the other's path. -/
def lnk1 (σ : Tbl) (a b : Nat) : Tbl := σ.upd a { σ a with up := b }
def lnk2 (σ : Tbl) (a b : Nat) : Tbl := (lnk1 σ a b).upd b { lnk1 σ a b b with light := wrap64 ((lnk1 σ a b b).light + (lnk1 σ a b a).total) }
theorem LF.link (h : LF N σ ((Ta, 0) :: (.node false l b .nil, 0) :: R) par d rt) (hra : Ta.root = a) (ha0 : a ≠ 0) (ha : rt a = a) (hab : rt b ≠ a) :
    (∃ par' d' rt', LF N (refresh (lnk2 σ a b) b) ((Ta, b) :: (.node false l b .nil, 0) :: R) par' d' rt' ∧ (∀ x y, Adj par' x y ↔ Adj par x y ∨ (x = a ∧ y = b) ∨ (x = b ∧ y = a))) ∧
      (∀ x, (refresh (lnk2 σ a b) b x).key = (σ x).key) ∧ (lnk2 σ a b b).k0 ≠ b ∧ (lnk2 σ a b b).k1 ≠ b ∧ InR N (lnk2 σ a b) := by
  have m1 : (Ta, 0) ∈ (Ta, 0) :: (BT.node false l b .nil, 0) :: R := by simp
  have m2 : (BT.node false l b .nil, 0) ∈ (Ta, 0) :: (BT.node false l b .nil, 0) :: R := by simp
  have haT : a ∈ Ta.nodes := hra ▸ BT.root_mem (by rw [hra]; exact ha0)
  have hTa := h.rep _ m1
  obtain ⟨⟨hb0, hbu, hbf, hk0, hk1⟩, hl, hr, _⟩ := h.rep _ m2
  have hnd := h.nd
  simp only [fnodes_cons, BT.nodes, List.nodup_append, List.nodup_cons, List.mem_append, List.mem_cons, List.append_assoc, List.cons_append, List.nil_append] at hnd
  have dbl : b ∉ l.nodes := by grind
  have dbT : b ∉ Ta.nodes := by grind
  have dbR : b ∉ fnodes R := by grind
  have dal : a ∉ l.nodes := by grind
  have daR : a ∉ fnodes R := by grind
  have ndT : Ta.nodes.Nodup := by grind
  have hne : a ≠ b := fun e => dbT (e ▸ haT)
  have hne' : b ≠ a := fun e => hne e.symm
  have hbN := (h.lt m2 (x := b) (by simp [BT.nodes])).2
  have haN := (h.lt m1 haT).2
  have l1b : lnk1 σ a b b = σ b := upd_other hne'
  have l1a : lnk1 σ a b a = { σ a with up := b } := upd_same _ _ _
  have l2 : ∀ x, x ≠ a → x ≠ b → lnk2 σ a b x = σ x := fun x e1 e2 => by unfold lnk2 lnk1; rw [upd_other e2, upd_other e1]
  have l2a : lnk2 σ a b a = { σ a with up := b } := by unfold lnk2; rw [upd_other hne, l1a]
  have l2b : lnk2 σ a b b = { σ b with light := wrap64 ((σ b).light + (σ a).total) } := by unfold lnk2; rw [upd_same, l1b, l1a]
  have htA : (σ a).total = wrap64 (tot σ Ta.nodes) := by rw [← hra]; exact total_root h.zero.1 hTa
  have r3 : ∀ x, x ≠ b → refresh (lnk2 σ a b) b x = lnk2 σ a b x := fun x hx => refresh_other hx
  have lk3 := @refresh_links (lnk2 σ a b) b b
  have hkey : ∀ x, (refresh (lnk2 σ a b) b x).key = (σ x).key := by
    intro x
    rw [refresh_links.2.2.2.2.1]
    by_cases e1 : x = a
    · subst e1; rw [l2a]
    · by_cases e2 : x = b
      · subst e2; rw [l2b]
      · rw [l2 x e1 e2]
  have hlt3 : ∀ x, x ≠ b → (refresh (lnk2 σ a b) b x).light = (σ x).light := by
    intro x hx
    rw [r3 x hx]
    by_cases e1 : x = a
    · subst e1; rw [l2a]
    · rw [l2 x e1 hx]
  have hq0 : (lnk2 σ a b b).k0 ≠ b := by
    rw [l2b]; show (σ b).k0 ≠ b; rw [hk0]; intro e; exact dbl (e ▸ BT.root_mem (by rw [e]; exact hb0))
  have hq1 : (lnk2 σ a b b).k1 ≠ b := by rw [l2b]; show (σ b).k1 ≠ b; rw [hk1]; exact fun e => hb0 e.symm
  have hin : InR N (lnk2 σ a b) := by
    have hi := h.inR
    intro x hx
    by_cases e1 : x = a
    · subst e1; rw [l2a]; exact ⟨(hi x hx).1, (hi x hx).2.1, hbN, (hi x hx).2.2.2⟩
    · by_cases e2 : x = b
      · subst e2; rw [l2b]; exact hi x hx
      · rw [l2 x e1 e2]; exact hi x hx
  refine ⟨⟨fun x => if x = a then b else par x, fun x => if rt x = a then d x + d b + 1 else d x, fun x => if rt x = a then rt b else rt x, ⟨fun p hp => ?_, h.nd, h.mem, fun p hp => ?_, fun p hp => ?_, fun x hx => ?_, fun x hx => ?_, fun x hx => ?_, fun x hx => ?_, fun v h1 h2 => ?_, ?_, h.pos⟩, fun x y => ?_⟩, hkey, hq0, hq1, hin⟩
  · rcases List.mem_cons.1 hp with rfl | hp
    · have : Rep (lnk2 σ a b) Ta b := hTa.reup ndT (fun x hx hxr => l2 x (by rw [← hra]; exact hxr) (fun e => dbT (e ▸ hx))) (fun _ => by rw [hra]; exact l2a)
      exact this.congr (fun x hx => r3 x (fun e => dbT (e ▸ hx)))
    rcases List.mem_cons.1 hp with rfl | hp
    · refine refresh_rep hb0 (by rw [l2b]; exact hbu) (by rw [l2b]; exact hbf) (by rw [l2b]; exact hk0) (by rw [l2b]; exact hk1) (hl.congr (fun x hx => l2 x (fun e => dal (e ▸ hx)) (fun e => dbl (e ▸ hx)))) trivial dbl (by simp [BT.nodes])
    · refine (h.rep p (by simp [hp])).congr (fun x hx => ?_)
      have hxR := mem_fnodes.2 ⟨p, hp, hx⟩
      rw [r3 x (fun e => dbR (e ▸ hxR)), l2 x (fun e => daR (e ▸ hxR)) (fun e => dbR (e ▸ hxR))]
  · rcases List.mem_cons.1 hp with rfl | hp
    · exact hbN
    rcases List.mem_cons.1 hp with rfl | hp
    · exact h.pos
    · exact h.up p (by simp [hp])
  · rcases List.mem_cons.1 hp with rfl | hp
    · have hc := h.ch _ m1
      have h0 := h.seq0 m1
      have haS := seq_mem.2 haT
      have hndS := (BT.seq_perm Ta).nodup_iff.2 ndT
      show Ch (fun x => if x = a then b else par x) b Ta.seq
      dsimp only at hc h0
      generalize Ta.seq = s at *
      cases s with
      | nil => trivial
      | cons y s =>
        have hy : y = a := by rw [← ch_rt_head h.rt0 h.rt1 hc h0 a haS, ha]
        subst hy
        refine ⟨by simp, ch_congr (fun x hx => ?_) hc.2⟩
        rw [if_neg (by rintro rfl; exact (List.nodup_cons.1 hndS).1 hx)]
    rcases List.mem_cons.1 hp with rfl | hp
    · refine ch_congr (fun x hx => ?_) (h.ch _ m2)
      rw [if_neg]
      rintro rfl
      have := seq_mem.1 hx
      simp only [BT.nodes, List.mem_append, List.mem_cons, List.not_mem_nil, or_false] at this
      exact this.elim dal hne
    · refine ch_congr (fun x hx => ?_) (h.ch p (by simp [hp]))
      rw [if_neg]
      rintro rfl
      exact daR (mem_fnodes.2 ⟨p, hp, seq_mem.1 hx⟩)
  · try dsimp only at hx ⊢
    by_cases e : x = a
    · subst e
      simp only [if_true, ha, if_neg hab]; omega
    · rw [if_neg e] at hx ⊢
      have := h.dep x hx
      rw [h.rt1 x hx]
      split <;> omega
  · try dsimp only
    have hxa : x ≠ a := by rintro rfl; exact hx ⟨by omega, haN⟩
    rw [if_neg hxa]; exact h.none x hx
  · try dsimp only at hx ⊢
    by_cases e : x = a
    · rw [if_pos e] at hx; exact absurd hx hb0
    · rw [if_neg e] at hx
      rw [h.rt0 x hx, if_neg e]
  · try dsimp only at hx ⊢
    by_cases e : x = a
    · subst e
      simp only [if_true, ha, if_neg hab]
    · rw [if_neg e] at hx ⊢
      rw [h.rt1 x hx]
  · have eT : tot (refresh (lnk2 σ a b) b) Ta.nodes = tot σ Ta.nodes := tot_congr (fun x hx => hlt3 x (fun e => dbT (e ▸ hx)))
    have eR : lsum (refresh (lnk2 σ a b) b) R v = lsum σ R v := lsum_congr (fun x hx => hlt3 x (fun e => dbR (e ▸ hx)))
    have hlv := h.light v h1 h2
    have hv0 : ¬ (0 = v) := by omega
    simp only [lsum, if_neg hv0] at hlv ⊢
    rw [eT, eR]
    by_cases ev : b = v
    · subst ev
      rw [if_pos rfl, lk3.2.2.2.2.2, l2b]
      show wrap64 ((σ b).light + (σ a).total) = _
      rw [hlv, htA]; unfold wrap64; omega
    · rw [if_neg ev, hlt3 v (fun e => ev e.symm), hlv]
  · have h0a : (0 : Nat) ≠ a := fun e => ha0 e.symm
    have h0b : (0 : Nat) ≠ b := fun e => hb0 e.symm
    rw [r3 0 h0b, l2 0 h0a h0b]; exact h.zero
  · have hpa : par a = 0 := by
      have := h.rtd.par_rt a; rwa [ha] at this
    constructor
    · rintro ⟨hx, hy, e⟩
      dsimp only at e
      rcases e with e | e
      · by_cases ex : x = a
        · rw [if_pos ex] at e; exact .inr (.inl ⟨ex, e.symm⟩)
        · rw [if_neg ex] at e; exact .inl ⟨hx, hy, .inl e⟩
      · by_cases ey : y = a
        · rw [if_pos ey] at e; exact .inr (.inr ⟨e.symm, ey⟩)
        · rw [if_neg ey] at e; exact .inl ⟨hx, hy, .inr e⟩
    · rintro (⟨hx, hy, e⟩ | ⟨rfl, rfl⟩ | ⟨rfl, rfl⟩)
      · refine ⟨hx, hy, ?_⟩
        dsimp only
        rcases e with e | e
        · left; rw [if_neg]; exact e
          rintro rfl; rw [hpa] at e; exact hy e.symm
        · right; rw [if_neg]; exact e
          rintro rfl; rw [hpa] at e; exact hx e.symm
      · exact ⟨ha0, hb0, .inl (by simp)⟩
      · exact ⟨hb0, ha0, .inr (by simp)⟩

theorem single_of_seq {t : BT} {a : Nat} (h : t.seq = [a]) : ∃ f, t = .node f .nil a .nil := by
  cases t with
  | nil => cases h
  | node f l v r =>
    have e : l.seq ++ v :: r.seq = [a] := by
      cases f with
      | false => simpa [BT.seq] using h
      | true =>
        have := congrArg List.reverse h
        simpa [BT.seq] using this
    have hl : l.seq = [] := by
      cases hls : l.seq with
      | nil => rfl
      | cons x s => rw [hls] at e; simp at e
    rw [hl] at e
    simp at e
    have h1 := nil_of_seq hl
    have h2 := nil_of_seq e.2
    subst h1; subst h2
    exact ⟨f, by rw [e.1]⟩

def cut1 (σ : Tbl) (a : Nat) : Tbl := σ.upd a { σ a with up := 0 }
def cut2 (σ : Tbl) (a b : Nat) : Tbl := (cut1 σ a).upd b { cut1 σ a b with k0 := 0 }
/-- The edge from a to b below it is removed. -/
theorem LF.cut (h : LF N σ ((.node false l b .nil, 0) :: R) par d rt) (hl : l.seq = [a]) :
    (∃ par' d' rt' F', LF N (refresh (cut2 σ a b) b) F' par' d' rt' ∧ (∀ x y, Adj par' x y ↔ Adj par x y ∧ ¬ (x = a ∧ y = b) ∧ ¬ (x = b ∧ y = a))) ∧
      (∀ x, (refresh (cut2 σ a b) b x).key = (σ x).key) ∧ (cut2 σ a b b).k0 ≠ b ∧ (cut2 σ a b b).k1 ≠ b ∧ InR N (cut2 σ a b) := by
  obtain ⟨f, rfl⟩ := single_of_seq hl
  have m1 : (BT.node false (.node f .nil a .nil) b .nil, 0) ∈ (BT.node false (.node f .nil a .nil) b .nil, 0) :: R := by simp
  obtain ⟨⟨hb0, hbu, hbf, hk0, hk1⟩, hla, _, _⟩ := h.rep _ m1
  have hnd := h.nd
  simp only [fnodes_cons, BT.nodes, List.nodup_cons, List.mem_cons, List.cons_append, List.nil_append] at hnd
  have hne : a ≠ b := by grind
  have hne' : b ≠ a := fun e => hne e.symm
  have dbR : b ∉ fnodes R := by grind
  have daR : a ∉ fnodes R := by grind
  have ha0 : a ≠ 0 := hla.1.1
  have hab : Ch par 0 [a, b] := by
    have e : (BT.node false (.node f .nil a .nil) b .nil).seq = [a, b] := by cases f <;> simp [BT.seq]
    rw [← e]; exact h.ch _ m1
  have hpb : par b = a := hab.2.1
  have hpa : par a = 0 := hab.1
  have l2 : ∀ x, x ≠ a → x ≠ b → cut2 σ a b x = σ x := fun x e1 e2 => by unfold cut2 cut1; rw [upd_other e2, upd_other e1]
  have l2a : cut2 σ a b a = { σ a with up := 0 } := by unfold cut2 cut1; rw [upd_other hne, upd_same]
  have l2b : cut2 σ a b b = { σ b with k0 := 0 } := by unfold cut2 cut1; rw [upd_same, upd_other hne']
  have r3 : ∀ x, x ≠ b → refresh (cut2 σ a b) b x = cut2 σ a b x := fun x hx => refresh_other hx
  have hlk : ∀ x, (refresh (cut2 σ a b) b x).light = (σ x).light ∧ (refresh (cut2 σ a b) b x).key = (σ x).key := by
    intro x
    have := @refresh_links (cut2 σ a b) b x
    rw [this.2.2.2.2.2, this.2.2.2.2.1]
    by_cases e1 : x = a
    · subst e1; rw [l2a]; exact ⟨rfl, rfl⟩
    · by_cases e2 : x = b
      · subst e2; rw [l2b]; exact ⟨rfl, rfl⟩
      · rw [l2 x e1 e2]; exact ⟨rfl, rfl⟩
  have hq0 : (cut2 σ a b b).k0 ≠ b := by rw [l2b]; exact fun e => hb0 e.symm
  have hq1 : (cut2 σ a b b).k1 ≠ b := by rw [l2b]; show (σ b).k1 ≠ b; rw [hk1]; exact fun e => hb0 e.symm
  have hin : InR N (cut2 σ a b) := by
    have hi := h.inR
    intro x hx
    by_cases e1 : x = a
    · subst e1; rw [l2a]; exact ⟨(hi x hx).1, (hi x hx).2.1, h.pos, (hi x hx).2.2.2⟩
    · by_cases e2 : x = b
      · subst e2; rw [l2b]; exact ⟨h.pos, (hi x hx).2⟩
      · rw [l2 x e1 e2]; exact hi x hx
  have dep' : ∀ x, (if x = b then 0 else par x) ≠ 0 → d (if x = b then 0 else par x) < d x := by
    intro x hx
    by_cases e : x = b
    · rw [if_pos e] at hx; exact absurd rfl hx
    · rw [if_neg e] at hx ⊢; exact h.dep x hx
  obtain ⟨rt', hrt⟩ := rt_ex (par := fun x => if x = b then 0 else par x) (d := d) dep'
  have hfp : fnodes ((BT.node f .nil a .nil, 0) :: (BT.node false .nil b .nil, 0) :: R) = fnodes ((BT.node false (.node f .nil a .nil) b .nil, 0) :: R) := by simp [fnodes_cons, BT.nodes]
  refine ⟨⟨fun x => if x = b then 0 else par x, d, rt', (.node f .nil a .nil, 0) :: (.node false .nil b .nil, 0) :: R, ⟨fun p hp => ?_, by rw [hfp]; exact h.nd, fun x => by rw [hfp]; exact h.mem x, fun p hp => ?_, fun p hp => ?_, dep', fun x hx => ?_, hrt.rt0, hrt.rt1, fun v h1 h2 => ?_, ?_, h.pos⟩, fun x y => ?_⟩, fun x => (hlk x).2, hq0, hq1, hin⟩
  · rcases List.mem_cons.1 hp with rfl | hp
    · have : Rep (cut2 σ a b) (.node f .nil a .nil) 0 := hla.reup (by simp [BT.nodes]) (fun x hx hxr => absurd (show x = a by simpa [BT.nodes] using hx) hxr) (fun _ => l2a)
      exact this.congr (fun x hx => r3 x (by simp [BT.nodes] at hx; rw [hx]; exact hne))
    rcases List.mem_cons.1 hp with rfl | hp
    · exact refresh_rep hb0 (by rw [l2b]; exact hbu) (by rw [l2b]; exact hbf) (by rw [l2b]; rfl) (by rw [l2b]; exact hk1) trivial trivial (by simp [BT.nodes]) (by simp [BT.nodes])
    · refine (h.rep p (by simp [hp])).congr (fun x hx => ?_)
      have hxR := mem_fnodes.2 ⟨p, hp, hx⟩
      rw [r3 x (fun e => dbR (e ▸ hxR)), l2 x (fun e => daR (e ▸ hxR)) (fun e => dbR (e ▸ hxR))]
  · rcases List.mem_cons.1 hp with rfl | hp
    · exact h.pos
    rcases List.mem_cons.1 hp with rfl | hp
    · exact h.pos
    · exact h.up p (by simp [hp])
  · rcases List.mem_cons.1 hp with rfl | hp
    · have e : (BT.node f .nil a .nil).seq = [a] := hl
      show Ch _ 0 (BT.node f .nil a .nil).seq
      rw [e]
      exact ⟨by show (if a = b then 0 else par a) = 0; rw [if_neg hne, hpa], trivial⟩
    rcases List.mem_cons.1 hp with rfl | hp
    · show Ch _ 0 (BT.node false .nil b .nil).seq
      simp [BT.seq, Ch]
    · exact ch_congr (fun x hx => if_neg (show ¬ x = b from fun e => dbR (mem_fnodes.2 ⟨p, hp, e ▸ seq_mem.1 hx⟩))) (h.ch p (by simp [hp]))
  · try dsimp only
    split
    · rfl
    · exact h.none x hx
  · have hlv := h.light v h1 h2
    have hv0 : ¬ (0 = v) := by omega
    rw [(hlk v).1, hlv]
    simp only [lsum, if_neg hv0]
    rw [lsum_congr (σ := σ) (σ' := refresh (cut2 σ a b) b) (fun x _ => (hlk x).1)]
    congr 1; omega
  · have h0a : (0 : Nat) ≠ a := fun e => ha0 e.symm
    have h0b : (0 : Nat) ≠ b := fun e => hb0 e.symm
    rw [r3 0 h0b, l2 0 h0a h0b]; exact h.zero
  · constructor
    · rintro ⟨hx, hy, e⟩
      dsimp only at e
      rcases e with e | e
      · by_cases ex : x = b
        · rw [if_pos ex] at e; exact absurd e.symm hy
        · rw [if_neg ex] at e
          refine ⟨⟨hx, hy, .inl e⟩, ?_, fun h => ex h.1⟩
          rintro ⟨rfl, rfl⟩; rw [hpa] at e; exact hy e.symm
      · by_cases ey : y = b
        · rw [if_pos ey] at e; exact absurd e.symm hx
        · rw [if_neg ey] at e
          refine ⟨⟨hx, hy, .inr e⟩, fun h => ey h.2, ?_⟩
          rintro ⟨rfl, rfl⟩; rw [hpa] at e; exact hx e.symm
    · rintro ⟨⟨hx, hy, e⟩, n1, n2⟩
      refine ⟨hx, hy, ?_⟩
      dsimp only
      rcases e with e | e
      · left; rw [if_neg]; exact e
        rintro rfl; rw [hpb] at e; exact n2 ⟨rfl, e.symm⟩
      · right; rw [if_neg]; exact e
        rintro rfl; rw [hpb] at e; exact n1 ⟨e.symm, rfl⟩

def set1 (σ : Tbl) (i : Nat) (k : Int) : Tbl := σ.upd i { σ i with key := k }
theorem LF.set (h : LF N σ ((.node false l i .nil, 0) :: R) par d rt) (k : Int) :
    LF N (refresh (set1 σ i k) i) ((.node false l i .nil, 0) :: R) par d rt ∧ (∀ x, (refresh (set1 σ i k) i x).key = if x = i then k else (σ x).key) ∧ (set1 σ i k i).k0 ≠ i ∧ (set1 σ i k i).k1 ≠ i ∧ InR N (set1 σ i k) := by
  have m1 : (BT.node false l i .nil, 0) ∈ (BT.node false l i .nil, 0) :: R := by simp
  obtain ⟨⟨hi0, hiu, hif, hk0, hk1⟩, hl, _, _⟩ := h.rep _ m1
  have hnd := h.nd
  simp only [fnodes_cons, BT.nodes, List.nodup_append, List.nodup_cons, List.mem_cons, List.append_assoc, List.cons_append, List.nil_append] at hnd
  have dil : i ∉ l.nodes := by grind
  have diR : i ∉ fnodes R := by grind
  have l1 : ∀ x, x ≠ i → set1 σ i k x = σ x := fun x e => by unfold set1; rw [upd_other e]
  have l1i : set1 σ i k i = { σ i with key := k } := by unfold set1; rw [upd_same]
  have r3 : ∀ x, x ≠ i → refresh (set1 σ i k) i x = σ x := fun x hx => by rw [refresh_other hx, l1 x hx]
  have hli : ∀ x, (refresh (set1 σ i k) i x).light = (σ x).light := by
    intro x
    by_cases e : x = i
    · subst e; rw [refresh_links.2.2.2.2.2, l1i]
    · rw [r3 x e]
  have hq0 : (set1 σ i k i).k0 ≠ i := by rw [l1i]; show (σ i).k0 ≠ i; rw [hk0]; intro e; exact dil (e ▸ BT.root_mem (by rw [e]; exact hi0))
  have hq1 : (set1 σ i k i).k1 ≠ i := by rw [l1i]; show (σ i).k1 ≠ i; rw [hk1]; exact fun e => hi0 e.symm
  refine ⟨⟨fun p hp => ?_, h.nd, h.mem, h.up, h.ch, h.dep, h.none, h.rt0, h.rt1, fun v h1 h2 => ?_, ?_, h.pos⟩, fun x => ?_, hq0, hq1, ?_⟩
  · rcases List.mem_cons.1 hp with rfl | hp
    · exact refresh_rep hi0 (by rw [l1i]; exact hiu) (by rw [l1i]; exact hif) (by rw [l1i]; exact hk0) (by rw [l1i]; exact hk1) (hl.congr (fun x hx => l1 x (fun e => dil (e ▸ hx)))) trivial dil (by simp [BT.nodes])
    · exact (h.rep p (by simp [hp])).congr (fun x hx => r3 x (fun e => diR (e ▸ mem_fnodes.2 ⟨p, hp, hx⟩)))
  · rw [hli v, h.light v h1 h2, lsum_congr (σ := σ) (σ' := refresh (set1 σ i k) i) (fun x _ => hli x)]
  · rw [r3 0 (fun e => hi0 e.symm)]; exact h.zero
  · by_cases e : x = i
    · subst e; rw [if_pos rfl, refresh_links.2.2.2.2.1, l1i]
    · rw [if_neg e, r3 x e]
  · have hi := h.inR
    intro x hx
    by_cases e1 : x = i
    · subst e1; rw [l1i]; exact hi x hx
    · rw [l1 x e1]; exact hi x hx
end

end Go.Proofs.Ytoppjjgecgbbkaa
