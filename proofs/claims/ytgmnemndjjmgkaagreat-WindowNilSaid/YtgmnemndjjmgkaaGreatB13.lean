/- lct: how many trees a forest has, and how an edge changes that. -/
import Derived.Test.YtgmnemndjjmgkaaGreatB12
set_option linter.unusedSimpArgs false
set_option linter.unusedVariables false
/- lct: what lead, Link, Cut and Set make of the forest of splay trees. -/
namespace Go.Proofs.YtgmnemndjjmgkaaGreat
open Go.RowKit
section
variable {N : Nat} {σ : Tbl} {R : Fst} {par d rt : Nat → Nat} {l Ta : BT} {i a b : Nat}
theorem LF.top_seq (h : LF N σ ((.node false l i .nil, 0) :: R) par d rt) : (l.seq ++ [i]).Nodup ∧ (∀ x ∈ l.seq ++ [i], x ≠ 0) ∧ Ch par 0 (l.seq ++ [i]) := by
 have m1 : (BT.node false l i .nil, 0) ∈ (BT.node false l i .nil, 0) :: R := by simp
 have e : (BT.node false l i .nil).seq = l.seq ++ [i] := by simp [BT.seq]
 have hnd := h.nd
 rw [fnodes_cons, List.nodup_append] at hnd
 exact ⟨by rw [← e]; exact (BT.seq_perm _).nodup_iff.2 hnd.1, by rw [← e]; exact h.seq0 m1, by rw [← e]; exact h.ch _ m1⟩
theorem LF.lead (h : LF N σ ((.node false l i .nil, 0) :: R) par d rt) : ∃ par' d' rt', LF N (σ.upd i { σ i with flip := true }) ((.node true l i .nil, 0) :: R) par' d' rt' ∧ (∀ x y, Adj par' x y ↔ Adj par x y) ∧ (∀ x y, rt' x = rt' y ↔ rt x = rt y) ∧ rt' i = i ∧ par' i = 0 := by
 obtain ⟨hn, hz, hc⟩ := h.top_seq
 obtain ⟨par', d', rt', hR, hout, hc', hadj, hrt, hi, hpi⟩ := reroot h.rtd hn hz hc
 have m1 : (BT.node false l i .nil, 0) ∈ (BT.node false l i .nil, 0) :: R := by simp
 have hseq : ∀ x, x ∈ l.seq ++ [i] ↔ x ∈ (BT.node false l i .nil).nodes := by intro x; rw [← seq_mem]; simp [BT.seq]
 have hnd := h.nd
 rw [fnodes_cons, List.nodup_append] at hnd
 have hi1 : i ∉ l.nodes := by have := hnd.1; simp only [BT.nodes, List.nodup_append] at this; exact fun e => this.2.2 i e i (by simp) rfl
 have hoth : ∀ x, x ≠ i → (σ.upd i { σ i with flip := true }) x = σ x := fun x hx => upd_other hx
 have hii : (σ.upd i { σ i with flip := true }) i = { σ i with flip := true } := upd_same _ _ _
 have hlk : ∀ x, ((σ.upd i { σ i with flip := true }) x).light = (σ x).light ∧ ((σ.upd i { σ i with flip := true }) x).key = (σ x).key := by {
 intro x
 by_cases e : x = i
 · subst e; rw [hii]; exact ⟨rfl, rfl⟩
 · rw [hoth x e]; exact ⟨rfl, rfl⟩
 }
 refine ⟨par', d', rt', ⟨fun p hp => ?_, h.nd, h.mem, fun p hp => ?_, fun p hp => ?_, hR.dep, fun x hx => ?_, hR.rt0, hR.rt1, fun v h1 h2 => ?_, ?_, h.pos⟩, hadj, hrt, hi, hpi⟩
 {
 rcases List.mem_cons.1 hp with rfl | hp
 {
 obtain ⟨q1, q2, q3, q4, q5, q6⟩ := h.rep _ m1
 refine ⟨by rw [hii]; exact ⟨q1.1, q1.2.1, rfl, q1.2.2.2⟩, q2.congr (fun x hx => hoth x (fun e => hi1 (e ▸ hx))), trivial, by rw [hii]; exact q4, ?_, ?_⟩
 · rw [hii, tot_congr (fun x _ => (hlk x).1)]; exact q5
 · rw [hii]; exact best_congr (fun x _ => (hlk x).2) q6
 }
 · exact (h.rep p (by simp [hp])).congr (fun x hx => hoth x (fun e => hnd.2.2 i (by simp [BT.nodes]) i (mem_fnodes.2 ⟨p, hp, e ▸ hx⟩) rfl))
 }
 {
 rcases List.mem_cons.1 hp with rfl | hp
 · exact h.pos
 · exact h.up p (by simp [hp])
 }
 {
 rcases List.mem_cons.1 hp with rfl | hp
 {
 show Ch par' 0 (BT.node true l i .nil).seq
 simp only [BT.seq, if_true]; exact hc'
 }
 {
 refine ch_congr (fun x hx => hout x ?_) (h.ch p (by simp [hp]))
 rw [hseq]
 exact fun e => hnd.2.2 x e x (mem_fnodes.2 ⟨p, hp, seq_mem.1 hx⟩) rfl
 }
 }
 {
 rw [hout x ?_]
 · exact h.none x hx
 · rw [hseq]; exact fun e => hx ((h.mem x).1 (by rw [fnodes_cons]; simp only [List.mem_append]; exact .inl e))
 }
 · rw [(hlk v).1, h.light v h1 h2, lsum_congr (σ := σ) (σ' := σ.upd i { σ i with flip := true }) (fun x _ => (hlk x).1)]; rfl
 {
 have : (0 : Nat) ≠ i := fun e => hz i (by simp) e.symm
 rw [hoth 0 this]; exact h.zero
 }
def lnk1 (σ : Tbl) (a b : Nat) : Tbl := σ.upd a { σ a with up := b }
def lnk2 (σ : Tbl) (a b : Nat) : Tbl := (lnk1 σ a b).upd b { lnk1 σ a b b with light := wrap64 ((lnk1 σ a b b).light + (lnk1 σ a b a).total) }
theorem LF.link (h : LF N σ ((Ta, 0) :: (.node false l b .nil, 0) :: R) par d rt) (hra : Ta.root = a) (ha0 : a ≠ 0) (ha : rt a = a) (hab : rt b ≠ a) :
    (∃ par' d' rt', LF N (refresh (lnk2 σ a b) b) ((Ta, b) :: (.node false l b .nil, 0) :: R) par' d' rt' ∧ (∀ x y, Adj par' x y ↔ Adj par x y ∨ (x = a ∧ y = b) ∨ (x = b ∧ y = a))) ∧
      (∀ x, (refresh (lnk2 σ a b) b x).key = (σ x).key) ∧ (lnk2 σ a b b).k0 ≠ b ∧ (lnk2 σ a b b).k1 ≠ b ∧ InR N (lnk2 σ a b) := by
 have m1 : (Ta, 0) ∈ (Ta, 0) :: (BT.node false l b .nil, 0) :: R := by simp
 have m2 : (BT.node false l b .nil, 0) ∈ (Ta, 0) :: (BT.node false l b .nil, 0) :: R := by simp
 have haT : a ∈ Ta.nodes := hra ▸ BT.root_mem (by rw [hra]; exact ha0)
 have hTa := h.rep _ m1
 obtain ⟨⟨hb0, hbu, hbf, hk0, hk1⟩, hl, hr, _⟩ := h.rep _ m2
 have hnd := h.nd
 simp only [fnodes_cons, BT.nodes, List.nodup_append, List.nodup_cons, List.mem_append, List.mem_cons, List.append_assoc, List.cons_append, List.nil_append] at hnd
 have dbl : b ∉ l.nodes := by grind
 have dbT : b ∉ Ta.nodes := by grind
 have dbR : b ∉ fnodes R := by grind
 have dal : a ∉ l.nodes := by grind
 have daR : a ∉ fnodes R := by grind
 have ndT : Ta.nodes.Nodup := by grind
 have hne : a ≠ b := fun e => dbT (e ▸ haT)
 have hne' : b ≠ a := fun e => hne e.symm
 have hbN := (h.lt m2 (x := b) (by simp [BT.nodes])).2
 have haN := (h.lt m1 haT).2
 have l1b : lnk1 σ a b b = σ b := upd_other hne'
 have l1a : lnk1 σ a b a = { σ a with up := b } := upd_same _ _ _
 have l2 : ∀ x, x ≠ a → x ≠ b → lnk2 σ a b x = σ x := fun x e1 e2 => by unfold lnk2 lnk1; rw [upd_other e2, upd_other e1]
 have l2a : lnk2 σ a b a = { σ a with up := b } := by unfold lnk2; rw [upd_other hne, l1a]
 have l2b : lnk2 σ a b b = { σ b with light := wrap64 ((σ b).light + (σ a).total) } := by unfold lnk2; rw [upd_same, l1b, l1a]
 have htA : (σ a).total = wrap64 (tot σ Ta.nodes) := by rw [← hra]; exact total_root h.zero.1 hTa
 have r3 : ∀ x, x ≠ b → refresh (lnk2 σ a b) b x = lnk2 σ a b x := fun x hx => refresh_other hx
 have lk3 := @refresh_links (lnk2 σ a b) b b
 have hkey : ∀ x, (refresh (lnk2 σ a b) b x).key = (σ x).key := by {
 intro x
 rw [refresh_links.2.2.2.2.1]
 by_cases e1 : x = a
 · subst e1; rw [l2a]
 {
 by_cases e2 : x = b
 · subst e2; rw [l2b]
 · rw [l2 x e1 e2]
 }
 }
 have hlt3 : ∀ x, x ≠ b → (refresh (lnk2 σ a b) b x).light = (σ x).light := by {
 intro x hx
 rw [r3 x hx]
 by_cases e1 : x = a
 · subst e1; rw [l2a]
 · rw [l2 x e1 hx]
 }
 have hq0 : (lnk2 σ a b b).k0 ≠ b := by rw [l2b]; show (σ b).k0 ≠ b; rw [hk0]; intro e; exact dbl (e ▸ BT.root_mem (by rw [e]; exact hb0))
 have hq1 : (lnk2 σ a b b).k1 ≠ b := by rw [l2b]; show (σ b).k1 ≠ b; rw [hk1]; exact fun e => hb0 e.symm
 have hin : InR N (lnk2 σ a b) := by {
 have hi := h.inR
 intro x hx
 by_cases e1 : x = a
 · subst e1; rw [l2a]; exact ⟨(hi x hx).1, (hi x hx).2.1, hbN, (hi x hx).2.2.2⟩
 {
 by_cases e2 : x = b
 · subst e2; rw [l2b]; exact hi x hx
 · rw [l2 x e1 e2]; exact hi x hx
 }
 }
 refine ⟨⟨fun x => if x = a then b else par x, fun x => if rt x = a then d x + d b + 1 else d x, fun x => if rt x = a then rt b else rt x, ⟨fun p hp => ?_, h.nd, h.mem, fun p hp => ?_, fun p hp => ?_, fun x hx => ?_, fun x hx => ?_, fun x hx => ?_, fun x hx => ?_, fun v h1 h2 => ?_, ?_, h.pos⟩, fun x y => ?_⟩, hkey, hq0, hq1, hin⟩
 {
 rcases List.mem_cons.1 hp with rfl | hp
 {
 have : Rep (lnk2 σ a b) Ta b := hTa.reup ndT (fun x hx hxr => l2 x (by rw [← hra]; exact hxr) (fun e => dbT (e ▸ hx))) (fun _ => by rw [hra]; exact l2a)
 exact this.congr (fun x hx => r3 x (fun e => dbT (e ▸ hx)))
 }
 rcases List.mem_cons.1 hp with rfl | hp
 · refine refresh_rep hb0 (by rw [l2b]; exact hbu) (by rw [l2b]; exact hbf) (by rw [l2b]; exact hk0) (by rw [l2b]; exact hk1) (hl.congr (fun x hx => l2 x (fun e => dal (e ▸ hx)) (fun e => dbl (e ▸ hx)))) trivial dbl (by simp [BT.nodes])
 {
 refine (h.rep p (by simp [hp])).congr (fun x hx => ?_)
 have hxR := mem_fnodes.2 ⟨p, hp, hx⟩
 rw [r3 x (fun e => dbR (e ▸ hxR)), l2 x (fun e => daR (e ▸ hxR)) (fun e => dbR (e ▸ hxR))]
 }
 }
 {
 rcases List.mem_cons.1 hp with rfl | hp
 · exact hbN
 rcases List.mem_cons.1 hp with rfl | hp
 · exact h.pos
 · exact h.up p (by simp [hp])
 }
 {
 rcases List.mem_cons.1 hp with rfl | hp
 {
 have hc := h.ch _ m1
 have h0 := h.seq0 m1
 have haS := seq_mem.2 haT
 have hndS := (BT.seq_perm Ta).nodup_iff.2 ndT
 show Ch (fun x => if x = a then b else par x) b Ta.seq
 dsimp only at hc h0
 generalize Ta.seq = s at *
 cases s with
 | nil => trivial
 | cons y s => {
 have hy : y = a := by rw [← ch_rt_head h.rt0 h.rt1 hc h0 a haS, ha]
 subst hy
 refine ⟨by simp, ch_congr (fun x hx => ?_) hc.2⟩
 rw [if_neg (by rintro rfl; exact (List.nodup_cons.1 hndS).1 hx)]
 }
 }
 rcases List.mem_cons.1 hp with rfl | hp
 {
 refine ch_congr (fun x hx => ?_) (h.ch _ m2)
 rw [if_neg]
 rintro rfl
 have := seq_mem.1 hx
 simp only [BT.nodes, List.mem_append, List.mem_cons, List.not_mem_nil, or_false] at this
 exact this.elim dal hne
 }
 {
 refine ch_congr (fun x hx => ?_) (h.ch p (by simp [hp]))
 rw [if_neg]
 rintro rfl
 exact daR (mem_fnodes.2 ⟨p, hp, seq_mem.1 hx⟩)
 }
 }
 {
 try dsimp only at hx ⊢
 by_cases e : x = a
 {
 subst e
 simp only [if_true, ha, if_neg hab]; omega
 }
 {
 rw [if_neg e] at hx ⊢
 have := h.dep x hx
 rw [h.rt1 x hx]
 split <;> omega
 }
 }
 {
 try dsimp only
 have hxa : x ≠ a := by rintro rfl; exact hx ⟨by omega, haN⟩
 rw [if_neg hxa]; exact h.none x hx
 }
 {
 try dsimp only at hx ⊢
 by_cases e : x = a
 · rw [if_pos e] at hx; exact absurd hx hb0
 {
 rw [if_neg e] at hx
 rw [h.rt0 x hx, if_neg e]
 }
 }
 {
 try dsimp only at hx ⊢
 by_cases e : x = a
 {
 subst e
 simp only [if_true, ha, if_neg hab]
 }
 {
 rw [if_neg e] at hx ⊢
 rw [h.rt1 x hx]
 }
 }
 {
 have eT : tot (refresh (lnk2 σ a b) b) Ta.nodes = tot σ Ta.nodes := tot_congr (fun x hx => hlt3 x (fun e => dbT (e ▸ hx)))
 have eR : lsum (refresh (lnk2 σ a b) b) R v = lsum σ R v := lsum_congr (fun x hx => hlt3 x (fun e => dbR (e ▸ hx)))
 have hlv := h.light v h1 h2
 have hv0 : ¬ (0 = v) := by omega
 simp only [lsum, if_neg hv0] at hlv ⊢
 rw [eT, eR]
 by_cases ev : b = v
 {
 subst ev
 rw [if_pos rfl, lk3.2.2.2.2.2, l2b]
 show wrap64 ((σ b).light + (σ a).total) = _
 rw [hlv, htA]; unfold wrap64; omega
 }
 · rw [if_neg ev, hlt3 v (fun e => ev e.symm), hlv]
 }
 {
 have h0a : (0 : Nat) ≠ a := fun e => ha0 e.symm
 have h0b : (0 : Nat) ≠ b := fun e => hb0 e.symm
 rw [r3 0 h0b, l2 0 h0a h0b]; exact h.zero
 }
 {
 have hpa : par a = 0 := by have := h.rtd.par_rt a; rwa [ha] at this
 constructor
 {
 rintro ⟨hx, hy, e⟩
 dsimp only at e
 rcases e with e | e
 {
 by_cases ex : x = a
 · rw [if_pos ex] at e; exact .inr (.inl ⟨ex, e.symm⟩)
 · rw [if_neg ex] at e; exact .inl ⟨hx, hy, .inl e⟩
 }
 {
 by_cases ey : y = a
 · rw [if_pos ey] at e; exact .inr (.inr ⟨e.symm, ey⟩)
 · rw [if_neg ey] at e; exact .inl ⟨hx, hy, .inr e⟩
 }
 }
 {
 rintro (⟨hx, hy, e⟩ | ⟨rfl, rfl⟩ | ⟨rfl, rfl⟩)
 {
 refine ⟨hx, hy, ?_⟩
 dsimp only
 rcases e with e | e
 {
 left; rw [if_neg]; exact e
 rintro rfl; rw [hpa] at e; exact hy e.symm
 }
 {
 right; rw [if_neg]; exact e
 rintro rfl; rw [hpa] at e; exact hx e.symm
 }
 }
 · exact ⟨ha0, hb0, .inl (by simp)⟩
 · exact ⟨hb0, ha0, .inr (by simp)⟩
 }
 }
theorem single_of_seq {t : BT} {a : Nat} (h : t.seq = [a]) : ∃ f, t = .node f .nil a .nil := by
 cases t with
 | nil => cases h
 | node f l v r => {
 have e : l.seq ++ v :: r.seq = [a] := by {
 cases f with
 | false => simpa [BT.seq] using h
 | true => {
 have := congrArg List.reverse h
 simpa [BT.seq] using this
 }
 }
 have hl : l.seq = [] := by {
 cases hls : l.seq with
 | nil => rfl
 | cons x s => rw [hls] at e; simp at e
 }
 rw [hl] at e
 simp at e
 have h1 := nil_of_seq hl
 have h2 := nil_of_seq e.2
 subst h1; subst h2
 exact ⟨f, by rw [e.1]⟩
 }
def cut1 (σ : Tbl) (a : Nat) : Tbl := σ.upd a { σ a with up := 0 }
def cut2 (σ : Tbl) (a b : Nat) : Tbl := (cut1 σ a).upd b { cut1 σ a b with k0 := 0 }
theorem LF.cut (h : LF N σ ((.node false l b .nil, 0) :: R) par d rt) (hl : l.seq = [a]) :
    (∃ par' d' rt' F', LF N (refresh (cut2 σ a b) b) F' par' d' rt' ∧ (∀ x y, Adj par' x y ↔ Adj par x y ∧ ¬ (x = a ∧ y = b) ∧ ¬ (x = b ∧ y = a))) ∧
      (∀ x, (refresh (cut2 σ a b) b x).key = (σ x).key) ∧ (cut2 σ a b b).k0 ≠ b ∧ (cut2 σ a b b).k1 ≠ b ∧ InR N (cut2 σ a b) := by
 obtain ⟨f, rfl⟩ := single_of_seq hl
 have m1 : (BT.node false (.node f .nil a .nil) b .nil, 0) ∈ (BT.node false (.node f .nil a .nil) b .nil, 0) :: R := by simp
 obtain ⟨⟨hb0, hbu, hbf, hk0, hk1⟩, hla, _, _⟩ := h.rep _ m1
 have hnd := h.nd
 simp only [fnodes_cons, BT.nodes, List.nodup_cons, List.mem_cons, List.cons_append, List.nil_append] at hnd
 have hne : a ≠ b := by grind
 have hne' : b ≠ a := fun e => hne e.symm
 have dbR : b ∉ fnodes R := by grind
 have daR : a ∉ fnodes R := by grind
 have ha0 : a ≠ 0 := hla.1.1
 have hab : Ch par 0 [a, b] := by {
 have e : (BT.node false (.node f .nil a .nil) b .nil).seq = [a, b] := by cases f <;> simp [BT.seq]
 rw [← e]; exact h.ch _ m1
 }
 have hpb : par b = a := hab.2.1
 have hpa : par a = 0 := hab.1
 have l2 : ∀ x, x ≠ a → x ≠ b → cut2 σ a b x = σ x := fun x e1 e2 => by unfold cut2 cut1; rw [upd_other e2, upd_other e1]
 have l2a : cut2 σ a b a = { σ a with up := 0 } := by unfold cut2 cut1; rw [upd_other hne, upd_same]
 have l2b : cut2 σ a b b = { σ b with k0 := 0 } := by unfold cut2 cut1; rw [upd_same, upd_other hne']
 have r3 : ∀ x, x ≠ b → refresh (cut2 σ a b) b x = cut2 σ a b x := fun x hx => refresh_other hx
 have hlk : ∀ x, (refresh (cut2 σ a b) b x).light = (σ x).light ∧ (refresh (cut2 σ a b) b x).key = (σ x).key := by {
 intro x
 have := @refresh_links (cut2 σ a b) b x
 rw [this.2.2.2.2.2, this.2.2.2.2.1]
 by_cases e1 : x = a
 · subst e1; rw [l2a]; exact ⟨rfl, rfl⟩
 {
 by_cases e2 : x = b
 · subst e2; rw [l2b]; exact ⟨rfl, rfl⟩
 · rw [l2 x e1 e2]; exact ⟨rfl, rfl⟩
 }
 }
 have hq0 : (cut2 σ a b b).k0 ≠ b := by rw [l2b]; exact fun e => hb0 e.symm
 have hq1 : (cut2 σ a b b).k1 ≠ b := by rw [l2b]; show (σ b).k1 ≠ b; rw [hk1]; exact fun e => hb0 e.symm
 have hin : InR N (cut2 σ a b) := by {
 have hi := h.inR
 intro x hx
 by_cases e1 : x = a
 · subst e1; rw [l2a]; exact ⟨(hi x hx).1, (hi x hx).2.1, h.pos, (hi x hx).2.2.2⟩
 {
 by_cases e2 : x = b
 · subst e2; rw [l2b]; exact ⟨h.pos, (hi x hx).2⟩
 · rw [l2 x e1 e2]; exact hi x hx
 }
 }
 have dep' : ∀ x, (if x = b then 0 else par x) ≠ 0 → d (if x = b then 0 else par x) < d x := by {
 intro x hx
 by_cases e : x = b
 · rw [if_pos e] at hx; exact absurd rfl hx
 · rw [if_neg e] at hx ⊢; exact h.dep x hx
 }
 obtain ⟨rt', hrt⟩ := rt_ex (par := fun x => if x = b then 0 else par x) (d := d) dep'
 have hfp : fnodes ((BT.node f .nil a .nil, 0) :: (BT.node false .nil b .nil, 0) :: R) = fnodes ((BT.node false (.node f .nil a .nil) b .nil, 0) :: R) := by simp [fnodes_cons, BT.nodes]
 refine ⟨⟨fun x => if x = b then 0 else par x, d, rt', (.node f .nil a .nil, 0) :: (.node false .nil b .nil, 0) :: R, ⟨fun p hp => ?_, by rw [hfp]; exact h.nd, fun x => by rw [hfp]; exact h.mem x, fun p hp => ?_, fun p hp => ?_, dep', fun x hx => ?_, hrt.rt0, hrt.rt1, fun v h1 h2 => ?_, ?_, h.pos⟩, fun x y => ?_⟩, fun x => (hlk x).2, hq0, hq1, hin⟩
 {
 rcases List.mem_cons.1 hp with rfl | hp
 {
 have : Rep (cut2 σ a b) (.node f .nil a .nil) 0 := hla.reup (by simp [BT.nodes]) (fun x hx hxr => absurd (show x = a by simpa [BT.nodes] using hx) hxr) (fun _ => l2a)
 exact this.congr (fun x hx => r3 x (by simp [BT.nodes] at hx; rw [hx]; exact hne))
 }
 rcases List.mem_cons.1 hp with rfl | hp
 · exact refresh_rep hb0 (by rw [l2b]; exact hbu) (by rw [l2b]; exact hbf) (by rw [l2b]; rfl) (by rw [l2b]; exact hk1) trivial trivial (by simp [BT.nodes]) (by simp [BT.nodes])
 {
 refine (h.rep p (by simp [hp])).congr (fun x hx => ?_)
 have hxR := mem_fnodes.2 ⟨p, hp, hx⟩
 rw [r3 x (fun e => dbR (e ▸ hxR)), l2 x (fun e => daR (e ▸ hxR)) (fun e => dbR (e ▸ hxR))]
 }
 }
 {
 rcases List.mem_cons.1 hp with rfl | hp
 · exact h.pos
 rcases List.mem_cons.1 hp with rfl | hp
 · exact h.pos
 · exact h.up p (by simp [hp])
 }
 {
 rcases List.mem_cons.1 hp with rfl | hp
 {
 have e : (BT.node f .nil a .nil).seq = [a] := hl
 show Ch _ 0 (BT.node f .nil a .nil).seq
 rw [e]
 exact ⟨by show (if a = b then 0 else par a) = 0; rw [if_neg hne, hpa], trivial⟩
 }
 rcases List.mem_cons.1 hp with rfl | hp
 {
 show Ch _ 0 (BT.node false .nil b .nil).seq
 simp [BT.seq, Ch]
 }
 · exact ch_congr (fun x hx => if_neg (show ¬ x = b from fun e => dbR (mem_fnodes.2 ⟨p, hp, e ▸ seq_mem.1 hx⟩))) (h.ch p (by simp [hp]))
 }
 {
 try dsimp only
 split
 · rfl
 · exact h.none x hx
 }
 {
 have hlv := h.light v h1 h2
 have hv0 : ¬ (0 = v) := by omega
 rw [(hlk v).1, hlv]
 simp only [lsum, if_neg hv0]
 rw [lsum_congr (σ := σ) (σ' := refresh (cut2 σ a b) b) (fun x _ => (hlk x).1)]
 congr 1; omega
 }
 {
 have h0a : (0 : Nat) ≠ a := fun e => ha0 e.symm
 have h0b : (0 : Nat) ≠ b := fun e => hb0 e.symm
 rw [r3 0 h0b, l2 0 h0a h0b]; exact h.zero
 }
 {
 constructor
 {
 rintro ⟨hx, hy, e⟩
 dsimp only at e
 rcases e with e | e
 {
 by_cases ex : x = b
 · rw [if_pos ex] at e; exact absurd e.symm hy
 {
 rw [if_neg ex] at e
 refine ⟨⟨hx, hy, .inl e⟩, ?_, fun h => ex h.1⟩
 rintro ⟨rfl, rfl⟩; rw [hpa] at e; exact hy e.symm
 }
 }
 {
 by_cases ey : y = b
 · rw [if_pos ey] at e; exact absurd e.symm hx
 {
 rw [if_neg ey] at e
 refine ⟨⟨hx, hy, .inr e⟩, fun h => ey h.2, ?_⟩
 rintro ⟨rfl, rfl⟩; rw [hpa] at e; exact hx e.symm
 }
 }
 }
 {
 rintro ⟨⟨hx, hy, e⟩, n1, n2⟩
 refine ⟨hx, hy, ?_⟩
 dsimp only
 rcases e with e | e
 {
 left; rw [if_neg]; exact e
 rintro rfl; rw [hpb] at e; exact n2 ⟨rfl, e.symm⟩
 }
 {
 right; rw [if_neg]; exact e
 rintro rfl; rw [hpb] at e; exact n1 ⟨e.symm, rfl⟩
 }
 }
 }
def set1 (σ : Tbl) (i : Nat) (k : Int) : Tbl := σ.upd i { σ i with key := k }
theorem LF.set (h : LF N σ ((.node false l i .nil, 0) :: R) par d rt) (k : Int) :
    LF N (refresh (set1 σ i k) i) ((.node false l i .nil, 0) :: R) par d rt ∧ (∀ x, (refresh (set1 σ i k) i x).key = if x = i then k else (σ x).key) ∧ (set1 σ i k i).k0 ≠ i ∧ (set1 σ i k i).k1 ≠ i ∧ InR N (set1 σ i k) := by
 have m1 : (BT.node false l i .nil, 0) ∈ (BT.node false l i .nil, 0) :: R := by simp
 obtain ⟨⟨hi0, hiu, hif, hk0, hk1⟩, hl, _, _⟩ := h.rep _ m1
 have hnd := h.nd
 simp only [fnodes_cons, BT.nodes, List.nodup_append, List.nodup_cons, List.mem_cons, List.append_assoc, List.cons_append, List.nil_append] at hnd
 have dil : i ∉ l.nodes := by grind
 have diR : i ∉ fnodes R := by grind
 have l1 : ∀ x, x ≠ i → set1 σ i k x = σ x := fun x e => by unfold set1; rw [upd_other e]
 have l1i : set1 σ i k i = { σ i with key := k } := by unfold set1; rw [upd_same]
 have r3 : ∀ x, x ≠ i → refresh (set1 σ i k) i x = σ x := fun x hx => by rw [refresh_other hx, l1 x hx]
 have hli : ∀ x, (refresh (set1 σ i k) i x).light = (σ x).light := by {
 intro x
 by_cases e : x = i
 · subst e; rw [refresh_links.2.2.2.2.2, l1i]
 · rw [r3 x e]
 }
 have hq0 : (set1 σ i k i).k0 ≠ i := by rw [l1i]; show (σ i).k0 ≠ i; rw [hk0]; intro e; exact dil (e ▸ BT.root_mem (by rw [e]; exact hi0))
 have hq1 : (set1 σ i k i).k1 ≠ i := by rw [l1i]; show (σ i).k1 ≠ i; rw [hk1]; exact fun e => hi0 e.symm
 refine ⟨⟨fun p hp => ?_, h.nd, h.mem, h.up, h.ch, h.dep, h.none, h.rt0, h.rt1, fun v h1 h2 => ?_, ?_, h.pos⟩, fun x => ?_, hq0, hq1, ?_⟩
 {
 rcases List.mem_cons.1 hp with rfl | hp
 · exact refresh_rep hi0 (by rw [l1i]; exact hiu) (by rw [l1i]; exact hif) (by rw [l1i]; exact hk0) (by rw [l1i]; exact hk1) (hl.congr (fun x hx => l1 x (fun e => dil (e ▸ hx)))) trivial dil (by simp [BT.nodes])
 · exact (h.rep p (by simp [hp])).congr (fun x hx => r3 x (fun e => diR (e ▸ mem_fnodes.2 ⟨p, hp, hx⟩)))
 }
 · rw [hli v, h.light v h1 h2, lsum_congr (σ := σ) (σ' := refresh (set1 σ i k) i) (fun x _ => hli x)]
 · rw [r3 0 (fun e => hi0 e.symm)]; exact h.zero
 {
 by_cases e : x = i
 · subst e; rw [if_pos rfl, refresh_links.2.2.2.2.1, l1i]
 · rw [if_neg e, r3 x e]
 }
 {
 have hi := h.inR
 intro x hx
 by_cases e1 : x = i
 · subst e1; rw [l1i]; exact hi x hx
 · rw [l1 x e1]; exact hi x hx
 }
end
end Go.Proofs.YtgmnemndjjmgkaaGreat

/- lct: paths of a forest, and how many vertices hang from a top path. -/
namespace Go.Proofs.YtgmnemndjjmgkaaGreat
open Go.RowKit
def Wk (E : Nat → Nat → Prop) : Nat → List Nat → Prop
  | _, [] => True
  | a, x :: l => E a x ∧ Wk E x l
def IsPath (E : Nat → Nat → Prop) (a b : Nat) (p : List Nat) : Prop := ∃ l, p = a :: l ∧ Wk E a l ∧ p.Nodup ∧ p.getLast? = some b
theorem wk_ne {par : Nat → Nat} : ∀ {a : Nat} {l : List Nat}, Wk (Adj par) a l → ∀ x ∈ l, x ≠ 0
  | a, y :: l, ⟨h1, h2⟩, x, hx => by
    rcases List.mem_cons.1 hx with rfl | hx
    · exact h1.2.1
    · exact wk_ne h2 x hx
theorem wk_mono {E E' : Nat → Nat → Prop} (h : ∀ x y, E x y → E' x y) : ∀ {a : Nat} {l : List Nat}, Wk E a l → Wk E' a l
  | _, [], _ => trivial
  | _, _y :: _l, ⟨h1, h2⟩ => ⟨h _ _ h1, wk_mono h h2⟩
theorem IsPath.mono {E E' : Nat → Nat → Prop} (h : ∀ x y, E x y → E' x y) {a b : Nat} {p : List Nat} (hp : IsPath E a b p) : IsPath E' a b p := by
 obtain ⟨l, h1, h2, h3, h4⟩ := hp
 exact ⟨l, h1, wk_mono h h2, h3, h4⟩
theorem ch_wk {par : Nat → Nat} : ∀ {a : Nat} {l : List Nat}, a ≠ 0 → (∀ x ∈ l, x ≠ 0) → Ch par a l → Wk (Adj par) a l
  | _, [], _, _, _ => trivial
  | a, y :: l, ha, hn, ⟨h1, h2⟩ => ⟨⟨ha, hn y (by simp), .inr h1⟩, ch_wk (hn y (by simp)) (fun x hx => hn x (by simp [hx])) h2⟩
theorem wk_ch {par : Nat → Nat} : ∀ {a : Nat} {l : List Nat}, Wk (Adj par) a l → (a :: l).Nodup → par a ∉ l → Ch par a l
  | _, [], _, _, _ => trivial
  | a, y :: l, ⟨h1, h2⟩, hn, hp => by
    have hy : par y = a := by
      rcases h1.2.2 with e | e
      · exact absurd (by rw [e]; simp) hp
      · exact e
    have hn2 := List.nodup_cons.1 hn
    exact ⟨hy, wk_ch h2 hn2.2 (by rw [hy]; exact fun e => hn2.1 (by simp [e]))⟩
theorem ch_unique {par : Nat → Nat} {b : Nat} : ∀ (n : Nat) (S T : List Nat), S.length ≤ n → Ch par 0 (S ++ [b]) → Ch par 0 (T ++ [b]) → (∀ x ∈ S, x ≠ 0) → (∀ x ∈ T, x ≠ 0) → S = T := by
 intro n
 induction n generalizing b with
 | zero => {
 intro S T hn hS hT _ hz
 obtain rfl : S = [] := List.length_eq_zero_iff.1 (by omega)
 rcases List.eq_nil_or_concat T with rfl | ⟨T', z, rfl⟩
 · rfl
 {
 rw [List.concat_eq_append, List.append_assoc] at hT
 have h1 : par b = z := (ch_mid.1 hT).2.1
 have h2 : par b = 0 := hS.1
 exact absurd (h1.symm.trans h2) (hz z (by simp))
 }
 }
 | succ n ih => {
 intro S T hn hS hT hzS hzT
 rcases List.eq_nil_or_concat T with rfl | ⟨T', z, rfl⟩
 {
 rcases List.eq_nil_or_concat S with rfl | ⟨S', y, rfl⟩
 · rfl
 {
 rw [List.concat_eq_append, List.append_assoc] at hS
 have h1 : par b = y := (ch_mid.1 hS).2.1
 have h2 : par b = 0 := hT.1
 exact absurd (h1.symm.trans h2) (hzS y (by simp))
 }
 }
 {
 rcases List.eq_nil_or_concat S with rfl | ⟨S', y, rfl⟩
 {
 rw [List.concat_eq_append, List.append_assoc] at hT
 have h1 : par b = z := (ch_mid.1 hT).2.1
 have h2 : par b = 0 := hS.1
 exact absurd (h1.symm.trans h2) (hzT z (by simp))
 }
 {
 rw [List.concat_eq_append, List.append_assoc] at hS hT
 have h1 : par b = y := (ch_mid.1 hS).2.1
 have h2 : par b = z := (ch_mid.1 hT).2.1
 obtain rfl : y = z := h1.symm.trans h2
 have := ih S' T' (by simp at hn; omega) (ch_mid.1 hS).1 (ch_mid.1 hT).1 (fun x hx => hzS x (by simp [hx])) (fun x hx => hzT x (by simp [hx]))
 rw [this]
 }
 }
 }
section
variable {par d rt : Nat → Nat}
theorem Rtd.reroot_at (h : Rtd par d rt) {a : Nat} (ha : a ≠ 0) : ∃ par' d' rt', Rtd par' d' rt' ∧ (∀ x y, Adj par' x y ↔ Adj par x y) ∧ (∀ x y, rt' x = rt' y ↔ rt x = rt y) ∧ rt' a = a ∧ par' a = 0 := by
 obtain ⟨S, h1, h2, h3, _⟩ := h.chain (d a) a (Nat.le_refl _) ha
 obtain ⟨par', d', rt', a1, _, _, a4, a5, a6, a7⟩ := reroot h h2 h3 h1
 exact ⟨par', d', rt', a1, a4, a5, a6, a7⟩
theorem getLast_snoc {l : List Nat} {b : Nat} (h : l.getLast? = some b) : ∃ S, l = S ++ [b] := by
 rcases List.eq_nil_or_concat l with rfl | ⟨S, x, rfl⟩
 · simp at h
 · simp at h; subst h; exact ⟨S, by simp⟩
theorem Rtd.unique (h : Rtd par d rt) {a b : Nat} (ha : a ≠ 0) {p q : List Nat} (hp : IsPath (Adj par) a b p) (hq : IsPath (Adj par) a b q) : p = q := by
 obtain ⟨par', d', rt', h', hadj, _, _, hpa⟩ := h.reroot_at ha
 have key : ∀ {p : List Nat}, IsPath (Adj par) a b p → ∃ S, p = S ++ [b] ∧ Ch par' 0 p ∧ ∀ x ∈ p, x ≠ 0 := by {
 intro p hp
 obtain ⟨l, rfl, h2, h3, h4⟩ := hp.mono (fun x y => (hadj x y).2)
 obtain ⟨S, hS⟩ := getLast_snoc h4
 have hn := wk_ne h2
 refine ⟨S, hS, ⟨hpa, wk_ch h2 h3 (by rw [hpa]; exact fun e => hn 0 e rfl)⟩, fun x hx => ?_⟩
 rcases List.mem_cons.1 hx with rfl | hx
 · exact ha
 · exact hn x hx
 }
 obtain ⟨S, e1, c1, n1⟩ := key hp
 obtain ⟨T, e2, c2, n2⟩ := key hq
 rw [e1] at c1 n1; rw [e2] at c2 n2
 rw [e1, e2, ch_unique S.length S T (Nat.le_refl _) c1 c2 (fun x hx => n1 x (by simp [hx])) (fun x hx => n2 x (by simp [hx]))]
theorem wk_rt (h : Rtd par d rt) : ∀ {a : Nat} {l : List Nat}, Wk (Adj par) a l → ∀ x ∈ a :: l, rt x = rt a
  | a, [], _, x, hx => by simp at hx; rw [hx]
  | a, y :: l, ⟨h1, h2⟩, x, hx => by
    rcases List.mem_cons.1 hx with rfl | hx
    · rfl
    · rw [wk_rt h h2 x hx, h.adj h1]
theorem Rtd.conn (h : Rtd par d rt) {a b : Nat} (ha : a ≠ 0) (hb : b ≠ 0) : (∃ p, IsPath (Adj par) a b p) ↔ rt a = rt b := by
 constructor
 {
 rintro ⟨p, l, rfl, h2, _, h4⟩
 exact (wk_rt h h2 b (List.mem_of_getLast? h4)).symm
 }
 {
 intro e
 obtain ⟨par', d', rt', h', hadj, hrt, hra, hpa⟩ := h.reroot_at ha
 obtain ⟨S, c1, c2, c3, _⟩ := h'.chain (d' b) b (Nat.le_refl _) hb
 have e' : rt' b = a := by rw [← (hrt a b).2 e, hra]
 cases hS : S ++ [b] with
 | nil => simp at hS
 | cons y l => {
 have hbm : b ∈ y :: l := by rw [← hS]; simp
 rw [hS] at c1 c2 c3
 have hy : y = a := by rw [← ch_rt_head h'.rt0 h'.rt1 c1 c3 b hbm, e']
 subst hy
 have : IsPath (Adj par') y b (y :: l) := ⟨l, rfl, ch_wk ha (fun x hx => c3 x (by simp [hx])) c1.2, c2, by rw [← hS]; simp⟩
 exact ⟨_, this.mono (fun x y => (hadj x y).1)⟩
 }
 }
end
def Cong (x y : Int) : Prop := ∃ k : Int, x = y + k * 18446744073709551616
theorem Cong.wrap {x y : Int} (h : Cong x y) : wrap64 x = wrap64 y := by obtain ⟨k, rfl⟩ := h; unfold wrap64; omega
theorem cong_wrap (x : Int) : Cong (wrap64 x) x := ⟨-((x + 9223372036854775808) / 18446744073709551616), by unfold wrap64; omega⟩
def fsum (f : Nat → Int) (l : List Nat) : Int := (l.map f).sum
theorem fsum_cons (f : Nat → Int) (x : Nat) (l : List Nat) : fsum f (x :: l) = f x + fsum f l := by simp [fsum]
theorem fsum_add (f g : Nat → Int) (l : List Nat) : fsum (fun x => f x + g x) l = fsum f l + fsum g l := by
 induction l with
 | nil => rfl
 | cons x l ih => simp only [fsum_cons, ih]; omega
theorem fsum_zero (l : List Nat) : fsum (fun _ => 0) l = 0 := by
 induction l with
 | nil => rfl
 | cons x l ih => simp only [fsum_cons, ih]; omega
theorem fsum_cong {f g : Nat → Int} : ∀ {l : List Nat}, (∀ x ∈ l, Cong (f x) (g x)) → Cong (fsum f l) (fsum g l)
  | [], _ => ⟨0, by simp [fsum]⟩
  | x :: l, h => by
    obtain ⟨k, hk⟩ := h x (by simp)
    obtain ⟨m, hm⟩ := fsum_cong (l := l) (fun y hy => h y (by simp [hy]))
    exact ⟨k + m, by rw [fsum_cons, fsum_cons, hk, hm]; omega⟩
theorem fsum_pick (v : Nat) (c : Int) : ∀ {l : List Nat}, l.Nodup → fsum (fun y => if v = y then c else 0) l = if v ∈ l then c else 0
  | [], _ => by simp [fsum]
  | x :: l, h => by
    have hn := List.nodup_cons.1 h
    rw [fsum_cons, fsum_pick v c hn.2]
    by_cases e : v = x
    · subst e; simp [hn.1]
    · simp [e]
theorem tot_fsum (σ : Tbl) (l : List Nat) : tot σ l = (l.length : Int) + fsum (fun x => (σ x).light) l := by
 unfold tot fsum
 induction l with
 | nil => rfl
 | cons x l ih => simp only [List.map_cons, List.sum_cons, List.length_cons, ih]; omega
theorem tot_append (σ : Tbl) (l m : List Nat) : tot σ (l ++ m) = tot σ l + tot σ m := by simp [tot]
def psum (f : BT × Nat → Int) : Fst → Int
  | [] => 0
  | p :: F => f p + psum f F
theorem psum_congr {f g : BT × Nat → Int} : ∀ {F : Fst}, (∀ p ∈ F, f p = g p) → psum f F = psum g F
  | [], _ => rfl
  | p :: F, h => by simp only [psum]; rw [h p (by simp), psum_congr (fun q hq => h q (by simp [hq]))]
theorem psum_filter (σ : Tbl) (C : Nat → Bool) : ∀ F : Fst, psum (fun p => tot σ (p.1.nodes.filter C)) F = tot σ ((fnodes F).filter C)
  | [] => by simp [psum, fnodes, tot]
  | p :: F => by simp only [psum]; rw [psum_filter σ C F, fnodes_cons, List.filter_append, tot_append]
theorem fsum_lsum (σ : Tbl) {l : List Nat} (hl : l.Nodup) : ∀ F : Fst, fsum (lsum σ F) l = psum (fun p => if p.2 ∈ l then tot σ p.1.nodes else 0) F
  | [] => by show fsum (fun _ => 0) l = 0; exact fsum_zero l
  | p :: F => by
    show fsum (fun v => (if p.2 = v then tot σ p.1.nodes else 0) + lsum σ F v) l = _
    rw [fsum_add, fsum_pick p.2 _ hl]
    show _ + fsum (lsum σ F) l = _
    rw [fsum_lsum σ hl F]; rfl
section
variable {N : Nat} {σ : Tbl} {R : Fst} {par d rt : Nat → Nat} {t : BT}
theorem LF.size (h : LF N σ ((t, 0) :: R) par d rt) {x : Nat} (hx : x ∈ t.nodes) : wrap64 (tot σ t.nodes) = wrap64 (((fnodes ((t, 0) :: R)).filter (fun y => rt y = rt x)).length : Nat) := by
 have m1 : (t, 0) ∈ (t, 0) :: R := by simp
 obtain ⟨C, hC⟩ : ∃ C : Nat → Bool, C = fun y => decide (rt y = rt x) := ⟨_, rfl⟩
 have hCC : ∀ y, C y = true ↔ rt y = rt x := fun y => by rw [hC]; simp
 show wrap64 _ = wrap64 (((fnodes ((t, 0) :: R)).filter (fun y => decide (rt y = rt x))).length : Nat)
 rw [← hC]
 have e1 := psum_filter σ C ((t, 0) :: R)
 rw [tot_fsum] at e1
 generalize hl : (fnodes ((t, 0) :: R)).filter C = l at *
 have hln : l.Nodup := by rw [← hl]; exact h.nd.filter _
 have e2 : Cong (fsum (fun y => (σ y).light) l) (fsum (lsum σ ((t, 0) :: R)) l) := fsum_cong (fun y hy => by
   rw [← hl, List.mem_filter] at hy
   have := (h.mem y).1 hy.1
   rw [h.light y this.1 this.2]; exact cong_wrap _)
 rw [fsum_lsum σ hln] at e2
 have h0 : (0 : Nat) ∉ l := by {
 rw [← hl, List.mem_filter]; intro e
 have := ((h.mem 0).1 e.1).1; omega
 }
 have et : t.nodes.filter C = t.nodes := List.filter_eq_self.2 (fun y hy => (hCC y).2 ((h.same m1).1 y hy x hx))
 have eR : psum (fun p => tot σ (p.1.nodes.filter C)) R = psum (fun p => if p.2 ∈ l then tot σ p.1.nodes else 0) R := by {
 refine psum_congr (fun p hp => ?_)
 have mp : p ∈ (t, 0) :: R := by simp [hp]
 have none : (∀ y ∈ p.1.nodes, C y = false) → tot σ (p.1.nodes.filter C) = 0 := by {
 intro hy
 rw [List.filter_eq_nil_iff.2 (fun y h => by simp [hy y h])]; rfl
 }
 by_cases e0 : p.2 = 0
 {
 rw [e0, if_neg h0]
 refine none (fun y hy => ?_)
 apply Classical.byContradiction
 intro hc
 have hry : rt y = rt x := (hCC y).1 (by simpa using hc)
 have c1 := h.ch _ m1
 have c2 := h.ch _ mp
 rw [e0] at c2
 have z1 := h.seq0 m1
 have z2 := h.seq0 mp
 have sx := seq_mem.2 hx
 have sy := seq_mem.2 hy
 have hdis := h.disj hp
 cases hs1 : t.seq with
 | nil => rw [hs1] at sx; cases sx
 | cons a s1 => {
 cases hs2 : p.1.seq with
 | nil => rw [hs2] at sy; cases sy
 | cons b s2 => {
 dsimp only at c1 z1
 rw [hs1] at c1 z1 sx; rw [hs2] at c2 z2 sy
 have ra := ch_rt_head h.rt0 h.rt1 c1 z1 x sx
 have rb := ch_rt_head h.rt0 h.rt1 c2 z2 y sy
 have hab : a = b := by rw [← ra, ← hry, rb]
 exact hdis a (seq_mem.1 (by rw [hs1]; simp)) (seq_mem.1 (by rw [hs2, hab]; simp))
 }
 }
 }
 {
 have hu := (h.same mp).2 e0
 have hul : p.2 ∈ l ↔ rt p.2 = rt x := by {
 rw [← hl, List.mem_filter, hCC]
 exact ⟨fun e => e.2, fun e => ⟨(h.mem _).2 ⟨by omega, h.up p mp⟩, e⟩⟩
 }
 by_cases hcu : rt p.2 = rt x
 · rw [if_pos (hul.2 hcu), List.filter_eq_self.2 (fun y hy => (hCC y).2 ((hu y hy).trans hcu))]
 {
 rw [if_neg (fun e => hcu (hul.1 e))]
 refine none (fun y hy => ?_)
 apply Classical.byContradiction
 intro hc
 exact hcu ((hu y hy).symm.trans ((hCC y).1 (by simpa using hc)))
 }
 }
 }
 simp only [psum, if_neg h0] at e1 e2
 rw [et, eR] at e1
 refine Cong.wrap ?_
 obtain ⟨k, hk⟩ := e2
 exact ⟨k, by omega⟩
end
theorem LF.new (n : Nat) (σ : Tbl) (h0 : (σ 0).total = 0 ∧ (σ 0).k0 = 0 ∧ (σ 0).k1 = 0 ∧ (σ 0).up = 0 ∧ (σ 0).first = 0)
    (h1 : ∀ x, 0 < x → x < n + 1 → (σ x).k0 = 0 ∧ (σ x).k1 = 0 ∧ (σ x).up = 0 ∧ (σ x).flip = false ∧ (σ x).size = 1 ∧ (σ x).first = x ∧ (σ x).light = 0 ∧ (σ x).total = 1) :
    LF (n + 1) σ ((List.range n).map fun v => (.node false .nil (v + 1) .nil, 0)) (fun _ => 0) (fun _ => 0) id := by
 have hfn : fnodes ((List.range n).map fun v => (BT.node false .nil (v + 1) .nil, 0)) = (List.range n).map (· + 1) := by {
 unfold fnodes
 rw [List.flatMap_map]
 simp [BT.nodes]
 rw [← List.map_eq_flatMap]
 }
 refine ⟨fun p hp => ?_, ?_, fun x => ?_, fun p hp => ?_, fun p hp => ?_, fun x hx => absurd rfl hx, fun _ _ => rfl, fun _ _ => rfl, fun x hx => absurd rfl hx, fun v hv1 hv2 => ?_, h0, by omega⟩
 {
 obtain ⟨v, hv, rfl⟩ := List.mem_map.1 hp
 have hv := List.mem_range.1 hv
 obtain ⟨a1, a2, a3, a4, a5, a6, a7, a8⟩ := h1 (v + 1) (by omega) (by omega)
 refine ⟨⟨by omega, a3, a4, a1, a2⟩, trivial, trivial, ?_, ?_, ?_⟩
 · rw [a5]; simp [BT.nodes, wrap64]
 · rw [a8]; simp [BT.nodes, tot, a7, wrap64]
 · rw [a6]; simp [BT.nodes, IsBest]
 }
 {
 rw [hfn]
 exact List.pairwise_map.2 (List.nodup_range.imp (fun {a b} hab => by omega))
 }
 {
 rw [hfn]
 simp only [List.mem_map, List.mem_range]
 constructor
 · rintro ⟨v, hv, rfl⟩; omega
 · intro h; exact ⟨x - 1, by omega, by omega⟩
 }
 {
 obtain ⟨v, hv, rfl⟩ := List.mem_map.1 hp
 show 0 < n + 1; omega
 }
 {
 obtain ⟨v, hv, rfl⟩ := List.mem_map.1 hp
 simp [BT.seq, Ch]
 }
 {
 have hl : ∀ F : Fst, (∀ p ∈ F, p.2 = 0) → lsum σ F v = 0 := by {
 intro F hF
 induction F with
 | nil => rfl
 | cons p F ih => {
 simp only [lsum]
 rw [ih (fun q hq => hF q (by simp [hq])), hF p (by simp), if_neg (by omega)]; rfl
 }
 }
 rw [hl _ (fun p hp => by obtain ⟨v, _, rfl⟩ := List.mem_map.1 hp; rfl), (h1 v hv1 hv2).2.2.2.2.2.2.1]
 simp [wrap64]
 }
end Go.Proofs.YtgmnemndjjmgkaaGreat

/- lct: the forest over its vertices 0 .. n-1 (vertex v lies at the place v+1). -/
namespace Go.Proofs.YtgmnemndjjmgkaaGreat
open Go.RowKit
theorem last_snoc (l : List Nat) (x : Nat) : (l ++ [x]).getLast? = some x := by simp
def Conn (E : Nat → Nat → Prop) (a b : Nat) : Prop := ∃ p, IsPath E a b p
theorem wk_map {E : Nat → Nat → Prop} {par : Nat → Nat} (h : ∀ v u, E v u ↔ Adj par (v + 1) (u + 1)) : ∀ {a : Nat} {l : List Nat}, Wk E a l ↔ Wk (Adj par) (a + 1) (l.map (· + 1))
  | _, [] => Iff.rfl
  | a, x :: l => by simp only [Wk, List.map_cons]; rw [h, wk_map h]
theorem nodup_map_succ {l : List Nat} : (l.map (· + 1)).Nodup ↔ l.Nodup := by
 constructor
 · intro h; exact (List.pairwise_map.1 h).imp (fun {a b} hab e => hab (by rw [e]))
 · intro h; exact List.pairwise_map.2 (h.imp (fun {a b} hab => by omega))
theorem map_pred_succ {l : List Nat} (h : ∀ x ∈ l, x ≠ 0) : (l.map (· - 1)).map (· + 1) = l := by
 rw [List.map_map]
 refine (List.map_congr_left (fun x hx => ?_)).trans (List.map_id l)
 have := h x hx
 show x - 1 + 1 = id x
 simp; omega
theorem map_succ_pred (l : List Nat) : (l.map (· + 1)).map (· - 1) = l := by
 rw [List.map_map]
 exact (List.map_congr_left (fun x hx => by show x + 1 - 1 = id x; simp)).trans (List.map_id l)
theorem path_shift {E : Nat → Nat → Prop} {par : Nat → Nat} (h : ∀ v u, E v u ↔ Adj par (v + 1) (u + 1)) {v u : Nat} {p : List Nat} : IsPath E v u p ↔ IsPath (Adj par) (v + 1) (u + 1) (p.map (· + 1)) := by
 constructor
 {
 rintro ⟨l, rfl, h2, h3, h4⟩
 refine ⟨l.map (· + 1), rfl, (wk_map h).1 h2, nodup_map_succ.2 h3, ?_⟩
 rw [List.getLast?_map, h4]; rfl
 }
 {
 rintro ⟨l, h1, h2, h3, h4⟩
 cases p with
 | nil => cases h1
 | cons x p => {
 simp only [List.map_cons, List.cons.injEq] at h1
 obtain ⟨e, rfl⟩ := h1
 obtain rfl : x = v := by omega
 refine ⟨p, rfl, (wk_map h).2 h2, nodup_map_succ.1 h3, ?_⟩
 rw [List.getLast?_map] at h4
 cases hl : (x :: p).getLast? with
 | none => rw [hl] at h4; cases h4
 | some y => rw [hl] at h4; simp at h4; rw [h4]
 }
 }
theorem path_unshift {E : Nat → Nat → Prop} {par : Nat → Nat} (h : ∀ v u, E v u ↔ Adj par (v + 1) (u + 1)) {v u : Nat} {q : List Nat} (hq : IsPath (Adj par) (v + 1) (u + 1) q) : IsPath E v u (q.map (· - 1)) ∧ (q.map (· - 1)).map (· + 1) = q := by
 have hn : ∀ x ∈ q, x ≠ 0 := by {
 obtain ⟨l, rfl, h2, _⟩ := hq
 intro x hx
 rcases List.mem_cons.1 hx with rfl | hx
 · omega
 · exact wk_ne h2 x hx
 }
 have e := map_pred_succ hn
 exact ⟨(path_shift h).2 (by rw [e]; exact hq), e⟩
def Frs (E : Nat → Nat → Prop) : Prop := ∃ par d rt, Rtd par d rt ∧ ∀ v u, E v u ↔ Adj par (v + 1) (u + 1)
section
variable {E : Nat → Nat → Prop} {a b c : Nat} {p q r : List Nat}
theorem Frs.symm (h : Frs E) {v u : Nat} (he : E v u) : E u v := by
 obtain ⟨par, d, rt, _, h2⟩ := h
 exact (h2 u v).2 ((h2 v u).1 he).symm
theorem Frs.irrefl (h : Frs E) (v : Nat) : ¬ E v v := by
 obtain ⟨par, d, rt, h1, h2⟩ := h
 exact fun e => h1.irrefl _ ((h2 v v).1 e)
theorem Frs.unique (h : Frs E) (hp : IsPath E a b p) (hq : IsPath E a b q) : p = q := by
 obtain ⟨par, d, rt, h1, h2⟩ := h
 have := h1.unique (by omega) ((path_shift h2).1 hp) ((path_shift h2).1 hq)
 rw [← map_succ_pred p, this, map_succ_pred]
theorem conn_rt {par d rt : Nat → Nat} (h1 : Rtd par d rt) (h2 : ∀ v u, E v u ↔ Adj par (v + 1) (u + 1)) : Conn E a b ↔ rt (a + 1) = rt (b + 1) := by
 rw [← h1.conn (by omega) (by omega)]
 constructor
 · rintro ⟨p, hp⟩; exact ⟨_, (path_shift h2).1 hp⟩
 · rintro ⟨p, hp⟩; exact ⟨_, (path_unshift h2 hp).1⟩
theorem isPath_self (E : Nat → Nat → Prop) (a : Nat) : IsPath E a a [a] := ⟨[], rfl, trivial, by simp, rfl⟩
theorem Conn.refl (E : Nat → Nat → Prop) (a : Nat) : Conn E a a := ⟨[a], isPath_self E a⟩
theorem Frs.csymm (h : Frs E) (hc : Conn E a b) : Conn E b a := by
 obtain ⟨par, d, rt, h1, h2⟩ := h
 exact (conn_rt h1 h2).2 ((conn_rt h1 h2).1 hc).symm
theorem Frs.ctrans (h : Frs E) (hc : Conn E a b) (hd : Conn E b c) : Conn E a c := by
 obtain ⟨par, d, rt, h1, h2⟩ := h
 exact (conn_rt h1 h2).2 (((conn_rt h1 h2).1 hc).trans ((conn_rt h1 h2).1 hd))
theorem Frs.edge (h : Frs E) (he : E a b) : IsPath E a b [a, b] := by
 refine ⟨[b], rfl, ⟨he, trivial⟩, ?_, rfl⟩
 have : a ≠ b := by rintro rfl; exact h.irrefl a he
 simp [this]
theorem wk_append {x : Nat} {l m : List Nat} : Wk E a (l ++ x :: m) ↔ Wk E a (l ++ [x]) ∧ Wk E x m := by
 induction l generalizing a with
 | nil => simp [Wk]
 | cons y l ih => simp only [List.cons_append, Wk]; rw [ih, and_assoc]
theorem IsPath.nd (hp : IsPath E a b p) : p.Nodup := by obtain ⟨l, _, _, h, _⟩ := hp; exact h
theorem IsPath.ne (hp : IsPath E a b p) : p ≠ [] := by obtain ⟨l, rfl, _⟩ := hp; simp
end
end Go.Proofs.YtgmnemndjjmgkaaGreat

namespace Go.Proofs.YtgmnemndjjmgkaaGreat
open Go.RowKit Classical
def IsFirst (E : Nat → Nat → Prop) (v : Nat) : Prop := ∀ u, u < v → ¬ Conn E v u
noncomputable def nc (n : Nat) (E : Nat → Nat → Prop) : Nat := ((List.range n).filter fun v => decide (IsFirst E v)).length
noncomputable def csize (n : Nat) (E : Nat → Nat → Prop) (v : Nat) : Nat := ((List.range n).filter fun u => decide (Conn E v u)).length
theorem nc_le (n : Nat) (E : Nat → Nat → Prop) : nc n E ≤ n := by
 unfold nc
 have := List.length_filter_le (fun v => decide (IsFirst E v)) (List.range n)
 simpa using this
theorem csize_le (n : Nat) (E : Nat → Nat → Prop) (v : Nat) : csize n E v ≤ n := by
 unfold csize
 have := List.length_filter_le (fun u => decide (Conn E v u)) (List.range n)
 simpa using this
theorem conn_congr {E E' : Nat → Nat → Prop} (h : ∀ v u, E v u ↔ E' v u) (a b : Nat) : Conn E a b ↔ Conn E' a b :=
  ⟨fun ⟨p, hp⟩ => ⟨p, hp.mono (fun x y => (h x y).1)⟩, fun ⟨p, hp⟩ => ⟨p, hp.mono (fun x y => (h x y).2)⟩⟩
theorem E_ext {E E' : Nat → Nat → Prop} (h : ∀ v u, E v u ↔ E' v u) : E = E' := funext fun v => funext fun u => propext (h v u)
theorem filter_drop_one {P P' : Nat → Bool} {m : Nat} : ∀ {l : List Nat}, l.Nodup → m ∈ l → P m = true → P' m = false → (∀ x ∈ l, x ≠ m → P' x = P x) → (l.filter P').length + 1 = (l.filter P).length
  | y :: l, hn, hm, h1, h2, h3 => by
    have hn' := List.nodup_cons.1 hn
    by_cases e : y = m
    · subst e
      have : l.filter P' = l.filter P := List.filter_congr (fun x hx => h3 x (by simp [hx]) (by rintro rfl; exact hn'.1 hx))
      simp [h1, h2, this]
    · have hml : m ∈ l := (List.mem_cons.1 hm).resolve_left (fun h => e h.symm)
      have ih := filter_drop_one hn'.2 hml h1 h2 (fun x hx => h3 x (by simp [hx]))
      have hy := h3 y (by simp) e
      cases hp : P y with
      | true => simp [hy, hp, ih]
      | false => simp [hy, hp, ih]
def addE (E : Nat → Nat → Prop) (a b : Nat) : Nat → Nat → Prop := fun v u => E v u ∨ (v = a ∧ u = b) ∨ (v = b ∧ u = a)
def delE (E : Nat → Nat → Prop) (a b : Nat) : Nat → Nat → Prop := fun v u => E v u ∧ ¬ (v = a ∧ u = b) ∧ ¬ (v = b ∧ u = a)
section
variable {E : Nat → Nat → Prop} {a b n : Nat}
theorem conn_of_edge {v u : Nat} (h : Frs E) (he : E v u) : Conn E v u := ⟨_, h.edge he⟩
theorem conn_add (h : Frs E) (h' : Frs (addE E a b)) (x y : Nat) : Conn (addE E a b) x y ↔ Conn E x y ∨ (Conn E x a ∧ Conn E b y) ∨ (Conn E x b ∧ Conn E a y) := by
 constructor
 {
 rintro ⟨p, l, rfl, hw, _, hl⟩
 have key : ∀ {l : List Nat} {x : Nat}, Wk (addE E a b) x l → ∀ y ∈ x :: l, Conn E x y ∨ (Conn E x a ∧ Conn E b y) ∨ (Conn E x b ∧ Conn E a y) := by {
 intro l
 induction l with
 | nil => intro x _ y hy; simp at hy; subst hy; exact .inl (Conn.refl E y)
 | cons z l ih => {
 intro x ⟨h1, h2⟩ y hy
 rcases List.mem_cons.1 hy with rfl | hy
 · exact .inl (Conn.refl E y)
 have hz := ih h2 y hy
 rcases h1 with h1 | ⟨rfl, rfl⟩ | ⟨rfl, rfl⟩
 {
 have hxz := conn_of_edge h h1
 rcases hz with hz | ⟨hz1, hz2⟩ | ⟨hz1, hz2⟩
 · exact .inl (h.ctrans hxz hz)
 · exact .inr (.inl ⟨h.ctrans hxz hz1, hz2⟩)
 · exact .inr (.inr ⟨h.ctrans hxz hz1, hz2⟩)
 }
 {
 rcases hz with hz | ⟨hz1, hz2⟩ | ⟨hz1, hz2⟩
 · exact .inr (.inl ⟨Conn.refl E x, hz⟩)
 · exact .inr (.inl ⟨Conn.refl E x, hz2⟩)
 · exact .inl hz2
 }
 {
 rcases hz with hz | ⟨hz1, hz2⟩ | ⟨hz1, hz2⟩
 · exact .inr (.inr ⟨Conn.refl E x, hz⟩)
 · exact .inl hz2
 · exact .inr (.inr ⟨Conn.refl E x, hz2⟩)
 }
 }
 }
 exact key hw y (List.mem_of_getLast? hl)
 }
 {
 have hm : ∀ {x y}, Conn E x y → Conn (addE E a b) x y := fun ⟨p, hp⟩ => ⟨p, hp.mono (fun _ _ e => .inl e)⟩
 have hab : Conn (addE E a b) a b := conn_of_edge h' (.inr (.inl ⟨rfl, rfl⟩))
 rintro (e | ⟨e1, e2⟩ | ⟨e1, e2⟩)
 · exact hm e
 · exact h'.ctrans (hm e1) (h'.ctrans hab (hm e2))
 · exact h'.ctrans (hm e1) (h'.ctrans (h'.csymm hab) (hm e2))
 }
theorem least_ex {P : Nat → Prop} {n : Nat} (h : P n) : ∃ m, m ≤ n ∧ P m ∧ ∀ k, k < m → ¬ P k := by
 induction n using Nat.strongRecOn with
 | _ n ih => {
 by_cases hm : ∃ m, m < n ∧ P m
 {
 obtain ⟨m, hlt, hp⟩ := hm
 obtain ⟨m', h1, h2, h3⟩ := ih m hlt hp
 exact ⟨m', by omega, h2, h3⟩
 }
 · exact ⟨n, Nat.le_refl _, h, fun k hk hp => hm ⟨k, hk, hp⟩⟩
 }
theorem nc_add (h : Frs E) (h' : Frs (addE E a b)) (hab : ¬ Conn E a b) (ha : a < n) (hb : b < n) : nc n (addE E a b) + 1 = nc n E := by
 obtain ⟨fa, ha1, ha2, ha3⟩ := least_ex (P := fun k => Conn E a k) (Conn.refl E a)
 obtain ⟨fb, hb1, hb2, hb3⟩ := least_ex (P := fun k => Conn E b k) (Conn.refl E b)
 have hne : fa ≠ fb := by rintro rfl; exact hab (h.ctrans ha2 (h.csymm hb2))
 have hfa : IsFirst E fa := fun k hk hc => ha3 k hk (h.ctrans ha2 hc)
 have hfb : IsFirst E fb := fun k hk hc => hb3 k hk (h.ctrans hb2 hc)
 have key : ∀ {a b fa fb : Nat}, fa < fb → Conn E a fa → Conn E b fb → IsFirst E fa → IsFirst E fb → ¬ Conn E a b → Frs (addE E a b) → b < n → fb ≤ b → (∀ k, k < fa → ¬ Conn E a k) → nc n (addE E a b) + 1 = nc n E := by {
 intro a b fa fb hlt hca hcb hfa hfb hab h' hbn hfbb hmin
 have hbc := conn_add (a := a) (b := b) h h'
 unfold nc
 refine filter_drop_one (m := fb) List.nodup_range (List.mem_range.2 (by omega)) (decide_eq_true hfb) (decide_eq_false ?_) ?_
 {
 intro hf
 exact hf fa hlt ((hbc fb fa).2 (.inr (.inr ⟨h.csymm hcb, hca⟩)))
 }
 {
 intro x _ hx
 refine decide_eq_decide.2 ⟨fun hf u hu hc => hf u hu ((hbc x u).2 (.inl hc)), fun hf u hu hc => ?_⟩
 rcases (hbc x u).1 hc with e | ⟨e1, e2⟩ | ⟨e1, e2⟩
 · exact hf u hu e
 {
 -- x is with a, u with b: then x = fa, and fb ≤ u
 have hxfa : Conn E x fa := h.ctrans e1 hca
 have h1 : x = fa := by {
 rcases Nat.lt_trichotomy x fa with q | q | q
 · exact absurd (h.csymm hxfa) (hfa x q)
 · exact q
 · exact absurd hxfa (hf fa q)
 }
 have : ¬ u < fb := fun q => hfb u q (h.ctrans (h.csymm hcb) e2)
 omega
 }
 {
 have hxfb : Conn E x fb := h.ctrans e1 hcb
 rcases Nat.lt_trichotomy x fb with q | q | q
 · exact absurd (h.csymm hxfb) (hfb x q)
 · exact absurd q hx
 · exact absurd hxfb (hf fb q)
 }
 }
 }
 rcases Nat.lt_or_gt_of_ne hne with q | q
 · exact key q ha2 hb2 hfa hfb hab h' hb hb1 ha3
 {
 have e : addE E a b = addE E b a := E_ext (fun v u => by unfold addE; constructor <;> (rintro (e | e | e); exact .inl e; exact .inr (.inr e); exact .inr (.inl e)))
 rw [e]
 exact key q hb2 ha2 hfb hfa (fun e => hab (h.csymm e)) (by rw [← e]; exact h') ha ha1 hb3
 }
theorem add_del (h : Frs E) (he : E a b) : addE (delE E a b) a b = E := by
 refine E_ext (fun v u => ?_)
 unfold addE delE
 constructor
 {
 rintro (e | ⟨rfl, rfl⟩ | ⟨rfl, rfl⟩)
 · exact e.1
 · exact he
 · exact h.symm he
 }
 {
 intro e
 by_cases h1 : v = a ∧ u = b
 · exact .inr (.inl h1)
 {
 by_cases h2 : v = b ∧ u = a
 · exact .inr (.inr h2)
 · exact .inl ⟨e, h1, h2⟩
 }
 }
theorem del_sep (h : Frs E) (he : E a b) : ¬ Conn (delE E a b) a b := by
 rintro ⟨p, hp⟩
 have h1 := hp.mono (E' := E) (fun x y e => e.1)
 have h2 := h.unique h1 (h.edge he)
 subst h2
 obtain ⟨l, e, hw, _⟩ := hp
 simp at e
 subst e
 exact hw.1.2.1 ⟨rfl, rfl⟩
theorem nc_del (h : Frs E) (h' : Frs (delE E a b)) (he : E a b) (ha : a < n) (hb : b < n) : nc n (delE E a b) = nc n E + 1 := by
 have e := add_del h he
 have := nc_add (n := n) h' (by rw [e]; exact h) (del_sep h he) ha hb
 rw [e] at this; exact this.symm
end
theorem nc_none (n : Nat) : nc n (fun _ _ => False) = n := by
 unfold nc
 rw [List.filter_eq_self.2]
 · simp
 {
 intro v _
 refine decide_eq_true (fun u hu ⟨p, l, e, hw, _, hl⟩ => ?_)
 cases l with
 | nil => subst e; simp at hl; omega
 | cons x l => exact hw.1
 }
end Go.Proofs.YtgmnemndjjmgkaaGreat
