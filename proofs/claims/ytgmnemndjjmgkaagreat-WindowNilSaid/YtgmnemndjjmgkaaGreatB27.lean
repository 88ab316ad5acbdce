/- A window: Copy. -/
import Derived.Test.YtgmnemndjjmgkaaGreatB26
import Derived.Test.YtgmnemndjjmgkaaGreatB20
import Derived.Test.YtgmnemndjjmgkaaGreatB24
import Derived.Test.YtgmnemndjjmgkaaGreatB23
import Derived.Test.YtgmnemndjjmgkaaGreatB1
import Derived.Deep.RegionHeld3
import Derived.Shelf.SlGeneric
import Derived.Ground.SlgnProg
import Derived.Shelf.SlicesE.Clone
import Derived.Test.YtgmnemndjjmgkaaGreatB15
import Derived.Ground.SlmcProg
import Derived.Shelf.SlMaps.Clone
import Derived.StillTailTactics
import Derived.Test.YtgmnemndjjmgkaaGreatB22
import Derived.Test.YtgmnemndjjmgkaaGreatB25
set_option linter.unusedSimpArgs false
set_option linter.unusedVariables false
/- The plain model of a window: who is connected, by ids. -/
namespace Go.Proofs.YtgmnemndjjmgkaaGreat
open Go.RowKit Classical
set_option maxRecDepth 10000
inductive Rl (L : List Lv) (f : Int) : Nat → Nat → Prop
  | refl (u : Nat) : Rl L f u u
  | step {a b c : Nat} (e : Lv) : Rl L f a b → e ∈ L → f ≤ e.x → (e.u = b ∧ e.v = c ∨ e.u = c ∧ e.v = b) → Rl L f a c
section
variable {L L' : List Lv} {f g : Int} {a b c : Nat}
theorem Rl.trans (h : Rl L f a b) (h' : Rl L f b c) : Rl L f a c := by
 induction h' with
 | refl => exact h
 | step e _ h1 h2 h3 ih => exact .step e ih h1 h2 h3
theorem Rl.edge {e : Lv} (he : e ∈ L) (hx : f ≤ e.x) : Rl L f e.u e.v := .step e (.refl _) he hx (.inl ⟨rfl, rfl⟩)
theorem Rl.edge' {e : Lv} (he : e ∈ L) (hx : f ≤ e.x) : Rl L f e.v e.u := .step e (.refl _) he hx (.inr ⟨rfl, rfl⟩)
theorem Rl.symm (h : Rl L f a b) : Rl L f b a := by
 induction h with
 | refl => exact .refl _
 | step e _ h1 h2 h3 ih => {
 rcases h3 with ⟨rfl, rfl⟩ | ⟨rfl, rfl⟩
 · exact (Rl.edge' h1 h2).trans ih
 · exact (Rl.edge h1 h2).trans ih
 }
theorem Rl.mono (h : Rl L f a b) (hm : ∀ e ∈ L, f ≤ e.x → ∃ d ∈ L', d.u = e.u ∧ d.v = e.v ∧ g ≤ d.x) : Rl L' g a b := by
 induction h with
 | refl => exact .refl _
 | step e _ h1 h2 h3 ih => {
 obtain ⟨d, hd, e1, e2, hx⟩ := hm e h1 h2
 exact .step d ih hd hx (by rw [e1, e2]; exact h3)
 }
end
def inL (L : List Lv) (u : Nat) : Prop := ∃ e ∈ L, e.at u = true
def allT : Int := -9223372036854775808
def core (e : Lv) : Lv := { e with slot := 0 }
theorem inL_core {L : List Lv} {u : Nat} : inL (L.map core) u ↔ inL L u := by
 unfold inL
 constructor
 {
 rintro ⟨e, he, h⟩
 obtain ⟨d, hd, rfl⟩ := List.mem_map.1 he
 exact ⟨d, hd, h⟩
 }
 {
 rintro ⟨e, he, h⟩
 exact ⟨core e, List.mem_map.2 ⟨e, he, rfl⟩, h⟩
 }
theorem rl_core {L : List Lv} {f : Int} {a b : Nat} : Rl (L.map core) f a b ↔ Rl L f a b := by
 constructor
 {
 intro h
 refine h.mono fun e he hx => ?_
 obtain ⟨d, hd, rfl⟩ := List.mem_map.1 he
 exact ⟨d, hd, rfl, rfl, hx⟩
 }
 {
 intro h
 exact h.mono fun e he hx => ⟨core e, List.mem_map.2 ⟨e, he, rfl⟩, rfl, rfl, hx⟩
 }
noncomputable def ncl (R : Nat → Nat → Prop) : List Nat → Nat
  | [] => 0
  | a :: r => ncl R r + if ∃ b ∈ r, R a b then 0 else 1
section
variable {R R' : Nat → Nat → Prop} {l m : List Nat}
theorem ncl_perm (hs : ∀ a b, R a b → R b a) (ht : ∀ a b c, R a b → R b c → R a c) (h : l.Perm m) : ncl R l = ncl R m := by
 induction h with
 | nil => rfl
 | cons a h ih => {
 have e : (∃ b ∈ _, R a b) ↔ ∃ b ∈ _, R a b := ⟨fun ⟨b, hb, hr⟩ => ⟨b, h.mem_iff.1 hb, hr⟩, fun ⟨b, hb, hr⟩ => ⟨b, h.mem_iff.2 hb, hr⟩⟩
 simp only [ncl, ih, e]
 }
 | swap a b r => {
 simp only [ncl, List.mem_cons, exists_eq_or_imp]
 by_cases hab : R a b
 {
 have hba := hs _ _ hab
 have e : (∃ c, c ∈ r ∧ R a c) ↔ ∃ c, c ∈ r ∧ R b c := ⟨fun ⟨c, hc, h⟩ => ⟨c, hc, ht _ _ _ hba h⟩, fun ⟨c, hc, h⟩ => ⟨c, hc, ht _ _ _ hab h⟩⟩
 simp only [hab, hba, e, true_or, if_true]
 }
 {
 have hba : ¬ R b a := fun h => hab (hs _ _ h)
 simp only [hab, hba, false_or]
 omega
 }
 }
 | trans _ _ ih1 ih2 => rw [ih1, ih2]
theorem ncl_map (f : Nat → Nat) (l : List Nat) : ncl R (l.map f) = ncl (fun a b => R (f a) (f b)) l := by
 induction l with
 | nil => rfl
 | cons a r ih => {
 have e : (∃ b ∈ r.map f, R (f a) b) ↔ ∃ b ∈ r, R (f a) (f b) := by {
 constructor
 {
 rintro ⟨b, hb, hr⟩
 obtain ⟨c, hc, rfl⟩ := List.mem_map.1 hb
 exact ⟨c, hc, hr⟩
 }
 · rintro ⟨c, hc, hr⟩; exact ⟨f c, List.mem_map.2 ⟨c, hc, rfl⟩, hr⟩
 }
 simp only [List.map_cons, ncl, ih, e]
 }
theorem ncl_congr (h : ∀ a ∈ l, ∀ b ∈ l, R a b ↔ R' a b) : ncl R l = ncl R' l := by
 induction l with
 | nil => rfl
 | cons a r ih => {
 have e : (∃ b ∈ r, R a b) ↔ ∃ b ∈ r, R' a b := ⟨fun ⟨b, hb, hr⟩ => ⟨b, hb, (h a (by simp) b (by simp [hb])).1 hr⟩, fun ⟨b, hb, hr⟩ => ⟨b, hb, (h a (by simp) b (by simp [hb])).2 hr⟩⟩
 simp only [ncl, ih fun a ha b hb => h a (by simp [ha]) b (by simp [hb]), e]
 }
theorem ncl_snoc (hs : ∀ a b, R a b → R b a) (ht : ∀ a b c, R a b → R b c → R a c) (l : List Nat) (a : Nat) : ncl R (l ++ [a]) = ncl R l + if ∃ b ∈ l, R a b then 0 else 1 := by
 rw [ncl_perm hs ht (List.perm_append_comm (l₁ := l) (l₂ := [a]))]
 rfl
theorem ncl_le (l : List Nat) : ncl R l ≤ l.length := by
 induction l with
 | nil => exact Nat.le_refl 0
 | cons a r ih => {
 simp only [ncl, List.length_cons]
 split <;> omega
 }
theorem ncl_alone (h : ∀ a ∈ l, ∀ b, R a b → a = b) (hn : (l ++ m).Nodup) : ncl R (l ++ m) = l.length + ncl R m := by
 induction l with
 | nil => simp
 | cons a r ih => {
 rw [List.cons_append] at hn ⊢
 have hn' := List.nodup_cons.1 hn
 have e : ¬ ∃ b ∈ r ++ m, R a b := fun ⟨b, hb, hr⟩ => hn'.1 ((h a (by simp) b hr) ▸ hb)
 simp only [ncl, if_neg e, ih (fun b hb => h b (by simp [hb])) hn'.2, List.length_cons]
 omega
 }
end
noncomputable def reach (R : Nat → Nat → Prop) (l p : List Nat) : Nat := (l.filter fun b => decide (∃ a ∈ p, R a b)).length
theorem reach_all {R : Nat → Nat → Prop} (hr : ∀ a, R a a) (l : List Nat) : reach R l l = l.length := by
 unfold reach
 rw [List.filter_eq_self.2 fun b hb => decide_eq_true ⟨b, hb, hr b⟩]
theorem reach_nil (R : Nat → Nat → Prop) (l : List Nat) : reach R l [] = 0 := by simp [reach]
theorem reach_old {R : Nat → Nat → Prop} (hs : ∀ a b, R a b → R b a) (ht : ∀ a b c, R a b → R b c → R a c) {l p : List Nat} {a : Nat} (h : ∃ b ∈ p, R a b) : reach R l (p ++ [a]) = reach R l p := by
 unfold reach
 congr 1
 refine List.filter_congr fun x _ => decide_eq_decide.2 ?_
 simp only [List.mem_append, List.mem_singleton]
 constructor
 {
 rintro ⟨y, hy | rfl, hr⟩
 · exact ⟨y, hy, hr⟩
 {
 obtain ⟨b, hb, hab⟩ := h
 exact ⟨b, hb, ht _ _ _ (hs _ _ hab) hr⟩
 }
 }
 · rintro ⟨y, hy, hr⟩; exact ⟨y, .inl hy, hr⟩
theorem filter_or_len {α : Type} (l : List α) (p q : α → Bool) (h : ∀ x ∈ l, p x = true → q x = false) : (l.filter fun x => p x || q x).length = (l.filter p).length + (l.filter q).length := by
 induction l with
 | nil => rfl
 | cons a r ih => {
 have := ih fun x hx => h x (by simp [hx])
 cases hp : p a
 · cases hq : q a <;> simp [hp, hq, this] <;> omega
 {
 have := h a (by simp) hp
 simp [hp, this]; omega
 }
 }
theorem reach_new {R : Nat → Nat → Prop} (hs : ∀ a b, R a b → R b a) (ht : ∀ a b c, R a b → R b c → R a c) {l p : List Nat} {a : Nat} (h : ¬ ∃ b ∈ p, R a b) : reach R l (p ++ [a]) = reach R l p + (l.filter fun b => decide (R a b)).length := by
 unfold reach
 rw [← filter_or_len]
 {
 congr 1
 refine List.filter_congr fun x _ => ?_
 rw [← Bool.decide_or]
 refine decide_eq_decide.2 ?_
 simp only [List.mem_append, List.mem_singleton]
 constructor
 {
 rintro ⟨y, hy | rfl, hr⟩
 · exact .inl ⟨y, hy, hr⟩
 · exact .inr hr
 }
 {
 rintro (⟨y, hy, hr⟩ | hr)
 · exact ⟨y, .inl hy, hr⟩
 · exact ⟨a, .inr rfl, hr⟩
 }
 }
 {
 intro x _ hp
 obtain ⟨b, hb, hr⟩ := of_decide_eq_true hp
 exact decide_eq_false fun hax => h ⟨b, hb, ht _ _ _ hax (hs _ _ hr)⟩
 }
section
variable {W : Wm} {f : Int} {a b u v : Nat}
theorem cx_rl (h : W.Ok) (hc : Cx W.G (AtLeast W.G f) a b) (hu : W.s.M.find u = some a) : ∃ v, W.s.M.find v = some b ∧ Rl W.s.L f u v := by
 induction hc with
 | refl => exact ⟨u, hu, .refl _⟩
 | step s x _ h1 h2 ih => {
 obtain ⟨v, hv, hr⟩ := ih
 obtain ⟨p, q, y, hy, hfy⟩ := h1
 rcases h2 with h2 | h2
 {
 rw [h2] at hy
 simp only [Option.some.injEq, Prod.mk.injEq] at hy
 obtain ⟨e, he, hs, e1, e2, ex⟩ := (h.lk.g _ _ _ _).1 h2
 exact ⟨e.v, e2, .step e hr he (by omega) (.inl ⟨find_inj h.ok.md e1 hv, rfl⟩)⟩
 }
 {
 rw [h2] at hy
 simp only [Option.some.injEq, Prod.mk.injEq] at hy
 obtain ⟨e, he, hs, e1, e2, ex⟩ := (h.lk.g _ _ _ _).1 h2
 exact ⟨e.u, e1, .step e hr he (by omega) (.inr ⟨rfl, find_inj h.ok.md e2 hv⟩)⟩
 }
 }
theorem rl_cx (h : W.Ok) (hc : Rl W.s.L f u v) (hu : W.s.M.find u = some a) : ∃ b, W.s.M.find v = some b ∧ Cx W.G (AtLeast W.G f) a b := by
 induction hc with
 | refl => exact ⟨a, hu, .refl _⟩
 | step e _ h1 h2 h3 ih => {
 obtain ⟨b, hb, hc⟩ := ih
 obtain ⟨p, hp⟩ := Option.isSome_iff_exists.1 (vert_mem h.ok h1 (x := e.u) (by simp [Lv.at]))
 obtain ⟨q, hq⟩ := Option.isSome_iff_exists.1 (vert_mem h.ok h1 (x := e.v) (by simp [Lv.at]))
 have hg : W.G e.slot = some (p, q, e.x) := (h.lk.g _ _ _ _).2 ⟨e, h1, rfl, hp, hq, rfl⟩
 rcases h3 with ⟨e1, e2⟩ | ⟨e1, e2⟩
 {
 have : b = p := by rw [← e1, hp] at hb; exact (Option.some.inj hb).symm
 subst this
 exact ⟨q, by rw [← e2]; exact hq, .step e.slot e.x hc ⟨_, _, _, hg, h2⟩ (.inl hg)⟩
 }
 {
 have : b = q := by rw [← e2, hq] at hb; exact (Option.some.inj hb).symm
 subst this
 exact ⟨p, by rw [← e1]; exact hp, .step e.slot e.x hc ⟨_, _, _, hg, h2⟩ (.inr hg)⟩
 }
 }
theorem cx_iff (h : W.Ok) (hu : W.s.M.find u = some a) (hv : W.s.M.find v = some b) : Cx W.G (AtLeast W.G f) a b ↔ Rl W.s.L f u v := by
 constructor
 {
 intro hc
 obtain ⟨v', hv', hr⟩ := cx_rl h hc hu
 rw [find_inj h.ok.md hv hv']; exact hr
 }
 {
 intro hr
 obtain ⟨b', hb', hc⟩ := rl_cx h hr hu
 rw [hv] at hb'
 rw [Option.some.inj hb']; exact hc
 }
theorem cx_all (h : W.Ok) (a b : Nat) : Cx W.G (fun _ => True) a b ↔ Cx W.G (AtLeast W.G allT) a b := by
 constructor
 {
 refine fun hc => hc.mono fun t e _ he => ?_
 obtain ⟨p, q, x⟩ := e
 refine ⟨p, q, x, he, ?_⟩
 obtain ⟨d, hd, _, _, _, hx⟩ := (h.lk.g _ _ _ _).1 he
 have h1 := (h.x d hd).2.2.2
 have h2 := h.n0
 unfold allT; omega
 }
 · exact fun hc => hc.mono fun _ _ _ _ => trivial
theorem cxT_iff (h : W.Ok) (hu : W.s.M.find u = some a) (hv : W.s.M.find v = some b) : Cx W.G (fun _ => True) a b ↔ Rl W.s.L allT u v := by
 rw [cx_all h, cx_iff h hu hv]
theorem find_inL (h : W.Ok) (u : Nat) : (W.s.M.find u).isSome = true ↔ inL W.s.L u := by
 rw [h.ok.vert]
 constructor
 {
 intro hn
 obtain ⟨k, hk⟩ := List.exists_mem_of_ne_nil _ hn
 obtain ⟨e, he, hat, _⟩ := mem_incL.1 hk
 exact ⟨e, he, hat⟩
 }
 {
 rintro ⟨e, he, hat⟩
 exact List.ne_nil_of_mem (mem_incL.2 ⟨e, he, hat, rfl⟩)
 }
end
end Go.Proofs.YtgmnemndjjmgkaaGreat

/- The plain model of a window: its ids, how many are connected, how many components there are. -/
namespace Go.Proofs.YtgmnemndjjmgkaaGreat
open Go.RowKit Classical
set_option maxRecDepth 10000
def insN (x : Nat) : List Nat → List Nat
  | [] => [x]
  | a :: r => if x = a then a :: r else if x < a then x :: a :: r else a :: insN x r
theorem insN_mem {x y : Nat} {l : List Nat} : y ∈ insN x l ↔ y = x ∨ y ∈ l := by
 induction l with
 | nil => simp [insN]
 | cons a r ih => {
 unfold insN
 by_cases h1 : x = a
 {
 rw [if_pos h1, List.mem_cons]
 constructor
 · exact fun h => .inr h
 {
 rintro (rfl | h)
 · exact .inl h1
 · exact h
 }
 }
 {
 rw [if_neg h1]
 by_cases h2 : x < a
 · rw [if_pos h2, List.mem_cons]
 {
 rw [if_neg h2, List.mem_cons, List.mem_cons, ih]
 constructor
 {
 rintro (h | h | h)
 · exact .inr (.inl h)
 · exact .inl h
 · exact .inr (.inr h)
 }
 {
 rintro (h | h | h)
 · exact .inr (.inl h)
 · exact .inl h
 · exact .inr (.inr h)
 }
 }
 }
 }
theorem insN_lt {x : Nat} {l : List Nat} (h : l.Pairwise (· < ·)) : (insN x l).Pairwise (· < ·) := by
 induction l with
 | nil => simp [insN]
 | cons a r ih => {
 have h' := List.pairwise_cons.1 h
 unfold insN
 by_cases h1 : x = a
 · rw [if_pos h1]; exact h
 {
 rw [if_neg h1]
 by_cases h2 : x < a
 {
 rw [if_pos h2]
 refine List.pairwise_cons.2 ⟨fun y hy => ?_, h⟩
 rcases List.mem_cons.1 hy with rfl | hy
 · exact h2
 · have := h'.1 y hy; omega
 }
 {
 rw [if_neg h2]
 refine List.pairwise_cons.2 ⟨fun y hy => ?_, ih h'.2⟩
 rcases insN_mem.1 hy with rfl | hy
 · omega
 · exact h'.1 y hy
 }
 }
 }
theorem lt_ext {l m : List Nat} (hl : l.Pairwise (· < ·)) (hm : m.Pairwise (· < ·)) (h : ∀ x, x ∈ l ↔ x ∈ m) : l = m := by
 refine List.Perm.eq_of_pairwise (le := fun x y : Nat => x < y) (fun a b _ _ h1 h2 => by omega) hl hm ?_
 rw [List.perm_ext_iff_of_nodup (hl.imp fun h => Nat.ne_of_lt h) (hm.imp fun h => Nat.ne_of_lt h)]
 exact h
def idsL (L : List Lv) : List Nat := L.foldl (fun o e => insN e.v (insN e.u o)) []
theorem idsF (L : List Lv) : ∀ o : List Nat, o.Pairwise (· < ·) → (L.foldl (fun o e => insN e.v (insN e.u o)) o).Pairwise (· < ·) ∧ ∀ x, x ∈ L.foldl (fun o e => insN e.v (insN e.u o)) o ↔ x ∈ o ∨ inL L x := by
 induction L with
 | nil => intro o ho; exact ⟨ho, fun x => by simp [inL]⟩
 | cons e r ih => {
 intro o ho
 obtain ⟨h1, h2⟩ := ih _ (insN_lt (x := e.v) (insN_lt (x := e.u) ho))
 refine ⟨h1, fun x => ?_⟩
 rw [List.foldl_cons, h2, insN_mem, insN_mem]
 unfold inL
 simp only [List.mem_cons, exists_eq_or_imp, Lv.at, Bool.or_eq_true, beq_iff_eq]
 constructor
 {
 rintro ((h | h | h) | h)
 · exact .inr (.inl (.inr h.symm))
 · exact .inr (.inl (.inl h.symm))
 · exact .inl h
 · exact .inr (.inr h)
 }
 {
 rintro (h | (h | h) | h)
 · exact .inl (.inr (.inr h))
 · exact .inl (.inr (.inl h.symm))
 · exact .inl (.inl h.symm)
 · exact .inr h
 }
 }
theorem idsL_lt (L : List Lv) : (idsL L).Pairwise (· < ·) := (idsF L [] .nil).1
theorem idsL_mem {L : List Lv} {x : Nat} : x ∈ idsL L ↔ inL L x := by
 have h := (idsF L [] .nil).2 x
 unfold idsL
 rw [h]
 simp
theorem idsL_core (L : List Lv) : idsL (L.map core) = idsL L :=
  lt_ext (idsL_lt _) (idsL_lt _) fun x => by rw [idsL_mem, idsL_mem, inL_core]
section
variable {W : Wm}
theorem Wm.Ok.ids_eq (h : W.Ok) : W.s.ids = idsL W.s.L := by
 refine lt_ext (sortN_lt h.ok.md.ids) (idsL_lt _) fun x => ?_
 rw [show W.s.ids = sortN (W.s.M.L.map (·.1)) from rfl, sortN_mem, mem_ids_find h.ok.md, find_inL h, idsL_mem]
theorem Wm.Ok.ids_len (h : W.Ok) : W.s.M.L.length = (idsL W.s.L).length := by rw [← h.ids_eq, Sm.ids_len]
theorem Wm.Ok.ids_perm (h : W.Ok) : (W.s.M.L.map (·.1)).Perm (idsL W.s.L) := by
 rw [← h.ids_eq]; exact (sortN_perm _).symm
theorem Wm.Ok.idx (h : W.Ok) {u a : Nat} (hu : W.s.M.find u = some a) : a < W.V := by
 have := Sm.idx_lt h.ok hu
 rw [h.hV] at this
 exact this
theorem cnt_ids (h : W.Ok) {T P : Nat → Prop} (hT : ∀ i, T i ↔ ∃ u, W.s.M.find u = some i ∧ P u) : cntT W.V T = ((idsL W.s.L).filter fun u => decide (P u)).length := by
 have h1 : ((List.range W.V).filter fun i => decide (T i)).Perm ((W.s.M.L.filter fun p => decide (P p.1)).map (·.2)) := by {
 rw [List.perm_ext_iff_of_nodup (List.nodup_range.filter _) ((List.Sublist.map _ List.filter_sublist).nodup h.ok.md.idx)]
 intro i
 simp only [List.mem_filter, List.mem_range, decide_eq_true_eq, List.mem_map]
 constructor
 {
 rintro ⟨_, ht⟩
 obtain ⟨u, hu, hp⟩ := (hT i).1 ht
 exact ⟨(u, i), ⟨Md.find_mem hu, hp⟩, rfl⟩
 }
 {
 rintro ⟨⟨u, j⟩, ⟨hm, hp⟩, rfl⟩
 have hu := (Md.find_iff h.ok.md).2 hm
 exact ⟨h.idx hu, (hT _).2 ⟨u, hu, hp⟩⟩
 }
 }
 unfold cntT
 rw [h1.length_eq, List.length_map]
 have h2 := (h.ids_perm.filter fun u => decide (P u)).length_eq
 rw [← h2, List.filter_map, List.length_map]
 rfl
theorem size_ids (h : W.Ok) {u a : Nat} (hu : W.s.M.find u = some a) : cxs W.V W.G (fun _ => True) a = ((idsL W.s.L).filter fun v => decide (Rl W.s.L allT u v)).length := by
 refine cnt_ids h fun i => ?_
 rw [cx_all h]
 constructor
 · exact fun hc => cx_rl h hc hu
 {
 rintro ⟨v, hv, hr⟩
 exact (cx_iff h hu hv).2 hr
 }
theorem lead_ncl (G : EMap) (T : Nat → Prop) (n : Nat) : cntT n (Lead G T) = ncl (Cx G T) (List.range n) := by
 induction n with
 | zero => rfl
 | succ n ih => {
 rw [List.range_succ, ncl_snoc (fun _ _ h => h.symm) (fun _ _ _ h1 h2 => h1.trans h2), ← ih]
 unfold cntT
 rw [List.range_succ, List.filter_append, List.length_append]
 congr 1
 by_cases hl : Lead G T n
 {
 have : ¬ ∃ b ∈ List.range n, Cx G T n b := fun ⟨b, hb, hc⟩ => hl b (List.mem_range.1 hb) hc
 rw [if_neg this]
 simp [hl]
 }
 {
 have : ∃ b ∈ List.range n, Cx G T n b := by {
 apply Classical.byContradiction
 intro hn
 exact hl fun b hb hc => hn ⟨b, List.mem_range.2 hb, hc⟩
 }
 rw [if_pos this]
 simp [hl]
 }
 }
theorem comps_ids (h : W.Ok) : compG W.V W.G + W.s.M.L.length = W.V + ncl (Rl W.s.L allT) (idsL W.s.L) := by
 unfold compG
 rw [lead_ncl]
 have hp : (List.range W.V).Perm (((List.range W.V).filter fun i => decide (i ∉ W.s.M.L.map (·.2))) ++ W.s.M.L.map (·.2)) := by {
 rw [List.perm_ext_iff_of_nodup List.nodup_range]
 {
 intro i
 simp only [List.mem_append, List.mem_filter, List.mem_range, decide_eq_true_eq]
 constructor
 {
 intro hi
 by_cases hm : i ∈ W.s.M.L.map (·.2)
 · exact .inr hm
 · exact .inl ⟨hi, hm⟩
 }
 {
 rintro (hi | hm)
 · exact hi.1
 {
 obtain ⟨⟨u, j⟩, hm2, rfl⟩ := List.mem_map.1 hm
 exact h.idx ((Md.find_iff h.ok.md).2 hm2)
 }
 }
 }
 {
 rw [List.nodup_append]
 refine ⟨List.nodup_range.filter _, h.ok.md.idx, fun a ha b hb e => ?_⟩
 subst e
 exact (of_decide_eq_true (List.mem_filter.1 ha).2) hb
 }
 }
 have hlen := hp.length_eq
 rw [List.length_range, List.length_append, List.length_map] at hlen
 rw [ncl_perm (fun _ _ h => h.symm) (fun _ _ _ h1 h2 => h1.trans h2) hp, ncl_alone]
 {
 have e1 : W.s.M.L.map (·.2) = (W.s.M.L.map (·.1)).map fun u => (W.s.M.find u).getD 0 := by {
 rw [List.map_map]
 refine List.map_congr_left fun p hm => ?_
 show p.2 = (W.s.M.find p.1).getD 0
 rw [(Md.find_iff h.ok.md).2 (show (p.1, p.2) ∈ _ from hm)]; rfl
 }
 have e2 : ncl (Cx W.G fun _ => True) (W.s.M.L.map (·.2)) = ncl (Rl W.s.L allT) (idsL W.s.L) := by {
 rw [e1, ncl_map, ← ncl_perm (fun _ _ h => h.symm) (fun _ _ _ h1 h2 => h1.trans h2) h.ids_perm]
 refine ncl_congr fun a ha b hb => ?_
 obtain ⟨i, hi⟩ := Option.isSome_iff_exists.1 ((mem_ids_find h.ok.md).1 ha)
 obtain ⟨j, hj⟩ := Option.isSome_iff_exists.1 ((mem_ids_find h.ok.md).1 hb)
 rw [hi, hj]
 exact cxT_iff h hi hj
 }
 rw [e2]
 omega
 }
 {
 intro a ha b hc
 apply Classical.byContradiction
 intro hne
 have hn : a ∉ W.s.M.L.map (·.2) := of_decide_eq_true (List.mem_filter.1 ha).2
 obtain ⟨s, c, x, _, hs⟩ := hc.symm.first (Ne.symm hne)
 rcases hs with hs | hs
 {
 obtain ⟨e, he, _, e1, e2, _⟩ := (h.lk.g _ _ _ _).1 hs
 exact hn (List.mem_map.2 ⟨_, Md.find_mem e2, rfl⟩)
 }
 {
 obtain ⟨e, he, _, e1, e2, _⟩ := (h.lk.g _ _ _ _).1 hs
 exact hn (List.mem_map.2 ⟨_, Md.find_mem e1, rfl⟩)
 }
 }
 · exact hp.nodup_iff.1 List.nodup_range
end
noncomputable def connI (L : List Lv) (u v : Nat) : Bool := decide (inL L u ∧ inL L v ∧ Rl L allT u v)
noncomputable def codeI (L : List Lv) (u v : Nat) : Int := if inL L u ∧ inL L v then 0 else 13
noncomputable def sizeI (L : List Lv) (u : Nat) : Nat := if inL L u then ((idsL L).filter fun v => decide (Rl L allT u v)).length else 0
noncomputable def compI (L : List Lv) : Nat := ncl (Rl L allT) (idsL L)
section
variable (L : List Lv) (u v : Nat)
theorem connI_core : connI (L.map core) u v = connI L u v := by unfold connI; simp only [inL_core, rl_core]
theorem codeI_core : codeI (L.map core) u v = codeI L u v := by unfold codeI; simp only [inL_core]
theorem sizeI_core : sizeI (L.map core) u = sizeI L u := by unfold sizeI; simp only [inL_core, rl_core, idsL_core]
theorem compI_core : compI (L.map core) = compI L := by
 unfold compI; rw [idsL_core]
 exact ncl_congr fun a _ b _ => rl_core
end
end Go.Proofs.YtgmnemndjjmgkaaGreat

/- What a window shows: the plain state that the document speaks of. -/
namespace Go.Proofs.YtgmnemndjjmgkaaGreat
open Go.RowKit Classical
set_option maxRecDepth 10000
structure Ob where
  m : Int
  E : Nat
  V : Nat
  D : Int
  now : Int
  L : List Lv
  last : Nat
  gone : Nat
def Wm.ob (X : Wm) : Ob := ⟨X.m, X.E, X.V, X.D, X.now, X.s.L.map core, X.s.last, X.gone⟩
namespace Ob
def left (o : Ob) (to : Int) : List Lv := o.L.filter fun e => decide (to < e.x)
def tick (o : Ob) (to : Int) : Ob := { o with now := to, L := o.left to, gone := o.gone + (o.L.length - (o.left to).length) }
def put (o : Ob) (u v : Nat) (wt : Int) : Ob := { o with L := o.L ++ [⟨0, o.last + 1, u, v, wt, o.now, o.now + o.m⟩], last := o.last + 1 }
def idsUV (L : List Lv) (u v : Nat) : List Nat := insN v (insN u (idsL L))
def addC (o : Ob) (u v : Nat) (t : Int) : Nat :=
  if u = v then 9 else if t < o.now then 10 else if 9223372036854775807 < t + o.m ∨ 9223372036854775807 ≤ o.last then 7 else if o.E ≤ (o.left t).length then 12 else if o.V < (idsUV (o.left t) u v).length then 11 else 0
def add (o : Ob) (u v : Nat) (wt t : Int) : Ob := if o.addC u v t = 0 then (o.tick t).put u v wt else o
def tickS (o : Ob) (to : Int) : Ob := if chkT o.m o.now to = 0 then o.tick to else o
def new (m : Int) (E V : Nat) (D : Int) (g : Nat) : Ob := ⟨m, E, V, D, 0, [], g, g⟩
structure Ok (o : Ob) : Prop where
  x : ∀ e ∈ o.L, e.x = e.t + o.m ∧ 0 ≤ e.t ∧ e.t ≤ o.now ∧ o.now < e.x
  mono : o.L.Pairwise fun a b => a.t ≤ b.t
  num : ∀ i (h : i < o.L.length), (o.L[i]).seq = o.gone + i + 1
  last : o.last = o.gone + o.L.length
  max : o.last ≤ 9223372036854775807
  m1 : 1 ≤ o.m
  m2 : o.m ≤ 9223372036854775807
  n0 : 0 ≤ o.now
  n1 : o.now + o.m ≤ 9223372036854775807
  ne : ∀ e ∈ o.L, e.u ≠ e.v
  u64 : ∀ e ∈ o.L, e.u < 18446744073709551616 ∧ e.v < 18446744073709551616
  leE : o.L.length ≤ o.E
  leV : (idsL o.L).length ≤ o.V
  mE : o.E ≤ 16384
  mV : o.V ≤ 4096
  sl : ∀ e ∈ o.L, e.slot = 0
end Ob
section
variable {X : Wm}
theorem ob_len (X : Wm) : X.ob.L.length = X.s.L.length := List.length_map _
theorem Wm.Ok.lenE (h : X.Ok) : X.s.L.length ≤ X.E := by
 have h1 := Sm.len_used h.ok
 have h2 := h.ok.ar.hb
 have h3 := h.ok.sl
 have h4 := h.hE
 unfold Ar.used at h1
 omega
theorem Wm.Ok.lenV (h : X.Ok) : (idsL X.s.L).length ≤ X.V := by
 rw [← h.ids_len]
 have h1 := h.ok.md.cnt; have h2 := h.ok.md.ar.hb; have h3 := h.ok.ms; have h4 := h.hV
 have h6 : X.s.M.ar.slots = X.s.M.slots := rfl
 have h7 : X.s.M.ar.begun = X.s.M.given := rfl
 omega
theorem Wm.Ok.ob (h : X.Ok) : X.ob.Ok := by
 have hm : ∀ e ∈ X.ob.L, ∃ d ∈ X.s.L, core d = e := fun e he => List.mem_map.1 he
 refine ⟨fun e he => ?_, ?_, fun i hi => ?_, ?_, h.max, h.m1, h.m2, h.n0, h.n1, fun e he => ?_, fun e he => ?_, ?_, ?_, ?_, ?_, fun e he => ?_⟩
 {
 obtain ⟨d, hd, rfl⟩ := hm e he
 exact h.x d hd
 }
 · exact List.pairwise_map.2 h.mono
 {
 have hi' : i < X.s.L.length := by rw [← ob_len]; exact hi
 have e : X.ob.L[i]'hi = core (X.s.L[i]'hi') := List.getElem_map ..
 rw [e]
 exact h.num i hi'
 }
 · rw [ob_len]; exact h.last
 {
 obtain ⟨d, hd, rfl⟩ := hm e he
 exact h.ok.ne d hd
 }
 {
 obtain ⟨d, hd, rfl⟩ := hm e he
 exact h.ok.u64 d hd
 }
 · rw [ob_len]; exact h.lenE
 · rw [show X.ob.L = X.s.L.map core from rfl, idsL_core]; exact h.lenV
 · show X.E ≤ _; rw [← h.hE]; exact h.ok.leE
 · show X.V ≤ _; rw [← h.hV]; exact h.ok.leV
 {
 obtain ⟨d, hd, rfl⟩ := hm e he
 rfl
 }
theorem core_filter (L : List Lv) (to : Int) : (L.map core).filter (fun e => decide (to < e.x)) = (L.filter fun e => decide (to < e.x)).map core := by
 rw [List.filter_map]; rfl
theorem ob_new (m : Int) (E V : Nat) (D : Int) (g : Nat) : (Wm.new m E V D g).ob = Ob.new m E V D g := rfl
theorem ob_tick (h : X.Ok) {to : Int} {ds : List Nat} {Q' : Nat → Option Int} (hm : Mins to X.Q ds Q') : (X.tick to ds Q').ob = X.ob.tick to := by
 obtain ⟨k1, k2, k3, k4⟩ := hm.law h.lk h.ok
 have e1 : ((X.s.rems ds).L.map core) = X.ob.left to := by rw [k2]; exact (core_filter X.s.L to).symm
 have e2 : (X.ob.left to).length = (X.s.rems ds).L.length := by rw [← e1, List.length_map]
 have e3 : X.gone + ds.length = X.gone + (X.ob.L.length - (X.ob.left to).length) := by rw [e2, ob_len]; omega
 have e4 : (X.s.rems ds).last = X.s.last := (rems_keep X.s ds).2.2
 show Ob.mk _ _ _ _ _ ((X.s.rems ds).L.map core) (X.s.rems ds).last (X.gone + ds.length) = _
 rw [e1, e3, e4]
 rfl
theorem ob_put (u v : Nat) (wt : Int) (a b : Nat) : (X.put u v wt a b).ob = X.ob.put u v wt := by
 show Ob.mk _ _ _ _ _ ((X.s.L ++ [X.s.edge u v wt X.now (X.now + X.m)]).map core) (X.s.last + 1) _ = _
 rw [List.map_append]
 rfl
theorem idsUV_len (h : X.s.Ok) (u v : Nat) (hne : u ≠ v) (hi : ∀ x, (X.s.M.find x).isSome = true ↔ inL X.s.L x) : X.s.M.L.length + X.s.more u v = (Ob.idsUV (X.s.L.map core) u v).length := by
 have h1 : X.s.M.L.length + X.s.more u v = (withUV X.s.M u v).length := by rw [withUV_len]; rfl
 rw [h1]
 apply List.Perm.length_eq
 unfold Ob.idsUV
 rw [List.perm_ext_iff_of_nodup (withUV_nodup h.md hne) ((insN_lt (insN_lt (idsL_lt _))).imp fun h => Nat.ne_of_lt h)]
 intro x
 rw [withUV_mem h.md, insN_mem, insN_mem, idsL_mem, inL_core, hi]
 constructor
 {
 rintro (h | h | h)
 · exact .inr (.inr h)
 · exact .inr (.inl h)
 · exact .inl h
 }
 {
 rintro (h | h | h)
 · exact .inr (.inr h)
 · exact .inr (.inl h)
 · exact .inl h
 }
theorem chk_ob (h : X.Ok) (u v : Nat) (hne : u ≠ v) : X.s.chk u v = if X.E ≤ X.ob.L.length then 12 else if X.V < (Ob.idsUV X.ob.L u v).length then 11 else 0 := by
 unfold Sm.chk
 rw [if_neg hne, Sm.len_used h.ok, h.hE, h.hV, idsUV_len h.ok u v hne (find_inL h), ob_len]
 rfl
theorem addC_tick (h : X.Ok) {u v : Nat} {t : Int} (hne : u ≠ v) (hc : chkT X.m X.now t = 0) (hl : X.s.last < 9223372036854775807) {ds : List Nat} {Q' : Nat → Option Int} (hm : Mins t X.Q ds Q') : X.ob.addC u v t = (X.s.rems ds).chk u v := by
 obtain ⟨h1, h2⟩ := chkT_ok hc
 have hk := (Wm.tick_ok h h1 h2 hm).1
 have e := chk_ob hk u v hne
 rw [ob_tick h hm] at e
 show _ = (X.tick t ds Q').s.chk u v
 rw [e]
 unfold Ob.addC
 rw [if_neg hne, if_neg (show ¬ t < X.ob.now from by show ¬ t < X.now; omega), if_neg (show ¬ (9223372036854775807 < t + X.ob.m ∨ 9223372036854775807 ≤ X.ob.last) from by show ¬ (9223372036854775807 < t + X.m ∨ 9223372036854775807 ≤ X.s.last); omega)]
 rfl
end
end Go.Proofs.YtgmnemndjjmgkaaGreat

/- Things in memory that lie apart from each other, all made since the call began. -/
namespace Go.Proofs.YtgmnemndjjmgkaaGreat
open Go.RowKit
structure Th where
  P : World → List Nat → Prop
  lt : ∀ {w : World} {K : List Nat}, P w K → ∀ q ∈ K, q < w.heap.size
  fr : ∀ {w w' : World} {K S : List Nat}, P w K → Fr S w w' → (∀ q ∈ K, q ∉ S) → P w' K
def Hs (n : Nat) (w : World) : List Th → List Nat → Prop
  | [], K => K = []
  | t :: ts, K => ∃ K1 K2, t.P w K1 ∧ (∀ q ∈ K1, n ≤ q) ∧ Hs n w ts K2 ∧ (∀ q ∈ K1, q ∉ K2) ∧ K = K1 ++ K2
section
variable {n : Nat} {w w' : World} {ts : List Th} {K S : List Nat}
theorem Hs.lt : ∀ {ts : List Th} {K : List Nat}, Hs n w ts K → ∀ q ∈ K, n ≤ q ∧ q < w.heap.size
  | [], K, h => by rw [show K = [] from h]; simp
  | t :: ts, K, h => by
    obtain ⟨K1, K2, h1, h2, h3, _, rfl⟩ := h
    intro q hq
    rcases List.mem_append.1 hq with hq | hq
    · exact ⟨h2 q hq, t.lt h1 q hq⟩
    · exact Hs.lt h3 q hq
theorem Hs.fr (hf : Fr S w w') : ∀ {ts : List Th} {K : List Nat}, Hs n w ts K → (∀ q ∈ K, q ∉ S) → Hs n w' ts K
  | [], _, h, _ => h
  | t :: ts, K, h, hs => by
    obtain ⟨K1, K2, h1, h2, h3, h4, rfl⟩ := h
    exact ⟨K1, K2, t.fr h1 hf (fun q hq => hs q (List.mem_append.2 (.inl hq))), h2, Hs.fr hf h3 (fun q hq => hs q (List.mem_append.2 (.inr hq))), h4, rfl⟩
end
def Wd (W wr : World) (ts : List Th) : Prop := Fr [] W wr ∧ ∃ K, Hs W.heap.size wr ts K
def Stp (w w' : World) (K : List Nat) (t : Th) : Prop := ∃ K', t.P w' K' ∧ Fr K w w' ∧ ∀ q ∈ K', q ∈ K ∨ w.heap.size ≤ q
section
variable {W wr w' : World} {t t' a b c : Th} {ts : List Th} {K : List Nat}
theorem Wd.begin (W : World) : Wd W W [] := ⟨Fr.refl _ _, [], rfl⟩
theorem Wd.base (h : Fr [] W wr) : Wd W wr [] := ⟨h, [], rfl⟩
theorem Wd.frm (h : Wd W wr ts) : Fr [] W wr := h.1
theorem Wd.below (h : Wd W wr ts) : Below W.heap.size W wr := h.1.below (by simp)
theorem Wd.fr0 (h : Wd W wr ts) (hf : Fr [] wr w') : Wd W w' ts := by
 obtain ⟨h1, K, h2⟩ := h
 exact ⟨h1.trans' hf, K, h2.fr hf (by simp)⟩
theorem Wd.drop (h : Wd W wr (t :: ts)) : Wd W wr ts := by
 obtain ⟨h1, K, K1, K2, _, _, h2, _⟩ := h
 exact ⟨h1, K2, h2⟩
theorem Wd.get (h : Wd W wr (t :: ts)) : ∃ K, t.P wr K := by
 obtain ⟨_, K, K1, K2, h, _⟩ := h
 exact ⟨K1, h⟩
theorem Wd.open (h : Wd W wr (t :: ts)) : ∃ K, t.P wr K ∧ ∀ {w' : World} {t' : Th}, Stp wr w' K t' → Wd W w' (t' :: ts) := by
 obtain ⟨h1, K, K1, K2, h2, h3, h4, h5, rfl⟩ := h
 refine ⟨K1, h2, ?_⟩
 rintro w' t' ⟨K', k1, k2, k3⟩
 have hs := h1.size
 have hs2 := k2.size
 refine ⟨h1.trans k2 (fun q hq => .inr (h3 q hq)), K' ++ K2, K', K2, k1, fun q hq => ?_, h4.fr k2 (fun q hq hm => h5 q hm hq), fun q hq hm => ?_, rfl⟩
 {
 rcases k3 q hq with e | e
 · exact h3 q e
 · omega
 }
 {
 rcases k3 q hq with e | e
 · exact h5 q e hm
 · have := h4.lt q hm; omega
 }
theorem Wd.new (h : Wd W wr ts) (hf : Fr [] wr w') (hp : t.P w' K) (hk : ∀ q ∈ K, wr.heap.size ≤ q) : Wd W w' (t :: ts) := by
 obtain ⟨h1, K2, h2⟩ := h
 have hs := h1.size
 refine ⟨h1.trans' hf, K ++ K2, K, K2, hp, fun q hq => ?_, h2.fr hf (by simp), fun q hq hm => ?_, rfl⟩
 · have := hk q hq; omega
 {
 have := hk q hq
 have := h2.lt q hm
 omega
 }
theorem Wd.swap (h : Wd W wr (a :: b :: ts)) : Wd W wr (b :: a :: ts) := by
 obtain ⟨h1, K, K1, K2, h2, h3, ⟨K3, K4, h4, h5, h6, h7, rfl⟩, h8, rfl⟩ := h
 refine ⟨h1, K3 ++ (K1 ++ K4), K3, K1 ++ K4, h4, h5, ⟨K1, K4, h2, h3, h6, fun q hq hm => h8 q hq (List.mem_append.2 (.inr hm)), rfl⟩, fun q hq hm => ?_, rfl⟩
 rcases List.mem_append.1 hm with e | e
 · exact h8 q e (List.mem_append.2 (.inl hq))
 · exact h7 q hq e
theorem Wd.under (h : Wd W wr (t :: ts)) {us : List Th} (hu : ∀ K, Hs W.heap.size wr ts K → ∃ K', Hs W.heap.size wr us K' ∧ ∀ q ∈ K', q ∈ K) : Wd W wr (t :: us) := by
 obtain ⟨h1, K, K1, K2, h2, h3, h4, h5, rfl⟩ := h
 obtain ⟨K', k1, k2⟩ := hu K2 h4
 exact ⟨h1, K1 ++ K', K1, K', h2, h3, k1, fun q hq hm => h5 q hq (k2 q hm), rfl⟩
theorem Hs.swap {n : Nat} (h : Hs n wr (a :: b :: ts) K) : ∃ K', Hs n wr (b :: a :: ts) K' ∧ ∀ q ∈ K', q ∈ K := by
 obtain ⟨K1, K2, h2, h3, ⟨K3, K4, h4, h5, h6, h7, rfl⟩, h8, rfl⟩ := h
 refine ⟨K3 ++ (K1 ++ K4), ⟨K3, K1 ++ K4, h4, h5, ⟨K1, K4, h2, h3, h6, fun q hq hm => h8 q hq (List.mem_append.2 (.inr hm)), rfl⟩, fun q hq hm => ?_, rfl⟩, fun q hq => ?_⟩
 {
 rcases List.mem_append.1 hm with e | e
 · exact h8 q e (List.mem_append.2 (.inl hq))
 · exact h7 q hq e
 }
 {
 simp only [List.mem_append] at hq ⊢
 rcases hq with e | e | e
 · exact .inr (.inl e)
 · exact .inl e
 · exact .inr (.inr e)
 }
theorem Wd.third (h : Wd W wr (a :: b :: c :: ts)) : Wd W wr (c :: a :: b :: ts) := (h.under fun _ hk => Hs.swap hk).swap
end
end Go.Proofs.YtgmnemndjjmgkaaGreat

/- A window: Added, Version, Config. -/
namespace Go.Proofs.YtgmnemndjjmgkaaGreat
open Go.RowKit
set_option maxRecDepth 10000
set_option maxHeartbeats 800000
section
variable {w w' : World} {pw pc ps px pf : Nat} {P : Wp} {Ks lx Lf : List Nat} {cl : Nat → Nat}
theorem wadded_w (h : WinB w pw pc ps px pf P Ks lx Lf cl) : Calls Tryz.prog 23 #[wptr pw] w fun e w' => e = .returned (.tuple #[.int .u64 P.added, .int .u64 P.gone]) ∧ Fr [] w w' := by
 have HV := Lib.hid (wvalid_w h)
 have c8 := h.hd.cell 8
 have c9 := h.hd.cell 9
 simp only [List.getElem?_cons_zero, List.getElem?_cons_succ] at c8 c9
 clear h
 go_enter Tryz.func23, Tryz.ntmps23
 go_wp2_with fail
 refine HV.out.mono ?_
 rintro _ w ⟨rfl, rfl⟩
 go_wp2_with fail
 go_quiet (fail)
 go_wp2
 go_ret2
 exact ⟨rfl, (Fr.refl _ _).drewN _⟩
theorem wversion_w (h : WinB w pw pc ps px pf P Ks lx Lf cl) (hs : P.added + P.gone < 18446744073709551616) : Calls Tryz.prog 22 #[wptr pw] w fun e w' => e = .returned (.int .u64 (P.added + P.gone : Nat)) ∧ Fr [] w w' := by
 have HV := Lib.hid (wvalid_w h)
 have c8 := h.hd.cell 8
 have c9 := h.hd.cell 9
 simp only [List.getElem?_cons_zero, List.getElem?_cons_succ] at c8 c9
 have hw : IntKind.u64.wrap ((P.added : Int) + P.gone) = (P.added : Int) + P.gone := by simp [IntKind.wrap, IntKind.bits, IntKind.signed]; omega
 clear h
 go_enter Tryz.func22, Tryz.ntmps22
 go_wp2_with fail
 refine HV.out.mono ?_
 rintro _ w ⟨rfl, rfl⟩
 go_wp2_with fail
 go_quiet (fail)
 go_wp2
 go_ret
 exact ⟨by rw [Int.natCast_add]; rfl, (Fr.refl _ _).drewN _⟩
end
end Go.Proofs.YtgmnemndjjmgkaaGreat

/- lct: Copy. -/
namespace Go.Proofs.YtgmnemndjjmgkaaGreat
open Go.RowKit Classical
set_option maxRecDepth 10000
set_option maxHeartbeats 800000
def Tryz.laysClone_ren : Go.Shelf.Ren := ⟨fun | 41 => 153 | n => n, fun | 22 => 192 | 23 => 191 | 4 => 4 | n => n, fun | n => n⟩
theorem Tryz.laysClone : Go.Proofs.SlLaysE0.n41 Tryz.prog Tryz.laysClone_ren := {
  mixed := by kernel_rfl
  f41 := ⟨Tryz.f153.name, by decide, Tryz.func153.trans (congrArg some (by kernel_rfl))⟩
  t4 := Tryz.underlying4
  a4 := Tryz.isAgg4
  z4 := Tryz.sizeOf4
  v4 := Tryz.zeroValue4
  t22 := Tryz.underlying192
  a22 := Tryz.isAgg192
  z22 := Tryz.sizeOf192
  v22 := Tryz.zeroValue192 }
theorem fv_one (n : Nd) (f : Nat) : (fv n f).oneCell' = true := by
 match f with
 | 0 | 1 | 2 | 3 | 4 | 5 | 6 | 7 => rfl
 | _ + 8 => rfl
theorem clone_w {w : World} {g N cap : Nat} {σ : Tbl} (h : NodesAt w g N σ) (hN : N ≤ 65537) (h0 : 0 < N) :
    Calls Tryz.prog 153 #[.slice (some ⟨g, 0, none⟩) N cap] w fun e w' => ∃ g' cap', e = .returned (.slice (some ⟨g', 0, none⟩) N cap') ∧ N ≤ cap' ∧ NodesAt w' g' N σ ∧ w.heap.size ≤ g' ∧ Fr [] w w' := by
 obtain ⟨i0, hi, hz0, hz1, hz2⟩ := info_parts Tryz.info191
 obtain ⟨arr, ha, hs, hc⟩ := h
 have hl : (arr.toList.take (N * 9)).length = N * 9 := by simp; omega
 have hat : ∀ j u, (arr.toList.take (N * 9))[j]? = some u → j < N * 9 ∧ arr[j]? = some u := by {
 intro j u hj
 rw [List.getElem?_take] at hj
 split at hj
 · exact ⟨by assumption, by simpa using hj⟩
 · cases hj
 }
 refine (AnyE.slices_Clone Tryz.laysClone i0 ndv 9 72 hi hz0 hz1 hz2 (by rw [ndv_cells]; rfl) (by decide) Tryz.sizeOf191 g 0 N cap (arr.toList.take (N * 9)) w hl (by unfold maxLen; omega) (by omega) (fun j u hj => by
     have := (hat j u hj).2
     simp [World.cell?, ha, this]) (fun u hu => by
     obtain ⟨j, hj⟩ := List.mem_iff_getElem?.1 hu
     obtain ⟨h1, h2⟩ := hat j u hj
     have := hc (j / 9) (by omega) (j % 9) (Nat.mod_lt _ (by decide))
     rw [show j / 9 * 9 + j % 9 = j by omega, h2] at this
     cases this; exact fv_one _ _)).mono ?_
 rintro _ w' ⟨v, rfl, ⟨_, hv⟩, hn, hB⟩
 rcases hv with ⟨rfl, _⟩ | ⟨g', cap', cur, rfl, hg, hcur, hcap, _, hsz, htk⟩
 · exact absurd rfl hn
 {
 refine ⟨g', cap', rfl, hcap, ⟨cur, hcur, by omega, fun i hi f hf => ?_⟩, hg, Fr.of_below hB⟩
 rw [← hc i hi f hf]
 have h1 : (cur.toList.take (N * 9))[i * 9 + f]? = cur[i * 9 + f]? := by rw [List.getElem?_take, if_pos (by omega)]; simp
 have h2 : (arr.toList.take (N * 9))[i * 9 + f]? = arr[i * 9 + f]? := by rw [List.getElem?_take, if_pos (by omega)]; simp
 rw [← h1, ← h2, htk]
 }
theorem copy_w {w : World} {pf g n : Nat} {E : Nat → Nat → Prop} {key : Nat → Int} (h : LM w pf g n E key) :
    Calls Tryz.prog 107 #[.pointer (some ⟨pf, 0, none⟩)] w fun e w' => ∃ pf' g', e = .returned (.pointer (some ⟨pf', 0, none⟩)) ∧ LM w' pf' g' n E key ∧ Fr [] w w' ∧ w.heap.size ≤ pf' ∧ w.heap.size ≤ g' := by
 have H := Lib.hid h
 obtain ⟨cap, σ, F, par, d, rt, hL, hF, hE, hk⟩ := h
 have hN := hL.le
 have HR := Lib.hid (And.intro hF (And.intro hE hk)); clear hF hE hk
 have c1 := hL.hd.cell 1
 have c2 := hL.hd.cell 2
 simp only [List.getElem?_cons_zero, List.getElem?_cons_succ] at c1 c2
 have hpf := hL.hd.lt
 have HL := Lib.hid hL
 go_enter Tryz.func107, Tryz.ntmps107
 go_wp2_with fail
 refine (valid_w (hL.hd.cell 0)).mono ?_
 rintro _ w1 ⟨rfl, rfl⟩
 have HC := Lib.hid (clone_w (cap := cap) (hL.nodes.eqv (Eqv.drew w1)) hN (by omega))
 generalize hed : (n : Int) - nc n E = ed at *
 go_wp2
 go_region_held3 (fun w' => w'.cell? ⟨pf, 1, none⟩ = some (.slice (some ⟨g, 0, none⟩) (n + 1) cap) ∧ w'.cell? ⟨pf, 2, none⟩ = some (.int .i64 ed))
   (first
     | go_keep
     | (exact ⟨hF3.cell (by assumption) (by simp), hF3.cell (by assumption) (by simp)⟩))
   (first
     | (go_at_call 153; refine HC.out.mono ?_; rintro e w3 ⟨g', cap', rfl, hcap', hNd', hg', hF3⟩))
 go_wp2
 go_ret
 have hlt := hNd'.lt
 have hsz := hF3.size
 have hsz2 : w1.drew.heap.size = w1.heap.size := rfl
 refine ⟨w3.heap.size, g', rfl, ?_, ((Fr.refl [] w1).drew.trans' hF3).alloc _, by omega, by omega⟩
 show LG _ _ _ _ _ _ ((n : Int) - nc n E)
 rw [hed]
 exact ⟨cap', σ, F, par, d, rt, ⟨Blk.new w3 [_, _, _] 194, hNd'.same (by rw [heap_alloc_old w3 _ hlt]), by omega, hN, hcap'⟩, HR.out.1, HR.out.2.1, HR.out.2.2⟩
end Go.Proofs.YtgmnemndjjmgkaaGreat

/- forest: Copy. -/
namespace Go.Proofs.YtgmnemndjjmgkaaGreat
open Go.RowKit Classical
set_option maxRecDepth 10000
set_option maxHeartbeats 1600000
def Tryz.laysCloneM_ren : Go.Shelf.Ren := ⟨fun | 5 => 108 | 7 => 149 | n => n, fun | 23 => 123 | 25 => 3 | 3 => 128 | 4 => 4 | 20 => 20 | n => n, fun | n => n⟩
theorem Tryz.laysCloneM : Go.Proofs.SlLaysW.n5 Tryz.prog Tryz.laysCloneM_ren := {
  mixed := by kernel_rfl
  f5 := ⟨Tryz.f108.name, by decide, Tryz.func108.trans (congrArg some (by kernel_rfl))⟩
  f7 := Tryz.func149.trans (congrArg some (by kernel_rfl))
  t4 := Tryz.underlying4
  a4 := Tryz.isAgg4
  z4 := Tryz.sizeOf4
  v4 := Tryz.zeroValue4
  t20 := Tryz.underlying20
  a20 := Tryz.isAgg20
  z20 := Tryz.sizeOf20
  v20 := Tryz.zeroValue20
  t23 := Tryz.underlying123
  a23 := Tryz.isAgg123
  z23 := Tryz.sizeOf123
  v23 := Tryz.zeroValue123 }
theorem imap_clone {w : World} {mb n : Nat} {m : Int → Option Value} (h : IMap Tryz.prog 3 .i64 okA w mb m n) :
    Calls Tryz.prog 108 #[.map (some mb)] w fun e w' => e = .returned (.map (some w.heap.size)) ∧ IMap Tryz.prog 3 .i64 okA w' w.heap.size m n ∧ Fr [] w w' := by
 obtain ⟨D, h1, h2, h3, h4⟩ := h
 refine (AnyW.maps_Clone_owns Tryz.laysCloneM 3 (tokR okA) mb n D w h1).mono ?_
 rintro _ w' ⟨rfl, k1, _, hB⟩
 exact ⟨rfl, ⟨D, k1, h2, h3, h4⟩, Fr.of_below hB⟩
theorem fcopy_w {w : World} {pf S V : Nat} {G : EMap} {L : List Nat} (h : FAt w pf S V G L) : Calls Tryz.prog 54 #[fptr pf] w fun e w' => ∃ pf', e = .returned (fptr pf') ∧ ∃ L', FAt w' pf' S V G L' ∧ Fr [] w w' ∧ ∀ q ∈ L', w.heap.size ≤ q := by
 obtain ⟨pl, g, ph, mb, l, key, n, h1, hH, hD, rfl⟩ := h
 have hlt := h1.lt
 have hS := h1.leS
 have hV := h1.leV
 have c0 := h1.hd.cell 0
 have c1 := h1.hd.cell 1
 have c2 := h1.hd.cell 2
 have c3 := h1.hd.cell 3
 have c4 := h1.hd.cell 4
 have c5 := h1.hd.cell 5
 simp only [List.getElem?_cons_zero, List.getElem?_cons_succ] at c0 c1 c2 c3 c4 c5
 have HV := Lib.hid (fvalid_w h1)
 have H := Lib.hid h1; have HH := Lib.hid hH; have HD := Lib.hid hD
 have HC1 := Lib.hid (fun (w' : World) (hf : Fr [] w w') => copy_w (LG.fr h1.lct hf (by simp) (by simp)))
 have HC2 := Lib.hid (fun (w' : World) (hf : Fr [] w w') => hcopy_w (hH.fr hf (by simp)))
 have HC3 := Lib.hid (fun (w' : World) (hf : Fr [] w w') => imap_clone (h1.edges.same (hf.keep mb h1.edges.lt (by simp))))
 clear h1 hH hD
 obtain ⟨tr, htr⟩ : ∃ tr, tr = cntT S (isTree G) := ⟨_, rfl⟩
 rw [← htr] at c5
 have HTR := Lib.hid htr; clear htr
 go_enter Tryz.func54, Tryz.ntmps54
 go_wp2_with fail
 refine HV.out.mono ?_
 rintro _ w ⟨rfl, rfl⟩
 go_wp2_with fail
 have hFa : Fr [] w (w.alloc (.cells #[.int .i64 V, .int .i64 S, fptr pl, fptr ph, .map (some mb), .int .i64 tr] 125)) := (Fr.refl [] w).alloc _
 have hB0 : Blk (w.alloc (.cells #[.int .i64 V, .int .i64 S, fptr pl, fptr ph, .map (some mb), .int .i64 tr] 125)) w.heap.size 125 [.int .i64 V, .int .i64 S, fptr pl, fptr ph, .map (some mb), .int .i64 tr] := Blk.new w _ _
 refine (HC1.out _ hFa).mono ?_
 rintro _ w2 ⟨pl', g', rfl, hL2, hF2, hp2, hg2⟩
 have hb2 := hF2.blk hB0 (by simp)
 have d2 := hb2.cell 2
 have z2 := hb2.frozen 2
 simp only [List.getElem?_cons_zero, List.getElem?_cons_succ] at d2
 have hne : pf ≠ w.heap.size := by have := H.out.hd.lt; omega
 have e3 := (hFa.trans' hF2).cell c3 (by simp)
 have e4 := (hFa.trans' hF2).cell c4 (by simp)
 have HF2 := Lib.hid (And.intro (hFa.trans' hF2) (And.intro hb2 (And.intro hL2 (And.intro hp2 hg2))))
 clear hFa hB0 hF2 hb2 hL2 hp2 hg2
 go_wp2_with fail
 have hF2s : Fr [] w (w2.setCell ⟨w.heap.size, 2, none⟩ (fptr pl')) := HF2.out.1.setCell _ _ (.inr (Nat.le_refl _))
 refine (HC2.out _ hF2s).mono ?_
 rintro _ w3 ⟨ph', rfl, l', hH3, hF3, hl3⟩
 have hb3 := hF3.blk (HF2.out.2.1.set 2 (fptr pl')) (by simp)
 have d3 := hb3.cell 3
 have z3 := hb3.frozen 3
 simp only [List.set_cons_succ, List.set_cons_zero, List.getElem?_cons_zero, List.getElem?_cons_succ] at d3
 have f4 := (hF2s.trans' hF3).cell c4 (by simp)
 have HF3 := Lib.hid (And.intro (hF2s.trans' hF3) (And.intro hb3 (And.intro hH3 (And.intro hF3 hl3))))
 clear hF2s hF3 hb3 hH3 hl3 d2 z2 e3 e4
 go_wp2_with fail
 have hF3s : Fr [] w (w3.setCell ⟨w.heap.size, 3, none⟩ (hptr ph')) := HF3.out.1.setCell _ _ (.inr (Nat.le_refl _))
 refine (HC3.out _ hF3s).mono ?_
 rintro _ w4 ⟨rfl, hI4, hF4⟩
 have hb4 := hF4.blk (HF3.out.2.1.set 3 (hptr ph')) (by simp)
 have d4 := hb4.cell 4
 have z4 := hb4.frozen 4
 simp only [List.set_cons_succ, List.set_cons_zero, List.getElem?_cons_zero, List.getElem?_cons_succ] at d4
 rw [World.size_setCell] at hI4 ⊢
 have HF4 := Lib.hid (And.intro (hF3s.trans' hF4) (And.intro hb4 (And.intro hI4 hF4)))
 clear hF3s hF4 hb4 hI4
 go_wp2_with fail
 go_ret
 have G2 : Fr [w.heap.size] w2 (w4.setCell ⟨w.heap.size, 4, none⟩ (.map (some w3.heap.size))) := ((((Fr.refl [w.heap.size] w2).setCell _ _ (.inl (by simp))).trans' (HF3.out.2.2.2.1.mono (by simp))).setCell _ _ (.inl (by simp))).trans' (HF4.out.2.2.2.mono (by simp)) |>.setCell _ _ (.inl (by simp))
 have G3 : Fr [w.heap.size] w3 (w4.setCell ⟨w.heap.size, 4, none⟩ (.map (some w3.heap.size))) := ((((Fr.refl [w.heap.size] w3)).setCell _ _ (.inl (by simp))).trans' (HF4.out.2.2.2.mono (by simp))).setCell _ _ (.inl (by simp))
 have G4 : Fr [w.heap.size] w4 (w4.setCell ⟨w.heap.size, 4, none⟩ (.map (some w3.heap.size))) := (Fr.refl [w.heap.size] w4).setCell _ _ (.inl (by simp))
 have k1 := HF2.out.2.2.2
 simp only [World.size_alloc] at k1
 have k2 := HF2.out.1.size
 have k3 := HF3.out.2.2.2.1.size
 have k4 := HF3.out.2.2.2.2
 rw [World.size_setCell] at k3 k4
 have k5 := LG.lts HF2.out.2.2.1
 have k6 := HF2.out.2.1.lt
 have hlw := HF3.out.2.2.1.lt
 refine ⟨w.heap.size, rfl, _, ⟨pl', g', ph', w3.heap.size, l', key, n, ⟨?_, LG.fr HF2.out.2.2.1 G2 (by simp; omega) (by simp; omega), HF4.out.2.2.1.same (G4.keep _ HF4.out.2.2.1.lt (by simp; omega)), H.out.gw, H.out.keys, H.out.cn, hS, hV, ?_, ?_, ?_, ?_, ?_⟩, HF3.out.2.2.1.fr G3 (fun b hb => ?_), fun b hb => ?_, rfl⟩, HF4.out.1.setCell _ _ (.inr (Nat.le_refl _)), fun q hq => ?_⟩
 {
 have := HF4.out.2.1.set 4 (.map (some w3.heap.size))
 rw [HTR.out] at this
 exact this
 }
 · omega
 · omega
 · omega
 · omega
 · omega
 · have := k4 b hb; simp; omega
 · have e1 := k4 b hb; have e2 := hlw b hb; omega
 {
 simp only [List.mem_cons] at hq
 rcases hq with rfl | rfl | rfl | rfl | hq
 · omega
 · omega
 · omega
 · omega
 · have := k4 q hq; omega
 }
end Go.Proofs.YtgmnemndjjmgkaaGreat

/- A window: Config, Size, Copy. -/
namespace Go.Proofs.YtgmnemndjjmgkaaGreat
open Go.RowKit
set_option maxRecDepth 10000
set_option maxHeartbeats 1600000
section
variable {w w' : World} {pw pc ps px pf : Nat} {P : Wp} {Ks lx Lf : List Nat} {cl : Nat → Nat}
noncomputable def wsizeV (P : Wp) (u : Nat) : Int := if endsC P.s u u = 0 then sizeG P.V P.G (endsI P.s u u) else 0
theorem wsize_w (h : WinB w pw pc ps px pf P Ks lx Lf cl) (u : Nat) (hu : u < 18446744073709551616) :
    Calls Tryz.prog 26 #[wptr pw, .int .u64 u] w fun e w' => e = .returned (.tuple #[.int .i64 (wsizeV P u), .int .i64 (endsC P.s u u)]) ∧ WMv w w' pw pc ps px pf P Ks lx Lf := by
 have HE := Lib.hid (wends_w h u u hu hu)
 have HB := Lib.hid h
 have HC := Lib.hid (fun (w' : World) (hf : Fr [] w w') => fa_size (h.fo.fr hf (by simp)) (endsI P.s u u))
 have c7 := h.hd.cell 7
 simp only [List.getElem?_cons_zero, List.getElem?_cons_succ] at c7
 clear h
 unfold wsizeV
 by_cases hc : endsC P.s u u = 0
 {
 rw [if_pos hc, hc]
 rw [hc] at HE
 generalize sizeG P.V P.G (endsI P.s u u) = tt at *
 generalize endsI P.s u u = a at *
 clear hc
 go_enter Tryz.func26, Tryz.ntmps26
 go_wp2_with fail
 refine HE.out.mono ?_
 rintro _ w1 ⟨rfl, hF1⟩
 have c7 := hF1.cell c7 (by simp)
 have HC1 := Lib.hid (HC.out w1 hF1)
 have HF1 := Lib.hid hF1; clear hF1 HC HE
 go_wp2_with fail
 refine HC1.out.mono ?_
 rintro _ w2 ⟨rfl, hM⟩
 have HM := Lib.hid (HB.out.mv HF1.out hM); clear hM
 go_wp2
 go_ret2
 exact ⟨rfl, HM.out⟩
 }
 {
 rw [if_neg hc]
 generalize endsC P.s u u = cc at *
 generalize endsI P.s u u = a at *
 have d1 : (cc != 0) = true := by simp [hc]
 clear hc HC
 go_enter Tryz.func26, Tryz.ntmps26
 go_wp2_with fail
 refine HE.out.mono ?_
 rintro _ w1 ⟨rfl, hF1⟩
 have HF1 := Lib.hid hF1; clear hF1 HE
 go_wp2
 go_ret2
 exact ⟨rfl, HB.out.mv0 HF1.out⟩
 }
end
end Go.Proofs.YtgmnemndjjmgkaaGreat

namespace Go.Proofs.YtgmnemndjjmgkaaGreat
open Go.RowKit
set_option maxRecDepth 10000
set_option maxHeartbeats 1600000
structure CpS (w wr : World) (b : Nat) (l : List Value) : Prop where
  hd : Blk wr b 83 l
  fr : Fr [] w wr
  lb : w.heap.size = b
section
variable {w wr w' : World} {b : Nat} {l : List Value}
theorem CpS.go (h : CpS w wr b l) (hf : Fr [] wr w') : CpS w w' b l := ⟨hf.blk h.hd (by simp), h.fr.trans' hf, h.lb⟩
theorem CpS.put (h : CpS w wr b l) (i : Nat) (v : Value) : CpS w (wr.setCell ⟨b, i, none⟩ v) b (l.set i v) := ⟨h.hd.set i v, h.fr.setCell _ _ (.inr (Nat.le_of_eq h.lb)), h.lb⟩
theorem CpS.one (_h : CpS w wr b l) (i : Nat) (v : Value) : Fr [b] wr (wr.setCell ⟨b, i, none⟩ v) := (Fr.refl _ _).setCell _ _ (.inl (by simp))
end
section
variable {w w' : World} {pw pc ps px pf : Nat} {P : Wp} {Ks lx Lf : List Nat} {cl : Nat → Nat}
theorem wcopy_w (h : WinB w pw pc ps px pf P Ks lx Lf cl) : Calls Tryz.prog 20 #[wptr pw] w fun e w' => ∃ b, e = .returned (wptr b) ∧ ∃ pc' ps' px' pf' Ks' lx' Lf' cl', WinB w' b pc' ps' px' pf' P Ks' lx' Lf' cl' ∧ Fr [] w w' ∧ ∀ q ∈ winK b pc' Ks' lx' Lf', w.heap.size ≤ q := by
 have HV := Lib.hid (wvalid_w h)
 have HC := Lib.hid (fun (w' : World) (hf : Fr [] w w') => ccopy_w (h.clk.fr hf (by simp)))
 have HS := Lib.hid (fun (w' : World) (hf : Fr [] w w') => st_copy (h.st.fr0 hf))
 have HX := Lib.hid (fun (w' : World) (hf : Fr [] w w') => xcopy_w (h.sch.fr hf (by simp)))
 have HO := Lib.hid (fun (w' : World) (hf : Fr [] w w') => fcopy_w (h.fo.fr hf (by simp)))
 have c0 := h.hd.cell 0; have c1 := h.hd.cell 1; have c2 := h.hd.cell 2; have c3 := h.hd.cell 3; have c4 := h.hd.cell 4; have c5 := h.hd.cell 5; have c6 := h.hd.cell 6; have c7 := h.hd.cell 7; have c8 := h.hd.cell 8; have c9 := h.hd.cell 9
 simp only [List.getElem?_cons_zero, List.getElem?_cons_succ] at c0 c1 c2 c3 c4 c5 c6 c7 c8 c9
 have HK := Lib.hid (fun (w' : World) (hf : Fr [] w w') => And.intro (hf.cell c4 (by simp)) (And.intro (hf.cell c5 (by simp)) (And.intro (hf.cell c6 (by simp)) (hf.cell c7 (by simp)))))
 have hn : CpS w (w.alloc (.cells #[.int .i64 P.m, .int .i64 P.E, .int .i64 P.V, .int .i64 P.D, cptr pc, sptr ps, hptr px, fptr pf, .int .u64 P.added, .int .u64 P.gone] 83)) w.heap.size [.int .i64 P.m, .int .i64 P.E, .int .i64 P.V, .int .i64 P.D, cptr pc, sptr ps, hptr px, fptr pf, .int .u64 P.added, .int .u64 P.gone] :=
   ⟨Blk.new w _ _, (Fr.refl _ _).alloc _, rfl⟩
 have HN := Lib.hid hn
 clear h hn
 go_enter Tryz.func20, Tryz.ntmps20
 go_wp2_with fail
 refine HV.out.mono ?_
 rintro _ w ⟨rfl, rfl⟩
 have d4 := (HK.out _ HN.out.fr).1
 go_wp2_with fail
 clear c0 c1 c2 c3 c4 c5 c6 c7 c8 c9 d4 HV
 generalize hW0 : w.alloc (.cells #[.int .i64 P.m, .int .i64 P.E, .int .i64 P.V, .int .i64 P.D, cptr pc, sptr ps, hptr px, fptr pf, .int .u64 P.added, .int .u64 P.gone] 83) = W0 at *
 clear hW0
 generalize hb : w.heap.size = b at *
 have Hb := Lib.hid hb; clear hb
 refine (HC.out W0 HN.out.fr).mono ?_
 rintro _ W1 ⟨pc', rfl, hc, hF1, hpc⟩
 have hN1 := HN.out.go hF1
 have hp1 := hN1.put 4 (cptr pc')
 have b4 := hN1.hd.cell 4; have z4 := hN1.hd.frozen 4
 have k5 := (HK.out _ hp1.fr).2.1
 simp only [List.getElem?_cons_zero, List.getElem?_cons_succ, List.set_cons_succ, List.set_cons_zero] at b4 hp1
 have H1 := Lib.hid (And.intro hc (And.intro hF1 (And.intro hpc (And.intro hp1 (hN1.one 4 (cptr pc'))))))
 clear hc hF1 hpc hN1 hp1 HC
 go_wp2_with fail
 clear b4 z4 k5
 generalize W1.setCell ⟨b, 4, none⟩ (cptr pc') = V1 at *
 refine (HS.out V1 H1.out.2.2.2.1.fr).mono ?_
 rintro _ W2 ⟨ps', rfl, Ks', hc, hF2, hk2⟩
 have hN2 := H1.out.2.2.2.1.go hF2
 have hp2 := hN2.put 5 (sptr ps')
 have b4 := hN2.hd.cell 5; have z4 := hN2.hd.frozen 5
 have k6 := (HK.out _ hp2.fr).2.2.1
 simp only [List.getElem?_cons_zero, List.getElem?_cons_succ, List.set_cons_succ, List.set_cons_zero] at b4 hp2
 have H2 := Lib.hid (And.intro hc (And.intro hF2 (And.intro hk2 (And.intro hp2 (hN2.one 5 (sptr ps'))))))
 clear hc hF2 hk2 hN2 hp2 HS
 go_wp2_with fail
 clear b4 z4 k6
 generalize W2.setCell ⟨b, 5, none⟩ (sptr ps') = V2 at *
 refine (HX.out V2 H2.out.2.2.2.1.fr).mono ?_
 rintro _ W3 ⟨px', rfl, lx', hc, hF3, hk3⟩
 have hN3 := H2.out.2.2.2.1.go hF3
 have hp3 := hN3.put 6 (hptr px')
 have b4 := hN3.hd.cell 6; have z4 := hN3.hd.frozen 6
 have k7 := (HK.out _ hp3.fr).2.2.2
 simp only [List.getElem?_cons_zero, List.getElem?_cons_succ, List.set_cons_succ, List.set_cons_zero] at b4 hp3
 have H3 := Lib.hid (And.intro hc (And.intro hF3 (And.intro hk3 (And.intro hp3 (hN3.one 6 (hptr px'))))))
 clear hc hF3 hk3 hN3 hp3 HX
 go_wp2_with fail
 clear b4 z4 k7
 generalize W3.setCell ⟨b, 6, none⟩ (hptr px') = V3 at *
 refine (HO.out V3 H3.out.2.2.2.1.fr).mono ?_
 rintro _ W4 ⟨pf', rfl, Lf', hc, hF4, hk4⟩
 have hN4 := H3.out.2.2.2.1.go hF4
 have hp4 := hN4.put 7 (fptr pf')
 have b4 := hN4.hd.cell 7; have z4 := hN4.hd.frozen 7
 simp only [List.getElem?_cons_zero, List.getElem?_cons_succ, List.set_cons_succ, List.set_cons_zero] at b4 hp4
 have H4 := Lib.hid (And.intro hc (And.intro hF4 (And.intro hk4 (And.intro hp4 (hN4.one 7 (fptr pf'))))))
 clear hc hF4 hk4 hN4 hp4 HO
 go_wp2_with fail
 clear b4 z4
 generalize W4.setCell ⟨b, 7, none⟩ (fptr pf') = V4 at *
 go_ret
 obtain ⟨hc1, hF1, hpc, hn1, hG1⟩ := H1.out
 obtain ⟨hc2, hF2, hk2, hn2, hG2⟩ := H2.out
 obtain ⟨hc3, hF3, hk3, hn3, hG3⟩ := H3.out
 obtain ⟨hc4, hF4, hk4, hn4, hG4⟩ := H4.out
 have hb := Hb.out
 have s1 := hF1.size; have s2 := hF2.size; have s3 := hF3.size; have s4 := hF4.size
 have t1 := hG1.size; have t2 := hG2.size; have t3 := hG3.size; have t4 := hG4.size
 have e0 := HN.out.hd.lt
 have e1 := hc1.hd.lt
 have a1 : ∀ q, b < q → q ∉ [b] := fun q hq hm => by
   simp only [List.mem_cons, List.not_mem_nil, or_false] at hm
   omega
 have k2 : ∀ q ∈ Ks', W1.heap.size ≤ q := fun q hq => Nat.le_trans t1 (hk2 q hq)
 have k3 : ∀ q ∈ lx', W2.heap.size ≤ q := fun q hq => Nat.le_trans t2 (hk3 q hq)
 have k4 : ∀ q ∈ Lf', W3.heap.size ≤ q := fun q hq => Nat.le_trans t3 (hk4 q hq)
 refine ⟨b, rfl, pc', ps', px', pf', Ks', lx', Lf', fun x => if x = b then 0 else if x = pc' then 1 else if x < W2.heap.size then 2 else if x < W3.heap.size then 3 else 4, ⟨hn4.hd, ?_, ?_, ?_, ?_, by simp, ?_, ?_, ?_, ?_⟩, hn4.fr, ?_⟩
 · exact ((((((hc1.fr hG1 (a1 _ (by omega))).fr0 hF2).fr hG2 (a1 _ (by omega))).fr0 hF3).fr hG3 (a1 _ (by omega))).fr0 hF4).fr hG4 (a1 _ (by omega))
 · exact ((((hc2.fr hG2 (fun q hq => a1 q (by have := k2 q hq; omega))).fr0 hF3).fr hG3 (fun q hq => a1 q (by have := k2 q hq; omega))).fr0 hF4).fr hG4 (fun q hq => a1 q (by have := k2 q hq; omega))
 · exact ((hc3.fr hG3 (fun q hq => a1 q (by have := k3 q hq; omega))).fr0 hF4).fr hG4 (fun q hq => a1 q (by have := k3 q hq; omega))
 · exact hc4.fr hG4 (fun q hq => a1 q (by have := k4 q hq; omega))
 · rw [if_neg (by omega), if_pos rfl]
 {
 intro q hq
 have := k2 q hq; have := hc2.lt q hq
 rw [if_neg (by omega), if_neg (by omega), if_pos (by omega)]
 }
 {
 intro q hq
 have := k3 q hq; have := hc3.lt q hq
 rw [if_neg (by omega), if_neg (by omega), if_neg (by omega), if_pos (by omega)]
 }
 {
 intro q hq
 have := k4 q hq
 rw [if_neg (by omega), if_neg (by omega), if_neg (by omega), if_neg (by omega)]
 }
 {
 intro q hq
 simp only [winK, List.mem_cons, List.mem_append] at hq
 rcases hq with rfl | rfl | hq | hq | hq
 · omega
 · omega
 · have := k2 q hq; omega
 · have := k3 q hq; omega
 · have := k4 q hq; omega
 }
end
end Go.Proofs.YtgmnemndjjmgkaaGreat
