/- The plain law of the binary heap: sifting up and down. -/
import Derived.Test.YtgmnemndjjmgkaaGreatB14
import Derived.Test.YtgmnemndjjmgkaaGreatB15
import Derived.Test.YtgmnemndjjmgkaaGreatB10
import Derived.Test.YtgmnemndjjmgkaaGreatB1
set_option linter.unusedSimpArgs false
set_option linter.unusedVariables false
/- forest: the forest of the tree edges, whose vertices are the slots and then the vertices. -/
namespace Go.Proofs.YtgmnemndjjmgkaaGreat
open Classical
def TE (S : Nat) (G : EMap) (T : Nat → Prop) (v u : Nat) : Prop :=
  ∃ s a b x, G s = some (a, b, x) ∧ T s ∧ ((v = s ∧ (u = S + a ∨ u = S + b)) ∨ (u = s ∧ (v = S + a ∨ v = S + b)))
section
variable {S : Nat} {G : EMap} {T W : Nat → Prop} {a b : Nat} {p : List Nat}
theorem te_symm {v u : Nat} (h : TE S G T v u) : TE S G T u v := by
 obtain ⟨s, a, b, x, h1, h2, h3⟩ := h
 exact ⟨s, a, b, x, h1, h2, h3.symm⟩
theorem te_mono {T' : Nat → Prop} (ht : ∀ s, T s → T' s) {v u : Nat} (h : TE S G T v u) : TE S G T' v u := by
 obtain ⟨s, a, b, x, h1, h2, h3⟩ := h
 exact ⟨s, a, b, x, h1, ht s h2, h3⟩
theorem te_reach (hS : ∀ s e, G s = some e → s < S) : ∀ {l : List Nat} {v : Nat}, Wk (TE S G T) v l → (∀ y ∈ v :: l, y < S → W y) →
    ((S ≤ v → Cx G (fun t => T t ∧ W t) a (v - S)) ∧ (v < S → ∃ c d x, G v = some (c, d, x) ∧ Cx G (fun t => T t ∧ W t) a c ∧ Cx G (fun t => T t ∧ W t) a d)) →
    ∀ y ∈ v :: l, (S ≤ y → Cx G (fun t => T t ∧ W t) a (y - S)) ∧ (y < S → ∃ c d x, G y = some (c, d, x) ∧ Cx G (fun t => T t ∧ W t) a c ∧ Cx G (fun t => T t ∧ W t) a d)
  | [], v, _, _, hv, y, hy => by simp at hy; subst hy; exact hv
  | z :: l, v, ⟨h1, h2⟩, hW, hv, y, hy => by
    rcases List.mem_cons.1 hy with rfl | hy
    · exact hv
    refine te_reach hS h2 (fun y hy => hW y (by simp at hy ⊢; exact .inr hy)) ?_ y hy
    obtain ⟨s, c, d, x, hg, ht, h3⟩ := h1
    have hs := hS s _ hg
    rcases h3 with ⟨rfl, h3⟩ | ⟨rfl, h3⟩
    · obtain ⟨c', d', x', hg', h4, h5⟩ := hv.2 hs
      rw [hg] at hg'; simp only [Option.some.injEq, Prod.mk.injEq] at hg'
      obtain ⟨rfl, rfl, rfl⟩ := hg'
      rcases h3 with rfl | rfl
      · exact ⟨fun _ => by rw [Nat.add_sub_cancel_left]; exact h4, fun e => by omega⟩
      · exact ⟨fun _ => by rw [Nat.add_sub_cancel_left]; exact h5, fun e => by omega⟩
    · have hw := hW z (by simp) hs
      have ed : Cx G (fun t => T t ∧ W t) c d := Cx.edge (s := z) ⟨ht, hw⟩ hg
      refine ⟨fun e => by omega, fun _ => ⟨c, d, x, hg, ?_⟩⟩
      rcases h3 with rfl | rfl
      · have h4 := hv.1 (by omega)
        rw [Nat.add_sub_cancel_left] at h4
        exact ⟨h4, h4.trans ed⟩
      · have h4 := hv.1 (by omega)
        rw [Nat.add_sub_cancel_left] at h4
        exact ⟨h4.trans ed.symm, h4⟩
theorem te_path (hS : ∀ s e, G s = some e → s < S) (hp : IsPath (TE S G T) (S + a) (S + b) p) (hW : ∀ y ∈ p, y < S → W y) : Cx G (fun t => T t ∧ W t) a b := by
 obtain ⟨l, rfl, h2, _, h4⟩ := hp
 have hb : S + b ∈ (S + a) :: l := List.mem_of_getLast? h4
 have := (te_reach hS h2 hW ⟨fun _ => by rw [Nat.add_sub_cancel_left]; exact .refl a, fun e => by omega⟩ _ hb).1 (by omega)
 rw [Nat.add_sub_cancel_left] at this
 exact this
theorem te_slots (_hS : ∀ s e, G s = some e → s < S) (hp : IsPath (TE S G T) (S + a) (S + b) p) {m : Nat} (hm : m ∈ p) (hms : m < S) : ∃ c d x, G m = some (c, d, x) ∧ T m := by
 obtain ⟨l, rfl, h2, _, h4⟩ := hp
 have key : ∀ {l : List Nat} {v : Nat}, Wk (TE S G T) v l → m ∈ l → ∃ c d x, G m = some (c, d, x) ∧ T m := by {
 intro l
 induction l with
 | nil => intro v _ h; simp at h
 | cons z l ih => {
 intro v ⟨h1, h2⟩ hm
 rcases List.mem_cons.1 hm with rfl | hm
 {
 obtain ⟨s, c, d, x, hg, ht, h3⟩ := h1
 rcases h3 with ⟨_, h3⟩ | ⟨rfl, _⟩
 · omega
 · exact ⟨c, d, x, hg, ht⟩
 }
 · exact ih h2 hm
 }
 }
 rcases List.mem_cons.1 hm with rfl | hm
 · omega
 · exact key h2 hm
theorem te_has (hp : IsPath (TE S G T) (S + a) (S + b) p) (hS : ∀ s e, G s = some e → s < S) (hab : a ≠ b) : ∃ s, s ∈ p ∧ s < S := by
 obtain ⟨l, rfl, h2, _, h4⟩ := hp
 cases l with
 | nil => simp at h4; exact absurd h4 hab
 | cons z l => {
 refine ⟨z, by simp, ?_⟩
 obtain ⟨s, c, d, x, hg, _, h3⟩ := h2.1
 have := hS s _ hg
 rcases h3 with ⟨h3, _⟩ | ⟨rfl, _⟩
 · omega
 · exact this
 }
theorem te_conn (hf : Frs (TE S G T)) (h : Cx G T a b) : Conn (TE S G T) (S + a) (S + b) := by
 induction h with
 | refl => exact Conn.refl _ _
 | @step c d s x _ h1 h2 ih => {
 refine hf.ctrans ih ?_
 rcases h2 with h2 | h2
 · exact hf.ctrans (conn_of_edge hf ⟨s, c, d, x, h2, h1, .inr ⟨rfl, .inl rfl⟩⟩) (conn_of_edge hf ⟨s, c, d, x, h2, h1, .inl ⟨rfl, .inr rfl⟩⟩)
 · exact hf.ctrans (conn_of_edge hf ⟨s, d, c, x, h2, h1, .inr ⟨rfl, .inr rfl⟩⟩) (conn_of_edge hf ⟨s, d, c, x, h2, h1, .inl ⟨rfl, .inl rfl⟩⟩)
 }
theorem te_iff (hS : ∀ s e, G s = some e → s < S) (hf : Frs (TE S G T)) : Conn (TE S G T) (S + a) (S + b) ↔ Cx G T a b :=
  ⟨fun ⟨_, hp⟩ => (te_path (W := fun _ => True) hS hp (fun _ _ _ => trivial)).mono (fun _ _ h _ => h.1), te_conn hf⟩
theorem te_cut (hf : Frs (TE S G T)) {m : Nat} (hf' : Frs (TE S G (fun t => T t ∧ t ≠ m))) (hp : IsPath (TE S G T) (S + a) (S + b) p) (hm : m ∈ p) (hms : m < S) : ¬ Cx G (fun t => T t ∧ t ≠ m) a b := by
 intro h
 obtain ⟨q, hq⟩ := te_conn hf' h
 have e := hf.unique hp (hq.mono (fun x y => te_mono (fun s h => h.1)))
 rw [e] at hm
 obtain ⟨l, rfl, h2, _, _⟩ := hq
 have key : ∀ {l : List Nat} {v : Nat}, Wk (TE S G (fun t => T t ∧ t ≠ m)) v l → m ∈ l → False := by {
 intro l
 induction l with
 | nil => intro v _ h; simp at h
 | cons z l ih => {
 intro v ⟨h1, h2⟩ hm
 rcases List.mem_cons.1 hm with rfl | hm
 {
 obtain ⟨s, c, d, x, hg, ht, h3⟩ := h1
 rcases h3 with ⟨_, h3⟩ | ⟨rfl, _⟩
 · omega
 · exact ht.2 rfl
 }
 · exact ih h2 hm
 }
 }
 rcases List.mem_cons.1 hm with rfl | hm
 · omega
 · exact key h2 hm
theorem te_add {s : Nat} {x : Int} (hg : G s = some (a, b, x)) : addE (addE (TE S G T) s (S + a)) s (S + b) = TE S G (fun t => T t ∨ t = s) := by
 refine E_ext fun v u => ?_
 unfold addE
 constructor
 {
 rintro ((h | ⟨rfl, rfl⟩ | ⟨rfl, rfl⟩) | ⟨rfl, rfl⟩ | ⟨rfl, rfl⟩)
 · exact te_mono (fun _ => .inl) h
 · exact ⟨v, a, b, x, hg, .inr rfl, .inl ⟨rfl, .inl rfl⟩⟩
 · exact ⟨u, a, b, x, hg, .inr rfl, .inr ⟨rfl, .inl rfl⟩⟩
 · exact ⟨v, a, b, x, hg, .inr rfl, .inl ⟨rfl, .inr rfl⟩⟩
 · exact ⟨u, a, b, x, hg, .inr rfl, .inr ⟨rfl, .inr rfl⟩⟩
 }
 {
 rintro ⟨t, c, d, y, h1, h2 | rfl, h3⟩
 · exact .inl (.inl ⟨t, c, d, y, h1, h2, h3⟩)
 {
 rw [hg] at h1; simp only [Option.some.injEq, Prod.mk.injEq] at h1
 obtain ⟨rfl, rfl, rfl⟩ := h1
 rcases h3 with ⟨rfl, rfl | rfl⟩ | ⟨rfl, rfl | rfl⟩ <;> simp
 }
 }
theorem te_del (hS : ∀ s e, G s = some e → s < S) {s : Nat} {x : Int} (hg : G s = some (a, b, x)) : delE (delE (TE S G T) s (S + a)) s (S + b) = TE S G (fun t => T t ∧ t ≠ s) := by
 have hs := hS s _ hg
 refine E_ext fun v u => ?_
 unfold delE
 constructor
 {
 rintro ⟨⟨⟨t, c, d, y, h1, h2, h3⟩, n1, n2⟩, n3, n4⟩
 refine ⟨t, c, d, y, h1, ⟨h2, ?_⟩, h3⟩
 rintro rfl
 rw [hg] at h1; simp only [Option.some.injEq, Prod.mk.injEq] at h1
 obtain ⟨rfl, rfl, rfl⟩ := h1
 rcases h3 with ⟨rfl, rfl | rfl⟩ | ⟨rfl, rfl | rfl⟩
 · exact n1 ⟨rfl, rfl⟩
 · exact n3 ⟨rfl, rfl⟩
 · exact n2 ⟨rfl, rfl⟩
 · exact n4 ⟨rfl, rfl⟩
 }
 {
 rintro ⟨t, c, d, y, h1, ⟨h2, hne⟩, h3⟩
 have ht := hS t _ h1
 exact ⟨⟨⟨t, c, d, y, h1, h2, h3⟩, by omega, by omega⟩, by omega, by omega⟩
 }
theorem te_congr {G' : EMap} {T' : Nat → Prop} (h1 : ∀ s, T s ↔ T' s) (h2 : ∀ s, T s → G s = G' s) : TE S G T = TE S G' T' := by
 refine E_ext fun v u => ?_
 constructor
 {
 rintro ⟨t, c, d, y, e1, e2, e3⟩
 exact ⟨t, c, d, y, by rw [← h2 t e2]; exact e1, (h1 t).1 e2, e3⟩
 }
 {
 rintro ⟨t, c, d, y, e1, e2, e3⟩
 have := (h1 t).2 e2
 exact ⟨t, c, d, y, by rw [h2 t this]; exact e1, this, e3⟩
 }
theorem te_out {s v : Nat} (hT : ¬ T s) (hs : s < S) : ¬ TE S G T v s := by
 rintro ⟨t, c, d, y, h1, h2, ⟨_, h3⟩ | ⟨rfl, _⟩⟩
 · omega
 · exact hT h2
theorem te_alone {s v : Nat} (hT : ¬ T s) (hs : s < S) (hv : v ≠ s) (hf : Frs (TE S G T)) : ¬ Conn (TE S G T) s v := by
 intro h
 obtain ⟨x, hx⟩ := conn_in (hf.csymm h) (fun e => hv e)
 exact te_out hT hs hx
theorem te_none : TE S (fun _ => none) T = fun _ _ => False := by
 refine E_ext fun v u => ?_
 simp [TE]
end
end Go.Proofs.YtgmnemndjjmgkaaGreat

/- forest: the first slot of a path of the tree edges. -/
namespace Go.Proofs.YtgmnemndjjmgkaaGreat
open Classical
structure GW (S V : Nat) (G : EMap) : Prop where
  slot : ∀ s e, G s = some e → s < S
  ends : ∀ s a b x, G s = some (a, b, x) → a < V ∧ b < V ∧ a ≠ b
  rng : ∀ s a b x, G s = some (a, b, x) → -9223372036854775808 ≤ x ∧ x ≤ 9223372036854775807
structure KeyOK (S V : Nat) (G : EMap) (T : Nat → Prop) (key : Nat → Int) : Prop where
  slot : ∀ s a b x, G s = some (a, b, x) → T s → key s = x
  vert : ∀ v, v < V → key (S + v) = 9223372036854775807
section
variable {S V : Nat} {G : EMap} {a b m : Nat} {p : List Nat} {key : Nat → Int}
theorem GW.no (S V : Nat) : GW S V (fun _ => none) := ⟨fun _ _ h => (by cases h), fun _ _ _ _ h => (by cases h), fun _ _ _ _ h => (by cases h)⟩
theorem GW.put (h : GW S V G) {s : Nat} {x : Int} (hs : s < S) (ha : a < V) (hb : b < V) (hab : a ≠ b) (hx : -9223372036854775808 ≤ x ∧ x ≤ 9223372036854775807) : GW S V (updG G s (some (a, b, x))) := by
 have key : ∀ t e, updG G s (some (a, b, x)) t = some e → (t = s ∧ e = (a, b, x)) ∨ G t = some e := by {
 intro t e ht
 by_cases h1 : t = s
 · subst h1; rw [updG_same] at ht; cases ht; exact .inl ⟨rfl, rfl⟩
 · rw [updG_other h1] at ht; exact .inr ht
 }
 refine ⟨fun t e ht => ?_, fun t c d y ht => ?_, fun t c d y ht => ?_⟩
 {
 rcases key _ _ ht with ⟨rfl, _⟩ | h1
 · exact hs
 · exact h.slot _ _ h1
 }
 {
 rcases key _ _ ht with ⟨rfl, e⟩ | h1
 · cases e; exact ⟨ha, hb, hab⟩
 · exact h.ends _ _ _ _ h1
 }
 {
 rcases key _ _ ht with ⟨rfl, e⟩ | h1
 · cases e; exact hx
 · exact h.rng _ _ _ _ h1
 }
theorem GW.del (h : GW S V G) (s : Nat) : GW S V (updG G s none) := by
 have key : ∀ t e, updG G s none t = some e → G t = some e := by {
 intro t e ht
 by_cases h1 : t = s
 · subst h1; rw [updG_same] at ht; cases ht
 · rw [updG_other h1] at ht; exact ht
 }
 exact ⟨fun t e ht => h.slot _ _ (key _ _ ht), fun t c d y ht => h.ends _ _ _ _ (key _ _ ht), fun t c d y ht => h.rng _ _ _ _ (key _ _ ht)⟩
theorem first_slot (h : GW S V G) (hk : KeyOK S V G (isTree G) key) (hp : IsPath (TE S G (isTree G)) (S + a) (S + b) p) (hab : a ≠ b) (hf : FirstOf key p m) (hn : ∀ x ∈ p, x < S + V) :
    ∃ ma mb y, m < S ∧ G m = some (ma, mb, y) ∧ isTree G m ∧ Cx G (fun t => isTree G t ∧ (t = m ∨ Aft G m y t)) a b := by
 have hms : m < S := by {
 apply Classical.byContradiction
 intro hms
 obtain ⟨s, hs, hsS⟩ := te_has hp h.slot hab
 obtain ⟨c, d, x, hg, ht⟩ := te_slots h.slot hp hs hsS
 have h1 := hk.slot s c d x hg ht
 have h2 := hk.vert (m - S) (by have := hn m hf.1; omega)
 rw [show S + (m - S) = m by omega] at h2
 have h3 := h.rng s c d x hg
 rcases hf.2 s hs (by omega) with e | ⟨_, e⟩ <;> omega
 }
 obtain ⟨ma, mb, y, hg, ht⟩ := te_slots h.slot hp hf.1 hms
 refine ⟨ma, mb, y, hms, hg, ht, te_path h.slot hp fun t htp htS => ?_⟩
 by_cases e : t = m
 · exact .inl e
 obtain ⟨c, d, x, hg', ht'⟩ := te_slots h.slot hp htp htS
 have h1 := hk.slot t c d x hg' ht'
 have h2 := hk.slot m ma mb y hg ht
 refine .inr ⟨c, d, x, hg', ?_⟩
 rw [← h1, ← h2]
 rcases hf.2 t htp e with e1 | ⟨e1, e2⟩
 · exact .inl e1
 · exact .inr ⟨e1, e2⟩
end
noncomputable def cntT (S : Nat) (T : Nat → Prop) : Nat := ((List.range S).filter fun s => decide (T s)).length
theorem cntT_le (S : Nat) (T : Nat → Prop) : cntT S T ≤ S := by
 unfold cntT
 have := List.length_filter_le (fun s => decide (T s)) (List.range S)
 simpa using this
theorem cntT_congr {S : Nat} {T T' : Nat → Prop} (h : ∀ s, T s ↔ T' s) : cntT S T = cntT S T' := by
 have : T = T' := funext fun s => propext (h s)
 rw [this]
theorem cntT_one {S : Nat} {T T' : Nat → Prop} {m : Nat} (hm : m < S) (ht : T m) (hn : ¬ T' m) (h : ∀ x, x ≠ m → (T' x ↔ T x)) : cntT S T' + 1 = cntT S T := by
 unfold cntT
 exact filter_drop_one (P := fun s => decide (T s)) (P' := fun s => decide (T' s)) (m := m) List.nodup_range (List.mem_range.2 hm) (by simp [ht]) (by simp [hn]) (fun x _ hx => by simp [h x hx])
theorem cntT_drop {S : Nat} {T : Nat → Prop} {m : Nat} (hm : m < S) (ht : T m) : cntT S (fun t => T t ∧ t ≠ m) + 1 = cntT S T :=
  cntT_one hm ht (fun h => h.2 rfl) (fun _ hx => ⟨fun h => h.1, fun h => ⟨h, hx⟩⟩)
theorem cntT_put {S : Nat} {T : Nat → Prop} {m : Nat} (hm : m < S) (ht : ¬ T m) : cntT S (fun t => T t ∨ t = m) = cntT S T + 1 := by
 have := cntT_drop (T := fun t => T t ∨ t = m) hm (.inr rfl)
 rw [← this, cntT_congr (T := fun t => (T t ∨ t = m) ∧ t ≠ m) (T' := T)]
 intro s
 constructor
 {
 rintro ⟨h | h, h2⟩
 · exact h
 · exact absurd h h2
 }
 {
 intro h
 exact ⟨.inl h, by rintro rfl; exact ht h⟩
 }
theorem cntT_none (S : Nat) : cntT S (fun _ => False) = 0 := by simp [cntT]
end Go.Proofs.YtgmnemndjjmgkaaGreat

/- forest: how many vertices, slots and classes the tree edges have. -/
namespace Go.Proofs.YtgmnemndjjmgkaaGreat
open Classical
def Indep (G : EMap) (T : Nat → Prop) : Prop := ∀ m c d x, T m → G m = some (c, d, x) → ¬ Cx G (fun t => T t ∧ t ≠ m) c d
section
variable {S V : Nat} {G : EMap} {T T' U : Nat → Prop} {a b c d m : Nat} {x y : Int}
theorem Indep.sub (h : Indep G T) (hs : ∀ t, T' t → T t) : Indep G T' := fun m c d x h1 h2 h3 =>
  h m c d x (hs m h1) h2 (h3.mono fun t _ ht _ => ⟨hs t ht.1, ht.2⟩)
theorem cnt_zero {P : Nat → Prop} {S : Nat} (h : cntT S P = 0) : ∀ s, s < S → ¬ P s := by
 intro s hs hp
 unfold cntT at h
 have h1 : s ∈ (List.range S).filter fun s => decide (P s) := List.mem_filter.2 ⟨List.mem_range.2 hs, by simp [hp]⟩
 rw [List.length_eq_zero_iff.1 h] at h1
 simp at h1
theorem first_ex (hS : ∀ s e, G s = some e → s < S) : ∀ (k : Nat) (P : Nat → Prop), cntT S P ≤ k → (∀ s, P s → ∃ e, G s = some e) → (∃ s, P s) → ∃ s a b x, P s ∧ G s = some (a, b, x) ∧ ∀ t, P t → t ≠ s → Aft G s x t := by
 intro k
 induction k with
 | zero => {
 rintro P hk hg ⟨s, hs⟩
 obtain ⟨e, he⟩ := hg s hs
 exact absurd hs (cnt_zero (by omega) s (hS s e he))
 }
 | succ k ih => {
 rintro P hk hg ⟨s, hs⟩
 obtain ⟨⟨a, b, x⟩, he⟩ := hg s hs
 by_cases hne : ∃ t, P t ∧ t ≠ s
 {
 have hd := cntT_drop (T := P) (hS s _ he) hs
 obtain ⟨u, c, d, y, ⟨hu, hus⟩, hgu, hall⟩ := ih (fun t => P t ∧ t ≠ s) (by omega) (fun t ht => hg t ht.1) hne
 by_cases hb : bef x s y u
 {
 refine ⟨s, a, b, x, hs, he, fun t ht hts => ?_⟩
 by_cases htu : t = u
 · subst htu; exact ⟨c, d, y, hgu, hb⟩
 {
 obtain ⟨e1, e2, z, h1, h2⟩ := hall t ⟨ht, hts⟩ htu
 exact ⟨e1, e2, z, h1, bef_trans hb h2⟩
 }
 }
 {
 refine ⟨u, c, d, y, hu, hgu, fun t ht htu => ?_⟩
 by_cases hts : t = s
 · subst hts; exact ⟨a, b, x, he, bef_tri (fun e => htu e) hb⟩
 · exact hall t ⟨ht, hts⟩ htu
 }
 }
 · refine ⟨s, a, b, x, hs, he, fun t ht hts => absurd ⟨t, ht, hts⟩ hne⟩
 }
theorem indep_sub (hS : ∀ s e, G s = some e → s < S) : ∀ (k : Nat) (T : Nat → Prop), cntT S T ≤ k → (∀ t, T t → isTree G t) → Indep G T := by
 intro k
 induction k with
 | zero => {
 intro T hk hT m c d x hm hg _
 exact cnt_zero (by omega) m (hS m _ hg) hm
 }
 | succ k ih => {
 intro T hk hT m c d x hm hg hc
 obtain ⟨s, a, b, z, hs, hgs, hall⟩ := first_ex hS (k + 1) T hk (fun t ht => by obtain ⟨_, _, _, h, _⟩ := hT t ht; exact ⟨_, h⟩) ⟨m, hm⟩
 have hd := cntT_drop (T := T) (hS s _ hgs) hs
 have I := ih (fun t => T t ∧ t ≠ s) (by omega) (fun t ht => hT t ht.1)
 obtain ⟨a', b', z', hgs', hnc⟩ := hT s hs
 rw [hgs] at hgs'; simp only [Option.some.injEq, Prod.mk.injEq] at hgs'
 obtain ⟨rfl, rfl, rfl⟩ := hgs'
 have lift : ∀ {p q : Nat}, Cx G (fun t => T t ∧ t ≠ s) p q → Cx G (Aft G s z) p q := fun h => h.mono fun t _ ht _ => hall t ht.1 ht.2
 by_cases hms : m = s
 {
 subst hms
 rw [hg] at hgs; simp only [Option.some.injEq, Prod.mk.injEq] at hgs
 obtain ⟨rfl, rfl, rfl⟩ := hgs
 exact hnc (lift hc)
 }
 {
 have ed : Cx G (fun t => T t ∧ t ≠ s) c d := Cx.edge (s := m) ⟨hm, hms⟩ hg
 have wk : ∀ {p q : Nat}, Cx G (fun t => (T t ∧ t ≠ s) ∧ t ≠ m) p q → Cx G (fun t => T t ∧ t ≠ s) p q := fun h => h.mono fun t _ ht _ => ht.1
 rcases hc.more (U' := fun t => (T t ∧ t ≠ s) ∧ t ≠ m) (s := s) (fun u hu => if e : u = s then .inr e else .inl ⟨⟨hu.1, e⟩, hu.2⟩) hgs with h | ⟨h1, h2⟩ | ⟨h1, h2⟩
 · exact I m c d x ⟨hm, hms⟩ hg h
 · exact hnc (lift (((wk h1).symm.trans ed).trans (wk h2).symm))
 · exact hnc (lift (((wk h2).trans ed.symm).trans (wk h1)))
 }
 }
theorem indep_tree (hS : ∀ s e, G s = some e → s < S) : Indep G (isTree G) := indep_sub hS _ _ (Nat.le_refl _) (fun _ h => h)
noncomputable def cxs (V : Nat) (G : EMap) (T : Nat → Prop) (a : Nat) : Nat := cntT V fun v => Cx G T a v
def SlOf (G : EMap) (T : Nat → Prop) (a : Nat) (s : Nat) : Prop := T s ∧ ∃ c d x, G s = some (c, d, x) ∧ Cx G T a c
noncomputable def sls (S : Nat) (G : EMap) (T : Nat → Prop) (a : Nat) : Nat := cntT S (SlOf G T a)
theorem cnt_split {P Q R : Nat → Prop} (n : Nat) (h1 : ∀ s, P s ↔ Q s ∨ R s) (h2 : ∀ s, ¬ (Q s ∧ R s)) : cntT n P = cntT n Q + cntT n R := by
 unfold cntT
 generalize List.range n = l
 induction l with
 | nil => simp
 | cons v l ih => {
 by_cases hq : Q v
 {
 have hr : ¬ R v := fun h => h2 v ⟨hq, h⟩
 have hp : P v := (h1 v).2 (.inl hq)
 simp only [List.filter_cons, hp, hq, hr, decide_true, decide_false, if_true, Bool.false_eq_true, if_false, List.length_cons]; omega
 }
 {
 by_cases hr : R v
 {
 have hp : P v := (h1 v).2 (.inr hr)
 simp only [List.filter_cons, hp, hq, hr, decide_true, decide_false, if_true, Bool.false_eq_true, if_false, List.length_cons]; omega
 }
 {
 have hp : ¬ P v := fun h => ((h1 v).1 h).elim hq hr
 simp only [List.filter_cons, hp, hq, hr, decide_false, Bool.false_eq_true, if_false]; exact ih
 }
 }
 }
theorem cnt_one {n m : Nat} (hm : m < n) : cntT n (fun s => s = m) = 1 := by
 have := cntT_put (S := n) (T := fun _ => False) (m := m) hm (fun h => h)
 rw [cntT_none] at this
 rw [show cntT n (fun s => s = m) = cntT n (fun t => False ∨ t = m) from cntT_congr fun s => by simp, this]
theorem cx_drop (hg : G m = some (c, d, x)) (hm : T m) (p q : Nat) : Cx G T p q ↔ Cx G (fun t => T t ∧ t ≠ m) p q ∨ (Cx G (fun t => T t ∧ t ≠ m) p c ∧ Cx G (fun t => T t ∧ t ≠ m) d q) ∨ (Cx G (fun t => T t ∧ t ≠ m) p d ∧ Cx G (fun t => T t ∧ t ≠ m) c q) := by
 constructor
 {
 intro h
 exact h.more (fun u hu => if e : u = m then .inr e else .inl ⟨hu, e⟩) hg
 }
 {
 have wk : ∀ {p q : Nat}, Cx G (fun t => T t ∧ t ≠ m) p q → Cx G T p q := fun h => h.mono fun t _ ht _ => ht.1
 have ed : Cx G T c d := Cx.edge (s := m) hm hg
 rintro (h | ⟨h1, h2⟩ | ⟨h1, h2⟩)
 · exact wk h
 · exact ((wk h1).trans ed).trans (wk h2)
 · exact ((wk h1).trans ed.symm).trans (wk h2)
 }
theorem sls_cxs (hG : GW S V G) : ∀ (k : Nat) (T : Nat → Prop), cntT S T ≤ k → (∀ t, T t → ∃ e, G t = some e) → Indep G T → ∀ a, a < V → sls S G T a + 1 = cxs V G T a := by
  intro k
  induction k with
  | zero =>
    intro T hk hT hI a ha
    have h0 : ∀ s, ¬ T s := fun s hs => by obtain ⟨e, he⟩ := hT s hs; exact cnt_zero (by omega) s (hG.slot s e he) hs
    have e1 : sls S G T a = 0 := by
      unfold sls
      rw [cntT_congr (T' := fun _ => False) (fun s => ⟨fun h => h0 s h.1, fun h => h.elim⟩), cntT_none]
    have e2 : cxs V G T a = 1 := by
      unfold cxs
      rw [cntT_congr (T' := fun s => s = a) (fun s => ⟨fun h => ?_, fun h => by rw [h]; exact .refl a⟩), cnt_one ha]
      cases h with
      | refl => rfl
      | step s x _ h1 _ => exact absurd h1 (h0 s)
    omega
  | succ k ih =>
    intro T hk hT hI a ha
    by_cases hm : ∃ m, T m
    · obtain ⟨m, hm⟩ := hm
      obtain ⟨⟨c, d, x⟩, hg⟩ := hT m hm
      have hms := hG.slot m _ hg
      have hen := hG.ends m c d x hg
      have hd := cntT_drop (T := T) hms hm
      have I := ih (fun t => T t ∧ t ≠ m) (by omega) (fun t ht => hT t ht.1) (hI.sub fun t ht => ht.1)
      have hn := hI m c d x hm hg
      have hcx := fun p q => cx_drop hg hm p q
      have key : ∀ (p q : Nat), q < V → Cx G (fun t => T t ∧ t ≠ m) a p → (∀ v, Cx G T a v ↔ Cx G (fun t => T t ∧ t ≠ m) a v ∨ Cx G (fun t => T t ∧ t ≠ m) q v) → ¬ Cx G (fun t => T t ∧ t ≠ m) p q → Cx G T a c → sls S G T a + 1 = cxs V G T a := by
        intro p q hq hap hv hpq hac
        have e1 : cxs V G T a = cxs V G (fun t => T t ∧ t ≠ m) a + cxs V G (fun t => T t ∧ t ≠ m) q := cnt_split V hv fun v h => hpq ((hap.symm.trans h.1).trans h.2.symm)
        have e2 : sls S G T a = cntT S (fun s => s = m) + cntT S (fun s => SlOf G (fun t => T t ∧ t ≠ m) a s ∨ SlOf G (fun t => T t ∧ t ≠ m) q s) := by
          refine cnt_split S (fun s => ⟨fun h => ?_, fun h => ?_⟩) (fun s h => ?_)
          · by_cases e : s = m
            · exact .inl e
            · obtain ⟨h1, e1, e2, z, h2, h3⟩ := h
              rcases (hv e1).1 h3 with h4 | h4
              · exact .inr (.inl ⟨⟨h1, e⟩, e1, e2, z, h2, h4⟩)
              · exact .inr (.inr ⟨⟨h1, e⟩, e1, e2, z, h2, h4⟩)
          · rcases h with rfl | ⟨h1, e1, e2, z, h2, h3⟩ | ⟨h1, e1, e2, z, h2, h3⟩
            · exact ⟨hm, c, d, x, hg, hac⟩
            · exact ⟨h1.1, e1, e2, z, h2, (hv e1).2 (.inl h3)⟩
            · exact ⟨h1.1, e1, e2, z, h2, (hv e1).2 (.inr h3)⟩
          · obtain ⟨rfl, h⟩ := h
            rcases h with h | h
            · exact h.1.2 rfl
            · exact h.1.2 rfl
        have e3 : cntT S (fun s => SlOf G (fun t => T t ∧ t ≠ m) a s ∨ SlOf G (fun t => T t ∧ t ≠ m) q s) = sls S G (fun t => T t ∧ t ≠ m) a + sls S G (fun t => T t ∧ t ≠ m) q := by
          refine cnt_split S (fun s => Iff.rfl) (fun s h => ?_)
          obtain ⟨⟨_, e1, e2, z, h1, h2⟩, ⟨_, e1', e2', z', h1', h2'⟩⟩ := h
          rw [h1] at h1'; simp only [Option.some.injEq, Prod.mk.injEq] at h1'
          obtain ⟨rfl, rfl, rfl⟩ := h1'
          exact hpq ((hap.symm.trans h2).trans h2'.symm)
        rw [cnt_one hms] at e2
        have i1 := I a ha
        have i2 := I q hq
        omega
      by_cases h1 : Cx G (fun t => T t ∧ t ≠ m) a c
      · refine key c d hen.2.1 h1 (fun v => ⟨fun h => ?_, fun h => ?_⟩) hn ((hcx a c).2 (.inl h1))
        · rcases (hcx a v).1 h with h | ⟨_, h⟩ | ⟨h2, _⟩
          · exact .inl h
          · exact .inr h
          · exact absurd (h1.symm.trans h2) hn
        · rcases h with h | h
          · exact (hcx a v).2 (.inl h)
          · exact (hcx a v).2 (.inr (.inl ⟨h1, h⟩))
      · by_cases h2 : Cx G (fun t => T t ∧ t ≠ m) a d
        · refine key d c hen.1 h2 (fun v => ⟨fun h => ?_, fun h => ?_⟩) (fun h => hn h.symm) ((hcx a c).2 (.inr (.inr ⟨h2, .refl c⟩)))
          · rcases (hcx a v).1 h with h | ⟨h3, _⟩ | ⟨_, h⟩
            · exact .inl h
            · exact absurd h3 h1
            · exact .inr h
          · rcases h with h | h
            · exact (hcx a v).2 (.inl h)
            · exact (hcx a v).2 (.inr (.inr ⟨h2, h⟩))
        · have hv : ∀ v, Cx G T a v ↔ Cx G (fun t => T t ∧ t ≠ m) a v := fun v => by
            rw [hcx a v]
            exact ⟨fun h => h.elim id (fun h => h.elim (fun h => absurd h.1 h1) (fun h => absurd h.1 h2)), .inl⟩
          have e1 : cxs V G T a = cxs V G (fun t => T t ∧ t ≠ m) a := cntT_congr hv
          have e2 : sls S G T a = sls S G (fun t => T t ∧ t ≠ m) a := cntT_congr fun s => ⟨fun h => by
              obtain ⟨h3, e1, e2, z, h4, h5⟩ := h
              have e : s ≠ m := by
                rintro rfl
                rw [hg] at h4; simp only [Option.some.injEq, Prod.mk.injEq] at h4
                obtain ⟨rfl, rfl, rfl⟩ := h4
                exact h1 ((hv c).1 h5)
              exact ⟨⟨h3, e⟩, e1, e2, z, h4, (hv e1).1 h5⟩,
            fun ⟨h3, e1, e2, z, h4, h5⟩ => ⟨h3.1, e1, e2, z, h4, (hv e1).2 h5⟩⟩
          rw [e1, e2]; exact I a ha
    · exact (by
        have h0 : ∀ s, ¬ T s := fun s hs => hm ⟨s, hs⟩
        exact ih T (by rw [cntT_congr (T' := fun _ => False) (fun s => ⟨fun h => h0 s h, fun h => h.elim⟩), cntT_none]; omega) hT hI a ha)
def Lead (G : EMap) (T : Nat → Prop) (v : Nat) : Prop := ∀ u, u < v → ¬ Cx G T v u
theorem lead_drop (hc : c < V) (hd : d < V) (hg : G m = some (c, d, x)) (hm : T m) (hn : ¬ Cx G (fun t => T t ∧ t ≠ m) c d) : cntT V (Lead G T) + 1 = cntT V (Lead G fun t => T t ∧ t ≠ m) := by
 have hcx := fun p q => cx_drop hg hm p q
 generalize hR : (fun p q => Cx G (fun t => T t ∧ t ≠ m) p q) = R at *
 have tr : ∀ {p q r}, R p q → R q r → R p r := by rw [← hR]; intro p q r h1 h2; exact Cx.trans h1 h2
 have sy : ∀ {p q}, R p q → R q p := by rw [← hR]; intro p q h1; exact Cx.symm h1
 have rf : ∀ p, R p p := by rw [← hR]; intro p; exact .refl p
 have eR : ∀ p q, Cx G (fun t => T t ∧ t ≠ m) p q ↔ R p q := by rw [← hR]; intro p q; exact Iff.rfl
 simp only [eR] at hcx hn
 have eL : cntT V (Lead G fun t => T t ∧ t ≠ m) = cntT V (fun v => ∀ u, u < v → ¬ R v u) := cntT_congr fun v => by unfold Lead; simp only [eR]
 have eL' : cntT V (Lead G T) = cntT V (fun v => ∀ u, u < v → ¬ (R v u ∨ (R v c ∧ R d u) ∨ (R v d ∧ R c u))) := cntT_congr fun v => by unfold Lead; simp only [hcx]
 rw [eL, eL']
 clear eL eL' eR hcx hR
 have key : ∀ {a b fa fb : Nat}, fa < fb → R a fa → R b fb → (∀ u, u < fa → ¬ R fa u) → (∀ u, u < fb → ¬ R fb u) → b < V → fb ≤ b → cntT V (fun v => ∀ u, u < v → ¬ (R v u ∨ (R v a ∧ R b u) ∨ (R v b ∧ R a u))) + 1 = cntT V (fun v => ∀ u, u < v → ¬ R v u) := by {
 intro a b fa fb hlt hca hcb hfa hfb hbn hfbb
 refine cntT_one (m := fb) (by omega) hfb ?_ ?_
 {
 intro hf
 exact hf fa hlt (.inr (.inr ⟨sy hcb, hca⟩))
 }
 {
 intro v hv
 refine ⟨fun hf u hu hc => hf u hu (.inl hc), fun hf u hu hc => ?_⟩
 rcases hc with e | ⟨e1, e2⟩ | ⟨e1, e2⟩
 · exact hf u hu e
 {
 have hxfa : R v fa := tr e1 hca
 have h1 : v = fa := by {
 rcases Nat.lt_trichotomy v fa with q | q | q
 · exact absurd (sy hxfa) (hfa v q)
 · exact q
 · exact absurd hxfa (hf fa q)
 }
 have : ¬ u < fb := fun q => hfb u q (tr (sy hcb) e2)
 omega
 }
 {
 have hxfb : R v fb := tr e1 hcb
 rcases Nat.lt_trichotomy v fb with q | q | q
 · exact absurd (sy hxfb) (hfb v q)
 · exact absurd q hv
 · exact absurd hxfb (hf fb q)
 }
 }
 }
 obtain ⟨fa, ha1, ha2, ha3⟩ := least_ex (P := fun k => R c k) (rf c)
 obtain ⟨fb, hb1, hb2, hb3⟩ := least_ex (P := fun k => R d k) (rf d)
 have hne : fa ≠ fb := by rintro rfl; exact hn (tr ha2 (sy hb2))
 have hfa : ∀ u, u < fa → ¬ R fa u := fun k hk hc => ha3 k hk (tr ha2 hc)
 have hfb : ∀ u, u < fb → ¬ R fb u := fun k hk hc => hb3 k hk (tr hb2 hc)
 rcases Nat.lt_or_gt_of_ne hne with q | q
 · exact key q ha2 hb2 hfa hfb hd hb1
 {
 rw [← key q hb2 ha2 hfb hfa hc ha1]
 congr 1
 exact cntT_congr fun v => ⟨fun h u hu e => h u hu (e.elim .inl (fun e => e.elim (fun e => .inr (.inr e)) (fun e => .inr (.inl e)))), fun h u hu e => h u hu (e.elim .inl (fun e => e.elim (fun e => .inr (.inr e)) (fun e => .inr (.inl e))))⟩
 }
theorem lead_cnt (hG : GW S V G) : ∀ (k : Nat) (T : Nat → Prop), cntT S T ≤ k → (∀ t, T t → ∃ e, G t = some e) → Indep G T → cntT V (Lead G T) + cntT S T = V := by
 have all : cntT V (fun _ => True) = V := by {
 unfold cntT
 rw [List.filter_eq_self.2 (fun _ _ => by simp), List.length_range]
 }
 intro k
 induction k with
 | zero => {
 intro T hk hT hI
 have h0 : ∀ s, ¬ T s := fun s hs => by obtain ⟨e, he⟩ := hT s hs; exact cnt_zero (by omega) s (hG.slot s e he) hs
 have : cntT V (Lead G T) = V := by {
 refine (cntT_congr (T' := fun _ => True) (fun v => ⟨fun _ => trivial, fun _ u hu hc => ?_⟩)).trans all
 cases hc with
 | refl => exact absurd hu (Nat.lt_irrefl _)
 | step s x _ h1 _ => exact h0 s h1
 }
 omega
 }
 | succ k ih => {
 intro T hk hT hI
 by_cases hm : ∃ m, T m
 {
 obtain ⟨m, hm⟩ := hm
 obtain ⟨⟨c, d, x⟩, hg⟩ := hT m hm
 have hd := cntT_drop (T := T) (hG.slot m _ hg) hm
 have hen := hG.ends m c d x hg
 have := lead_drop hen.1 hen.2.1 hg hm (hI m c d x hm hg)
 have := ih (fun t => T t ∧ t ≠ m) (by omega) (fun t ht => hT t ht.1) (hI.sub fun t ht => ht.1)
 omega
 }
 {
 have h0 : ∀ s, ¬ T s := fun s hs => hm ⟨s, hs⟩
 exact ih T (by rw [cntT_congr (T' := fun _ => False) (fun s => ⟨fun h => h0 s h, fun h => h.elim⟩), cntT_none]; omega) hT hI
 }
 }
theorem lead_tree (hG : GW S V G) : cntT V (Lead G (isTree G)) + cntT S (isTree G) = V :=
  lead_cnt hG _ _ (Nat.le_refl _) (fun _t ⟨_a, _b, _x, h, _⟩ => ⟨_, h⟩) (indep_tree hG.slot)
theorem Frs.sub {E E' : Nat → Nat → Prop} (h : Frs E) (hs : ∀ v u, E' v u → E v u) (sy : ∀ v u, E' v u → E' u v) : Frs E' := by
 obtain ⟨par, d, rt, hR, hE⟩ := h
 have hp : ∀ x, (if x ≠ 0 ∧ par x ≠ 0 ∧ E' (x - 1) (par x - 1) then par x else 0) ≠ 0 → (if x ≠ 0 ∧ par x ≠ 0 ∧ E' (x - 1) (par x - 1) then par x else 0) = par x ∧ par x ≠ 0 ∧ E' (x - 1) (par x - 1) := by {
 intro x hx
 by_cases h : x ≠ 0 ∧ par x ≠ 0 ∧ E' (x - 1) (par x - 1)
 · exact ⟨if_pos h, h.2.1, h.2.2⟩
 · exact absurd (if_neg h) hx
 }
 obtain ⟨rt', hR'⟩ := rt_ex (par := fun x => if x ≠ 0 ∧ par x ≠ 0 ∧ E' (x - 1) (par x - 1) then par x else 0) (d := d) (fun x hx => by
   have := hp x hx
   show d (if x ≠ 0 ∧ par x ≠ 0 ∧ E' (x - 1) (par x - 1) then par x else 0) < d x
   rw [this.1]; exact hR.dep x this.2.1)
 refine ⟨_, d, rt', hR', fun v u => ⟨fun e => ?_, fun e => ?_⟩⟩
 {
 obtain ⟨h1, h2, h3⟩ := (hE v u).1 (hs v u e)
 refine ⟨h1, h2, h3.imp (fun q => ?_) (fun q => ?_)⟩
 {
 show (if v + 1 ≠ 0 ∧ par (v + 1) ≠ 0 ∧ E' (v + 1 - 1) (par (v + 1) - 1) then par (v + 1) else 0) = u + 1
 rw [q, if_pos ⟨by omega, by omega, by simpa using e⟩]
 }
 {
 show (if u + 1 ≠ 0 ∧ par (u + 1) ≠ 0 ∧ E' (u + 1 - 1) (par (u + 1) - 1) then par (u + 1) else 0) = v + 1
 rw [q, if_pos ⟨by omega, by omega, by simpa using sy _ _ e⟩]
 }
 }
 {
 obtain ⟨h1, h2, h3⟩ := e
 rcases h3 with q | q
 {
 have := hp (v + 1) (by show (if v + 1 ≠ 0 ∧ par (v + 1) ≠ 0 ∧ E' (v + 1 - 1) (par (v + 1) - 1) then par (v + 1) else 0) ≠ 0; rw [show (if v + 1 ≠ 0 ∧ par (v + 1) ≠ 0 ∧ E' (v + 1 - 1) (par (v + 1) - 1) then par (v + 1) else 0) = u + 1 from q]; omega)
 have e1 : par (v + 1) = u + 1 := this.1.symm.trans q
 have := this.2.2
 rw [e1] at this; simpa using this
 }
 {
 have := hp (u + 1) (by show (if u + 1 ≠ 0 ∧ par (u + 1) ≠ 0 ∧ E' (u + 1 - 1) (par (u + 1) - 1) then par (u + 1) else 0) ≠ 0; rw [show (if u + 1 ≠ 0 ∧ par (u + 1) ≠ 0 ∧ E' (u + 1 - 1) (par (u + 1) - 1) then par (u + 1) else 0) = v + 1 from q]; omega)
 have e1 : par (u + 1) = v + 1 := this.1.symm.trans q
 have := this.2.2
 rw [e1] at this; exact sy _ _ (by simpa using this)
 }
 }
theorem te_sub (h : Frs (TE S G T)) (hs : ∀ t, T' t → T t) : Frs (TE S G T') := h.sub (fun _ _ => te_mono hs) (fun _ _ => te_symm)
def AtLeast (G : EMap) (r : Int) (t : Nat) : Prop := ∃ a b x, G t = some (a, b, x) ∧ r ≤ x
def Beyond (G : EMap) (r : Int) (t : Nat) : Prop := ∃ a b x, G t = some (a, b, x) ∧ r < x
def IsUntil (G : EMap) (a b : Nat) (r : Int) : Prop := Cx G (AtLeast G r) a b ∧ ¬ Cx G (Beyond G r) a b
theorem until_one {r r' : Int} (h : IsUntil G a b r) (h' : IsUntil G a b r') : r = r' := by
 have key : ∀ {r r' : Int}, IsUntil G a b r → IsUntil G a b r' → ¬ r < r' := fun h h' hlt =>
   h.2 (h'.1.mono fun t _ ⟨c, d, x, h1, h2⟩ _ => ⟨c, d, x, h1, by omega⟩)
 have := key h h'
 have := key h' h
 omega
theorem until_first {ma mb : Nat} (hS : ∀ s e, G s = some e → s < S) (hm : G m = some (ma, mb, y)) (hc : Cx G (fun t => isTree G t ∧ (t = m ∨ Aft G m y t)) a b) (hn : ¬ Cx G (fun t => isTree G t ∧ t ≠ m) a b) : IsUntil G a b y := by
 refine ⟨hc.mono fun t _ ht _ => ?_, fun h => ?_⟩
 {
 rcases ht.2 with rfl | ⟨c, d, z, h1, h2⟩
 · exact ⟨ma, mb, y, hm, Int.le_refl _⟩
 · exact ⟨c, d, z, h1, by unfold bef at h2; omega⟩
 }
 {
 have hu : Upw G (Beyond G y) := by {
 rintro t c d z u ⟨c', d', z', h1, h2⟩ h3 ⟨e, f, v, h4, h5⟩
 rw [h3] at h1; simp only [Option.some.injEq, Prod.mk.injEq] at h1
 obtain ⟨_, _, rfl⟩ := h1
 exact ⟨e, f, v, h4, by unfold bef at h5; omega⟩
 }
 refine hn ((kru hS hu h).mono fun t _ ht _ => ⟨ht.2, ?_⟩)
 rintro rfl
 obtain ⟨_, _, z, h1, h2⟩ := ht.1
 rw [hm] at h1; simp only [Option.some.injEq, Prod.mk.injEq] at h1
 omega
 }
noncomputable def untilI (G : EMap) (a b : Nat) : Int := if h : ∃ r, IsUntil G a b r then Classical.choose h else 0
theorem untilI_eq {r : Int} (h : IsUntil G a b r) : untilI G a b = r := by
 have hx : ∃ r, IsUntil G a b r := ⟨r, h⟩
 unfold untilI; rw [dif_pos hx]
 exact until_one (Classical.choose_spec hx) h
def IsFst (G : EMap) (m : Nat) : Prop := ∃ a b x, G m = some (a, b, x) ∧ ∀ t c d z, G t = some (c, d, z) → ¬ bef z t x m
theorem fst_one {m' : Nat} (h : IsFst G m) (h' : IsFst G m') : m = m' := by
 obtain ⟨a, b, x, h1, h2⟩ := h
 obtain ⟨a', b', x', h1', h2'⟩ := h'
 have := h2 m' a' b' x' h1'
 have := h2' m a b x h1
 unfold bef at *
 omega
noncomputable def fstG (G : EMap) : Option Nat := if h : ∃ m, IsFst G m then some (Classical.choose h) else none
theorem fstG_eq (h : IsFst G m) : fstG G = some m := by
 have hx : ∃ m, IsFst G m := ⟨m, h⟩
 unfold fstG; rw [dif_pos hx]
 exact congrArg some (fst_one (Classical.choose_spec hx) h)
theorem fstG_none (h : ∀ s, G s = none) : fstG G = none := by
 unfold fstG
 rw [dif_neg]
 rintro ⟨m, a, b, x, h1, _⟩
 rw [h m] at h1; cases h1
noncomputable def popG (G : EMap) : EMap := match fstG G with
  | none => G
  | some m => updG G m none
theorem csize_te (hG : GW S V G) (hf : Frs (TE S G (isTree G))) (ha : a < V) : csize (S + V) (TE S G (isTree G)) (S + a) + 1 = 2 * cxs V G (isTree G) a := by
 have h1 := sls_cxs hG _ _ (Nat.le_refl _) (fun t ⟨a, b, x, h, _⟩ => ⟨_, h⟩) (indep_tree hG.slot) a ha
 have h2 : csize (S + V) (TE S G (isTree G)) (S + a) = sls S G (isTree G) a + cxs V G (isTree G) a := by {
 unfold csize sls cxs cntT
 rw [show List.range (S + V) = List.range S ++ (List.range V).map (S + ·) from List.range_add, List.filter_append, List.length_append]
 congr 1
 {
 congr 1
 refine List.filter_congr fun s hs => decide_eq_decide.2 ?_
 have hs := List.mem_range.1 hs
 constructor
 {
 intro h
 have hx := conn_in (E := TE S G (isTree G)) h (by omega)
 obtain ⟨v, hx⟩ := hx
 obtain ⟨t, c, d, x, e1, e2, ⟨_, e3⟩ | ⟨rfl, e3⟩⟩ := hx
 · omega
 · refine ⟨e2, c, d, x, e1, (te_iff hG.slot hf).1 (hf.ctrans h (conn_of_edge hf ⟨s, c, d, x, e1, e2, .inl ⟨rfl, .inl rfl⟩⟩))⟩
 }
 {
 rintro ⟨e2, c, d, x, e1, e3⟩
 exact hf.ctrans ((te_iff hG.slot hf).2 e3) (conn_of_edge hf ⟨s, c, d, x, e1, e2, .inr ⟨rfl, .inl rfl⟩⟩)
 }
 }
 {
 rw [List.filter_map, List.length_map]
 congr 1
 exact List.filter_congr fun v _ => decide_eq_decide.2 (te_iff hG.slot hf)
 }
 }
 omega
end
end Go.Proofs.YtgmnemndjjmgkaaGreat

/- The plain model of a window: the forest's first edge is what is due first. -/
namespace Go.Proofs.YtgmnemndjjmgkaaGreat
open Go.RowKit
set_option maxRecDepth 10000
section
variable {s : Sm} {Q : Nat → Option Int} {G : Nat → Option (Nat × Nat × Int)} {i : Nat} {x : Int}
theorem min_fst (hl : Lk s Q G) (hok : s.Ok) (hq : Q i = some x) (hm : ∀ j y, Q j = some y → ¬ (y < x ∨ (y = x ∧ j < i))) : IsFst G i := by
 obtain ⟨e, he, hs, hx⟩ := (hl.q i x).1 hq
 obtain ⟨a, ha⟩ := Option.isSome_iff_exists.1 (vert_mem hok he (x := e.u) (by simp [Lv.at]))
 obtain ⟨b, hb⟩ := Option.isSome_iff_exists.1 (vert_mem hok he (x := e.v) (by simp [Lv.at]))
 refine ⟨a, b, x, (hl.g i a b x).2 ⟨e, he, hs, ha, hb, hx⟩, fun t c d z ht hbef => ?_⟩
 obtain ⟨e', he', hs', _, _, hx'⟩ := (hl.g t c d z).1 ht
 exact hm t z ((hl.q t z).2 ⟨e', he', hs', hx'⟩) hbef
theorem pop_min (hl : Lk s Q G) (hok : s.Ok) (hq : Q i = some x) (hm : ∀ j y, Q j = some y → ¬ (y < x ∨ (y = x ∧ j < i))) : fstG G = some i ∧ popG G = fun j => if j = i then none else G j := by
 have h1 := fstG_eq (min_fst hl hok hq hm)
 refine ⟨h1, ?_⟩
 unfold popG
 rw [h1]
 rfl
end
end Go.Proofs.YtgmnemndjjmgkaaGreat

namespace Go.Proofs.YtgmnemndjjmgkaaGreat
def elt (a b : Nat × Int) : Prop := a.2 < b.2 ∨ (a.2 = b.2 ∧ a.1 < b.1)
instance (a b : Nat × Int) : Decidable (elt a b) := by unfold elt; exact inferInstance
theorem elt_irrefl (a : Nat × Int) : ¬ elt a a := by unfold elt; omega
theorem elt_trans {a b c : Nat × Int} (h : elt a b) (k : elt b c) : elt a c := by unfold elt at *; omega
theorem nelt_trans {a b c : Nat × Int} (h : ¬ elt a b) (k : ¬ elt b c) : ¬ elt a c := by unfold elt at *; omega
theorem elt_asymm {a b : Nat × Int} (h : elt a b) : ¬ elt b a := by unfold elt at *; omega
def swpE (e : Nat → Nat × Int) (p q : Nat) : Nat → Nat × Int := fun x => if x = p then e q else if x = q then e p else e x
theorem swpE_p (e : Nat → Nat × Int) (p q : Nat) : swpE e p q p = e q := by simp [swpE]
theorem swpE_q (e : Nat → Nat × Int) (p q : Nat) : swpE e p q q = e p := by
 unfold swpE; split
 · rename_i h; rw [h]
 · simp
theorem swpE_o {e : Nat → Nat × Int} {p q x : Nat} (h1 : x ≠ p) (h2 : x ≠ q) : swpE e p q x = e x := by simp [swpE, h1, h2]
theorem swpE_mem {e : Nat → Nat × Int} {n p q : Nat} (hp : p < n) (hq : q < n) (y : Nat × Int) : (∃ x, x < n ∧ swpE e p q x = y) ↔ ∃ x, x < n ∧ e x = y := by
 constructor
 {
 rintro ⟨x, hx, rfl⟩
 by_cases h1 : x = p
 · exact ⟨q, hq, by rw [h1, swpE_p]⟩
 {
 by_cases h2 : x = q
 · exact ⟨p, hp, by rw [h2, swpE_q]⟩
 · exact ⟨x, hx, by rw [swpE_o h1 h2]⟩
 }
 }
 {
 rintro ⟨x, hx, rfl⟩
 by_cases h1 : x = p
 · exact ⟨q, hq, by rw [h1, swpE_q]⟩
 {
 by_cases h2 : x = q
 · exact ⟨p, hp, by rw [h2, swpE_p]⟩
 · exact ⟨x, hx, swpE_o h1 h2⟩
 }
 }
def updE (e : Nat → Nat × Int) (n : Nat) (x : Nat × Int) : Nat → Nat × Int := fun k => if k = n then x else e k
theorem updE_same (e : Nat → Nat × Int) (n : Nat) (x : Nat × Int) : updE e n x n = x := by simp [updE]
theorem updE_other {e : Nat → Nat × Int} {n k : Nat} {x : Nat × Int} (h : k ≠ n) : updE e n x k = e k := by simp [updE, h]
section
variable {n p : Nat} {e : Nat → Nat × Int}
def Hp (n : Nat) (e : Nat → Nat × Int) : Prop := ∀ k, 0 < k → k < n → ¬ elt (e k) (e ((k - 1) / 2))
def UpI (n : Nat) (e : Nat → Nat × Int) (p : Nat) : Prop :=
  (∀ k, 0 < k → k < n → k ≠ p → ¬ elt (e k) (e ((k - 1) / 2))) ∧ (0 < p → ∀ c, 0 < c → c < n → (c - 1) / 2 = p → ¬ elt (e c) (e ((p - 1) / 2)))
def DnI (n : Nat) (e : Nat → Nat × Int) (p : Nat) : Prop :=
  (∀ k, 0 < k → k < n → (k - 1) / 2 ≠ p → ¬ elt (e k) (e ((k - 1) / 2))) ∧ (0 < p → ∀ c, 0 < c → c < n → (c - 1) / 2 = p → ¬ elt (e c) (e ((p - 1) / 2)))
theorem up_done (h : UpI n e p) (hd : ¬ (0 < p ∧ elt (e p) (e ((p - 1) / 2)))) : Hp n e := by
 intro k h0 hk
 by_cases hkp : k = p
 · subst hkp; exact fun he => hd ⟨h0, he⟩
 · exact h.1 k h0 hk hkp
theorem up_step (h : UpI n e p) (h0 : 0 < p) (hp : p < n) (he : elt (e p) (e ((p - 1) / 2))) : UpI n (swpE e p ((p - 1) / 2)) ((p - 1) / 2) := by
 obtain ⟨q, hq⟩ : ∃ q, q = (p - 1) / 2 := ⟨_, rfl⟩
 rw [← hq] at he ⊢
 have hqp : q < p := by omega
 constructor
 {
 intro k hk0 hk hkq
 by_cases hkp : k = p
 {
 subst hkp
 rw [← hq, swpE_p, swpE_q]; exact elt_asymm he
 }
 {
 rw [swpE_o hkp hkq]
 by_cases e1 : (k - 1) / 2 = p
 {
 rw [e1, swpE_p]
 have := h.2 h0 k hk0 hk e1
 rw [← hq] at this; exact this
 }
 {
 by_cases e2 : (k - 1) / 2 = q
 {
 rw [e2, swpE_q]
 have h1 := h.1 k hk0 hk hkp
 rw [e2] at h1
 exact fun hl => h1 (elt_trans hl he)
 }
 · rw [swpE_o e1 e2]; exact h.1 k hk0 hk hkp
 }
 }
 }
 {
 intro hq0 c hc0 hc hcq
 have hn : (q - 1) / 2 ≠ p := by omega
 have hn2 : (q - 1) / 2 ≠ q := by omega
 rw [swpE_o hn hn2]
 have hqq := h.1 q hq0 (by omega) (by omega)
 by_cases hcp : c = p
 · subst hcp; rw [swpE_p]; exact hqq
 {
 rw [swpE_o hcp (by omega)]
 have h1 := h.1 c hc0 hc hcp
 rw [hcq] at h1
 exact nelt_trans h1 hqq
 }
 }
theorem push_up (h : Hp n e) (x : Nat × Int) : UpI (n + 1) (updE e n x) n := by
 constructor
 {
 intro k h0 hk hkn
 rw [updE_other hkn, updE_other (by omega)]
 exact h k h0 (by omega)
 }
 {
 intro _ c hc0 hc hcn
 omega
 }
def blw1 (n : Nat) (e : Nat → Nat × Int) (p : Nat) : Nat := if 2 * p + 1 < n ∧ elt (e (2 * p + 1)) (e p) then 2 * p + 1 else p
def blw (n : Nat) (e : Nat → Nat × Int) (p : Nat) : Nat := if 2 * p + 2 < n ∧ elt (e (2 * p + 2)) (e (blw1 n e p)) then 2 * p + 2 else blw1 n e p
theorem blw_cases (n : Nat) (e : Nat → Nat × Int) (p : Nat) : blw n e p = p ∨ (blw n e p < n ∧ (blw n e p = 2 * p + 1 ∨ blw n e p = 2 * p + 2) ∧ elt (e (blw n e p)) (e p)) := by
 unfold blw blw1
 by_cases h1 : 2 * p + 1 < n ∧ elt (e (2 * p + 1)) (e p)
 {
 rw [if_pos h1]
 by_cases h2 : 2 * p + 2 < n ∧ elt (e (2 * p + 2)) (e (2 * p + 1))
 · rw [if_pos h2]; exact .inr ⟨h2.1, .inr rfl, elt_trans h2.2 h1.2⟩
 · rw [if_neg h2]; exact .inr ⟨h1.1, .inl rfl, h1.2⟩
 }
 {
 rw [if_neg h1]
 by_cases h2 : 2 * p + 2 < n ∧ elt (e (2 * p + 2)) (e p)
 · rw [if_pos h2]; exact .inr ⟨h2.1, .inr rfl, h2.2⟩
 · rw [if_neg h2]; exact .inl rfl
 }
theorem blw_least (n : Nat) (e : Nat → Nat × Int) (p : Nat) {c : Nat} (hc : c < n) (h : c = 2 * p + 1 ∨ c = 2 * p + 2) : ¬ elt (e c) (e (blw n e p)) := by
 unfold blw blw1
 by_cases h1 : 2 * p + 1 < n ∧ elt (e (2 * p + 1)) (e p)
 {
 rw [if_pos h1]
 by_cases h2 : 2 * p + 2 < n ∧ elt (e (2 * p + 2)) (e (2 * p + 1))
 {
 rw [if_pos h2]
 rcases h with rfl | rfl
 · exact elt_asymm h2.2
 · exact elt_irrefl _
 }
 {
 rw [if_neg h2]
 rcases h with rfl | rfl
 · exact elt_irrefl _
 · exact fun hl => h2 ⟨hc, hl⟩
 }
 }
 {
 rw [if_neg h1]
 by_cases h2 : 2 * p + 2 < n ∧ elt (e (2 * p + 2)) (e p)
 {
 rw [if_pos h2]
 rcases h with rfl | rfl
 · exact fun hl => h1 ⟨hc, elt_trans hl h2.2⟩
 · exact elt_irrefl _
 }
 {
 rw [if_neg h2]
 rcases h with rfl | rfl
 · exact fun hl => h1 ⟨hc, hl⟩
 · exact fun hl => h2 ⟨hc, hl⟩
 }
 }
theorem dn_done (h : DnI n e p) (hd : blw n e p = p) : Hp n e := by
 intro k h0 hk
 by_cases hkp : (k - 1) / 2 = p
 {
 have := blw_least n e p hk (by omega)
 rw [hd] at this
 rw [hkp]; exact this
 }
 · exact h.1 k h0 hk hkp
theorem dn_step (h : DnI n e p) (hd : blw n e p ≠ p) : DnI n (swpE e p (blw n e p)) (blw n e p) ∧ p < blw n e p ∧ blw n e p < n := by
 obtain ⟨hbn, hb2, hbe⟩ := (blw_cases n e p).resolve_left hd
 have hl := fun {c : Nat} (hc : c < n) (hh : c = 2 * p + 1 ∨ c = 2 * p + 2) => blw_least n e p hc hh
 generalize blw n e p = b at *
 refine ⟨⟨?_, ?_⟩, by omega, hbn⟩
 {
 intro k hk0 hk hkb
 by_cases hkp : k = p
 {
 subst hkp
 rw [swpE_p, swpE_o (by omega) (by omega)]
 exact h.2 hk0 b (by omega) hbn (by omega)
 }
 {
 by_cases hkb2 : k = b
 {
 subst hkb2
 rw [swpE_q, show (k - 1) / 2 = p by omega, swpE_p]; exact elt_asymm hbe
 }
 {
 rw [swpE_o hkp hkb2]
 by_cases e1 : (k - 1) / 2 = p
 · rw [e1, swpE_p]; exact hl hk (by omega)
 · rw [swpE_o e1 hkb]; exact h.1 k hk0 hk e1
 }
 }
 }
 {
 intro _ c hc0 hc hcb
 rw [swpE_o (by omega) (by omega), show (b - 1) / 2 = p by omega, swpE_p]
 have := h.1 c hc0 hc (by omega)
 rw [hcb] at this; exact this
 }
theorem pop_dn (h : Hp (n + 1) e) : DnI n (swpE e 0 n) 0 := by
 refine ⟨fun k hk0 hk hkp => ?_, fun h0 => absurd h0 (Nat.lt_irrefl _)⟩
 rw [swpE_o (by omega) (by omega), swpE_o hkp (by omega)]
 exact h k hk0 (by omega)
theorem hp_min (h : Hp n e) : ∀ k, k < n → ¬ elt (e k) (e 0) := by
 intro k
 induction k using Nat.strongRecOn with
 | _ k ih => {
 intro hk
 by_cases h0 : k = 0
 · subst h0; exact elt_irrefl _
 · exact nelt_trans (h k (by omega) hk) (ih ((k - 1) / 2) (by omega) (by omega))
 }
end
structure PlOK (slots n : Nat) (e : Nat → Nat × Int) (pl : Nat → Nat) : Prop where
  lt : ∀ p, p < n → (e p).1 < slots
  at_ : ∀ p, p < n → pl (e p).1 = p + 1
  inv : ∀ i, pl i ≠ 0 → ∃ p, p < n ∧ (e p).1 = i
section
variable {slots n p q : Nat} {e : Nat → Nat × Int} {pl : Nat → Nat}
def updP (pl : Nat → Nat) (i x : Nat) : Nat → Nat := fun k => if k = i then x else pl k
theorem updP_same (pl : Nat → Nat) (i x : Nat) : updP pl i x i = x := by simp [updP]
theorem updP_other {pl : Nat → Nat} {i x k : Nat} (h : k ≠ i) : updP pl i x k = pl k := by simp [updP, h]
theorem PlOK.inj (h : PlOK slots n e pl) (hp : p < n) (hq : q < n) (he : (e p).1 = (e q).1) : p = q := by
 have h1 := h.at_ p hp
 have h2 := h.at_ q hq
 rw [he, h2] at h1; omega
theorem PlOK.le (h : PlOK slots n e pl) : n ≤ slots := by
 have hnd : ((List.range n).map fun p => (e p).1).Nodup := by {
 rw [List.nodup_iff_pairwise_ne, List.pairwise_map]
 refine (List.nodup_range (n := n)).imp_of_mem (fun {a b} ha hb hne he => hne ?_)
 exact h.inj (by simpa using ha) (by simpa using hb) he
 }
 have hp : ((List.range slots).filter fun i => decide (i ∈ (List.range n).map fun p => (e p).1)).Perm ((List.range n).map fun p => (e p).1) := by {
 rw [List.perm_ext_iff_of_nodup (List.filter_sublist.nodup List.nodup_range) hnd]
 intro i
 simp only [List.mem_filter, List.mem_range, decide_eq_true_eq, and_iff_right_iff_imp, List.mem_map]
 rintro ⟨p, hp, rfl⟩
 exact h.lt p hp
 }
 have h1 := hp.length_eq
 have h2 := List.length_filter_le (fun i => decide (i ∈ (List.range n).map fun p => (e p).1)) (List.range slots)
 simp at h1 h2
 omega
theorem PlOK.swap (h : PlOK slots n e pl) (hp : p < n) (hq : q < n) : PlOK slots n (swpE e p q) (updP (updP pl (e q).1 (p + 1)) (e p).1 (q + 1)) := by
 refine ⟨fun x hx => ?_, fun x hx => ?_, fun i hi => ?_⟩
 {
 by_cases h1 : x = p
 · rw [h1, swpE_p]; exact h.lt q hq
 {
 by_cases h2 : x = q
 · rw [h2, swpE_q]; exact h.lt p hp
 · rw [swpE_o h1 h2]; exact h.lt x hx
 }
 }
 {
 by_cases h2 : x = q
 · rw [h2, swpE_q, updP_same]
 {
 by_cases h1 : x = p
 {
 subst h1
 rw [swpE_p, updP_other (fun e1 => h2 (h.inj hx hq e1.symm)), updP_same]
 }
 {
 rw [swpE_o h1 h2, updP_other (fun e1 => h1 (h.inj hx hp e1)), updP_other (fun e1 => h2 (h.inj hx hq e1))]
 exact h.at_ x hx
 }
 }
 }
 {
 by_cases h1 : i = (e p).1
 · exact ⟨q, hq, by rw [swpE_q, h1]⟩
 {
 rw [updP_other h1] at hi
 by_cases h2 : i = (e q).1
 · exact ⟨p, hp, by rw [swpE_p, h2]⟩
 {
 rw [updP_other h2] at hi
 obtain ⟨x, hx, rfl⟩ := h.inv i hi
 refine ⟨x, hx, ?_⟩
 rw [swpE_o (fun e1 => h1 (by rw [e1])) (fun e1 => h2 (by rw [e1]))]
 }
 }
 }
theorem PlOK.push (h : PlOK slots n e pl) {i : Nat} {k : Int} (hi : i < slots) (h0 : pl i = 0) : PlOK slots (n + 1) (updE e n (i, k)) (updP pl i (n + 1)) := by
 refine ⟨fun x hx => ?_, fun x hx => ?_, fun j hj => ?_⟩
 {
 by_cases h1 : x = n
 · rw [h1, updE_same]; exact hi
 · rw [updE_other h1]; exact h.lt x (by omega)
 }
 {
 by_cases h1 : x = n
 · rw [h1, updE_same, updP_same]
 {
 rw [updE_other h1]
 have hx' := h.at_ x (by omega)
 rw [updP_other (fun e1 => by rw [e1, h0] at hx'; omega)]; exact hx'
 }
 }
 {
 by_cases h1 : j = i
 · exact ⟨n, by omega, by rw [updE_same, h1]⟩
 {
 rw [updP_other h1] at hj
 obtain ⟨x, hx, rfl⟩ := h.inv j hj
 exact ⟨x, by omega, by rw [updE_other (by omega)]⟩
 }
 }
theorem PlOK.pop (h : PlOK slots (n + 1) e pl) : PlOK slots n e (updP pl (e n).1 0) := by
 refine ⟨fun x hx => h.lt x (by omega), fun x hx => ?_, fun j hj => ?_⟩
 {
 rw [updP_other (fun e1 => by have := h.inj (by omega : x < n + 1) (by omega : n < n + 1) e1; omega)]
 exact h.at_ x (by omega)
 }
 {
 by_cases h1 : j = (e n).1
 · rw [h1, updP_same] at hj; exact absurd rfl hj
 {
 rw [updP_other h1] at hj
 obtain ⟨x, hx, rfl⟩ := h.inv j hj
 refine ⟨x, ?_, rfl⟩
 by_cases e1 : x = n
 · subst e1; exact absurd rfl h1
 · omega
 }
 }
end
end Go.Proofs.YtgmnemndjjmgkaaGreat
