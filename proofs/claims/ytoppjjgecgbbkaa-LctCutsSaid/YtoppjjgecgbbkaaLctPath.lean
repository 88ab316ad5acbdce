/- lct: paths of a forest, and how many vertices hang from a top path. -/
import Derived.Test.YtoppjjgecgbbkaaLctOps
namespace Go.Proofs.Ytoppjjgecgbbkaa
open Go.RowKit

def Wk (E : Nat → Nat → Prop) : Nat → List Nat → Prop
  | _, [] => True
  | a, x :: l => E a x ∧ Wk E x l
/-- A path from a to b that repeats no vertex. -/
def IsPath (E : Nat → Nat → Prop) (a b : Nat) (p : List Nat) : Prop := ∃ l, p = a :: l ∧ Wk E a l ∧ p.Nodup ∧ p.getLast? = some b

theorem wk_ne {par : Nat → Nat} : ∀ {a : Nat} {l : List Nat}, Wk (Adj par) a l → ∀ x ∈ l, x ≠ 0
  | a, y :: l, ⟨h1, h2⟩, x, hx => by
    rcases List.mem_cons.1 hx with rfl | hx
    · exact h1.2.1
    · exact wk_ne h2 x hx
theorem wk_mono {E E' : Nat → Nat → Prop} (h : ∀ x y, E x y → E' x y) : ∀ {a : Nat} {l : List Nat}, Wk E a l → Wk E' a l
  | _, [], _ => trivial
  | _, _y :: _l, ⟨h1, h2⟩ => ⟨h _ _ h1, wk_mono h h2⟩
theorem IsPath.mono {E E' : Nat → Nat → Prop} (h : ∀ x y, E x y → E' x y) {a b : Nat} {p : List Nat} (hp : IsPath E a b p) : IsPath E' a b p := by
  obtain ⟨l, h1, h2, h3, h4⟩ := hp
  exact ⟨l, h1, wk_mono h h2, h3, h4⟩
theorem ch_wk {par : Nat → Nat} : ∀ {a : Nat} {l : List Nat}, a ≠ 0 → (∀ x ∈ l, x ≠ 0) → Ch par a l → Wk (Adj par) a l
  | _, [], _, _, _ => trivial
  | a, y :: l, ha, hn, ⟨h1, h2⟩ => ⟨⟨ha, hn y (by simp), .inr h1⟩, ch_wk (hn y (by simp)) (fun x hx => hn x (by simp [hx])) h2⟩
theorem wk_ch {par : Nat → Nat} : ∀ {a : Nat} {l : List Nat}, Wk (Adj par) a l → (a :: l).Nodup → par a ∉ l → Ch par a l
  | _, [], _, _, _ => trivial
  | a, y :: l, ⟨h1, h2⟩, hn, hp => by
    have hy : par y = a := by
      rcases h1.2.2 with e | e
      · exact absurd (by rw [e]; simp) hp
      · exact e
    have hn2 := List.nodup_cons.1 hn
    exact ⟨hy, wk_ch h2 hn2.2 (by rw [hy]; exact fun e => hn2.1 (by simp [e]))⟩
theorem ch_unique {par : Nat → Nat} {b : Nat} : ∀ (n : Nat) (S T : List Nat), S.length ≤ n → Ch par 0 (S ++ [b]) → Ch par 0 (T ++ [b]) → (∀ x ∈ S, x ≠ 0) → (∀ x ∈ T, x ≠ 0) → S = T := by
  intro n
  induction n generalizing b with
  | zero =>
    intro S T hn hS hT _ hz
    obtain rfl : S = [] := List.length_eq_zero_iff.1 (by omega)
    rcases List.eq_nil_or_concat T with rfl | ⟨T', z, rfl⟩
    · rfl
    · rw [List.concat_eq_append, List.append_assoc] at hT
      have h1 : par b = z := (ch_mid.1 hT).2.1
      have h2 : par b = 0 := hS.1
      exact absurd (h1.symm.trans h2) (hz z (by simp))
  | succ n ih =>
    intro S T hn hS hT hzS hzT
    rcases List.eq_nil_or_concat T with rfl | ⟨T', z, rfl⟩
    · rcases List.eq_nil_or_concat S with rfl | ⟨S', y, rfl⟩
      · rfl
      · rw [List.concat_eq_append, List.append_assoc] at hS
        have h1 : par b = y := (ch_mid.1 hS).2.1
        have h2 : par b = 0 := hT.1
        exact absurd (h1.symm.trans h2) (hzS y (by simp))
    · rcases List.eq_nil_or_concat S with rfl | ⟨S', y, rfl⟩
      · rw [List.concat_eq_append, List.append_assoc] at hT
        have h1 : par b = z := (ch_mid.1 hT).2.1
        have h2 : par b = 0 := hS.1
        exact absurd (h1.symm.trans h2) (hzT z (by simp))
      · rw [List.concat_eq_append, List.append_assoc] at hS hT
        have h1 : par b = y := (ch_mid.1 hS).2.1
        have h2 : par b = z := (ch_mid.1 hT).2.1
        obtain rfl : y = z := h1.symm.trans h2
        have := ih S' T' (by simp at hn; omega) (ch_mid.1 hS).1 (ch_mid.1 hT).1 (fun x hx => hzS x (by simp [hx])) (fun x hx => hzT x (by simp [hx]))
        rw [this]

section
variable {par d rt : Nat → Nat}
theorem Rtd.reroot_at (h : Rtd par d rt) {a : Nat} (ha : a ≠ 0) : ∃ par' d' rt', Rtd par' d' rt' ∧ (∀ x y, Adj par' x y ↔ Adj par x y) ∧ (∀ x y, rt' x = rt' y ↔ rt x = rt y) ∧ rt' a = a ∧ par' a = 0 := by
  obtain ⟨S, h1, h2, h3, _⟩ := h.chain (d a) a (Nat.le_refl _) ha
  obtain ⟨par', d', rt', a1, _, _, a4, a5, a6, a7⟩ := reroot h h2 h3 h1
  exact ⟨par', d', rt', a1, a4, a5, a6, a7⟩

theorem getLast_snoc {l : List Nat} {b : Nat} (h : l.getLast? = some b) : ∃ S, l = S ++ [b] := by
  rcases List.eq_nil_or_concat l with rfl | ⟨S, x, rfl⟩
  · simp at h
  · simp at h; subst h; exact ⟨S, by simp⟩

theorem Rtd.unique (h : Rtd par d rt) {a b : Nat} (ha : a ≠ 0) {p q : List Nat} (hp : IsPath (Adj par) a b p) (hq : IsPath (Adj par) a b q) : p = q := by
  obtain ⟨par', d', rt', h', hadj, _, _, hpa⟩ := h.reroot_at ha
  have key : ∀ {p : List Nat}, IsPath (Adj par) a b p → ∃ S, p = S ++ [b] ∧ Ch par' 0 p ∧ ∀ x ∈ p, x ≠ 0 := by
    intro p hp
    obtain ⟨l, rfl, h2, h3, h4⟩ := hp.mono (fun x y => (hadj x y).2)
    obtain ⟨S, hS⟩ := getLast_snoc h4
    have hn := wk_ne h2
    refine ⟨S, hS, ⟨hpa, wk_ch h2 h3 (by rw [hpa]; exact fun e => hn 0 e rfl)⟩, fun x hx => ?_⟩
    rcases List.mem_cons.1 hx with rfl | hx
    · exact ha
    · exact hn x hx
  obtain ⟨S, e1, c1, n1⟩ := key hp
  obtain ⟨T, e2, c2, n2⟩ := key hq
  rw [e1] at c1 n1; rw [e2] at c2 n2
  rw [e1, e2, ch_unique S.length S T (Nat.le_refl _) c1 c2 (fun x hx => n1 x (by simp [hx])) (fun x hx => n2 x (by simp [hx]))]

theorem wk_rt (h : Rtd par d rt) : ∀ {a : Nat} {l : List Nat}, Wk (Adj par) a l → ∀ x ∈ a :: l, rt x = rt a
  | a, [], _, x, hx => by simp at hx; rw [hx]
  | a, y :: l, ⟨h1, h2⟩, x, hx => by
    rcases List.mem_cons.1 hx with rfl | hx
    · rfl
    · rw [wk_rt h h2 x hx, h.adj h1]
theorem Rtd.conn (h : Rtd par d rt) {a b : Nat} (ha : a ≠ 0) (hb : b ≠ 0) : (∃ p, IsPath (Adj par) a b p) ↔ rt a = rt b := by
  constructor
  · rintro ⟨p, l, rfl, h2, _, h4⟩
    exact (wk_rt h h2 b (List.mem_of_getLast? h4)).symm
  · intro e
    obtain ⟨par', d', rt', h', hadj, hrt, hra, hpa⟩ := h.reroot_at ha
    obtain ⟨S, c1, c2, c3, _⟩ := h'.chain (d' b) b (Nat.le_refl _) hb
    have e' : rt' b = a := by rw [← (hrt a b).2 e, hra]
    cases hS : S ++ [b] with
    | nil => simp at hS
    | cons y l =>
      have hbm : b ∈ y :: l := by rw [← hS]; simp
      rw [hS] at c1 c2 c3
      have hy : y = a := by rw [← ch_rt_head h'.rt0 h'.rt1 c1 c3 b hbm, e']
      subst hy
      have : IsPath (Adj par') y b (y :: l) := ⟨l, rfl, ch_wk ha (fun x hx => c3 x (by simp [hx])) c1.2, c2, by rw [← hS]; simp⟩
      exact ⟨_, this.mono (fun x y => (hadj x y).1)⟩
end

/-- What a top path with all that hangs from it counts. -/
def Cong (x y : Int) : Prop := ∃ k : Int, x = y + k * 18446744073709551616
theorem Cong.wrap {x y : Int} (h : Cong x y) : wrap64 x = wrap64 y := by obtain ⟨k, rfl⟩ := h; unfold wrap64; omega
theorem cong_wrap (x : Int) : Cong (wrap64 x) x := ⟨-((x + 9223372036854775808) / 18446744073709551616), by unfold wrap64; omega⟩

def fsum (f : Nat → Int) (l : List Nat) : Int := (l.map f).sum
theorem fsum_cons (f : Nat → Int) (x : Nat) (l : List Nat) : fsum f (x :: l) = f x + fsum f l := by simp [fsum]
theorem fsum_add (f g : Nat → Int) (l : List Nat) : fsum (fun x => f x + g x) l = fsum f l + fsum g l := by
  induction l with
  | nil => rfl
  | cons x l ih => simp only [fsum_cons, ih]; omega
theorem fsum_zero (l : List Nat) : fsum (fun _ => 0) l = 0 := by
  induction l with
  | nil => rfl
  | cons x l ih => simp only [fsum_cons, ih]; omega
theorem fsum_cong {f g : Nat → Int} : ∀ {l : List Nat}, (∀ x ∈ l, Cong (f x) (g x)) → Cong (fsum f l) (fsum g l)
  | [], _ => ⟨0, by simp [fsum]⟩
  | x :: l, h => by
    obtain ⟨k, hk⟩ := h x (by simp)
    obtain ⟨m, hm⟩ := fsum_cong (l := l) (fun y hy => h y (by simp [hy]))
    exact ⟨k + m, by rw [fsum_cons, fsum_cons, hk, hm]; omega⟩
theorem fsum_pick (v : Nat) (c : Int) : ∀ {l : List Nat}, l.Nodup → fsum (fun y => if v = y then c else 0) l = if v ∈ l then c else 0
  | [], _ => by simp [fsum]
  | x :: l, h => by
    have hn := List.nodup_cons.1 h
    rw [fsum_cons, fsum_pick v c hn.2]
    by_cases e : v = x
    · subst e; simp [hn.1]
    · simp [e]
theorem tot_fsum (σ : Tbl) (l : List Nat) : tot σ l = (l.length : Int) + fsum (fun x => (σ x).light) l := by
  unfold tot fsum
  induction l with
  | nil => rfl
  | cons x l ih => simp only [List.map_cons, List.sum_cons, List.length_cons, ih]; omega
theorem tot_append (σ : Tbl) (l m : List Nat) : tot σ (l ++ m) = tot σ l + tot σ m := by simp [tot]

def psum (f : BT × Nat → Int) : Fst → Int
  | [] => 0
  | p :: F => f p + psum f F
theorem psum_congr {f g : BT × Nat → Int} : ∀ {F : Fst}, (∀ p ∈ F, f p = g p) → psum f F = psum g F
  | [], _ => rfl
  | p :: F, h => by simp only [psum]; rw [h p (by simp), psum_congr (fun q hq => h q (by simp [hq]))]
theorem psum_filter (σ : Tbl) (C : Nat → Bool) : ∀ F : Fst, psum (fun p => tot σ (p.1.nodes.filter C)) F = tot σ ((fnodes F).filter C)
  | [] => by simp [psum, fnodes, tot]
  | p :: F => by simp only [psum]; rw [psum_filter σ C F, fnodes_cons, List.filter_append, tot_append]
theorem fsum_lsum (σ : Tbl) {l : List Nat} (hl : l.Nodup) : ∀ F : Fst, fsum (lsum σ F) l = psum (fun p => if p.2 ∈ l then tot σ p.1.nodes else 0) F
  | [] => by show fsum (fun _ => 0) l = 0; exact fsum_zero l
  | p :: F => by
    show fsum (fun v => (if p.2 = v then tot σ p.1.nodes else 0) + lsum σ F v) l = _
    rw [fsum_add, fsum_pick p.2 _ hl]
    show _ + fsum (lsum σ F) l = _
    rw [fsum_lsum σ hl F]; rfl

section
variable {N : Nat} {σ : Tbl} {R : Fst} {par d rt : Nat → Nat} {t : BT}
theorem LF.size (h : LF N σ ((t, 0) :: R) par d rt) {x : Nat} (hx : x ∈ t.nodes) : wrap64 (tot σ t.nodes) = wrap64 (((fnodes ((t, 0) :: R)).filter (fun y => rt y = rt x)).length : Nat) := by
  have m1 : (t, 0) ∈ (t, 0) :: R := by simp
  obtain ⟨C, hC⟩ : ∃ C : Nat → Bool, C = fun y => decide (rt y = rt x) := ⟨_, rfl⟩
  have hCC : ∀ y, C y = true ↔ rt y = rt x := fun y => by rw [hC]; simp
  show wrap64 _ = wrap64 (((fnodes ((t, 0) :: R)).filter (fun y => decide (rt y = rt x))).length : Nat)
  rw [← hC]
  have e1 := psum_filter σ C ((t, 0) :: R)
  rw [tot_fsum] at e1
  generalize hl : (fnodes ((t, 0) :: R)).filter C = l at *
  have hln : l.Nodup := by rw [← hl]; exact h.nd.filter _
  have e2 : Cong (fsum (fun y => (σ y).light) l) (fsum (lsum σ ((t, 0) :: R)) l) := fsum_cong (fun y hy => by
    rw [← hl, List.mem_filter] at hy
    have := (h.mem y).1 hy.1
    rw [h.light y this.1 this.2]; exact cong_wrap _)
  rw [fsum_lsum σ hln] at e2
  have h0 : (0 : Nat) ∉ l := by
    rw [← hl, List.mem_filter]; intro e
    have := ((h.mem 0).1 e.1).1; omega
  have et : t.nodes.filter C = t.nodes := List.filter_eq_self.2 (fun y hy => (hCC y).2 ((h.same m1).1 y hy x hx))
  have eR : psum (fun p => tot σ (p.1.nodes.filter C)) R = psum (fun p => if p.2 ∈ l then tot σ p.1.nodes else 0) R := by
    refine psum_congr (fun p hp => ?_)
    have mp : p ∈ (t, 0) :: R := by simp [hp]
    have none : (∀ y ∈ p.1.nodes, C y = false) → tot σ (p.1.nodes.filter C) = 0 := by
      intro hy
      rw [List.filter_eq_nil_iff.2 (fun y h => by simp [hy y h])]; rfl
    by_cases e0 : p.2 = 0
    · rw [e0, if_neg h0]
      refine none (fun y hy => ?_)
      apply Classical.byContradiction
      intro hc
      have hry : rt y = rt x := (hCC y).1 (by simpa using hc)
      -- two top paths of one tree have the same first vertex
      have c1 := h.ch _ m1
      have c2 := h.ch _ mp
      rw [e0] at c2
      have z1 := h.seq0 m1
      have z2 := h.seq0 mp
      have sx := seq_mem.2 hx
      have sy := seq_mem.2 hy
      have hdis := h.disj hp
      cases hs1 : t.seq with
      | nil => rw [hs1] at sx; cases sx
      | cons a s1 =>
        cases hs2 : p.1.seq with
        | nil => rw [hs2] at sy; cases sy
        | cons b s2 =>
          dsimp only at c1 z1
          rw [hs1] at c1 z1 sx; rw [hs2] at c2 z2 sy
          have ra := ch_rt_head h.rt0 h.rt1 c1 z1 x sx
          have rb := ch_rt_head h.rt0 h.rt1 c2 z2 y sy
          have hab : a = b := by rw [← ra, ← hry, rb]
          exact hdis a (seq_mem.1 (by rw [hs1]; simp)) (seq_mem.1 (by rw [hs2, hab]; simp))
    · have hu := (h.same mp).2 e0
      have hul : p.2 ∈ l ↔ rt p.2 = rt x := by
        rw [← hl, List.mem_filter, hCC]
        exact ⟨fun e => e.2, fun e => ⟨(h.mem _).2 ⟨by omega, h.up p mp⟩, e⟩⟩
      by_cases hcu : rt p.2 = rt x
      · rw [if_pos (hul.2 hcu), List.filter_eq_self.2 (fun y hy => (hCC y).2 ((hu y hy).trans hcu))]
      · rw [if_neg (fun e => hcu (hul.1 e))]
        refine none (fun y hy => ?_)
        apply Classical.byContradiction
        intro hc
        exact hcu ((hu y hy).symm.trans ((hCC y).1 (by simpa using hc)))
  simp only [psum, if_neg h0] at e1 e2
  rw [et, eR] at e1
  refine Cong.wrap ?_
  obtain ⟨k, hk⟩ := e2
  exact ⟨k, by omega⟩
end

/-- The forest without edges. -/
theorem LF.new (n : Nat) (σ : Tbl) (h0 : (σ 0).total = 0 ∧ (σ 0).k0 = 0 ∧ (σ 0).k1 = 0 ∧ (σ 0).up = 0 ∧ (σ 0).first = 0)
    (h1 : ∀ x, 0 < x → x < n + 1 → (σ x).k0 = 0 ∧ (σ x).k1 = 0 ∧ (σ x).up = 0 ∧ (σ x).flip = false ∧ (σ x).size = 1 ∧ (σ x).first = x ∧ (σ x).light = 0 ∧ (σ x).total = 1) :
    LF (n + 1) σ ((List.range n).map fun v => (.node false .nil (v + 1) .nil, 0)) (fun _ => 0) (fun _ => 0) id := by
  have hfn : fnodes ((List.range n).map fun v => (BT.node false .nil (v + 1) .nil, 0)) = (List.range n).map (· + 1) := by
    unfold fnodes
    rw [List.flatMap_map]
    simp [BT.nodes]
    rw [← List.map_eq_flatMap]
  refine ⟨fun p hp => ?_, ?_, fun x => ?_, fun p hp => ?_, fun p hp => ?_, fun x hx => absurd rfl hx, fun _ _ => rfl, fun _ _ => rfl, fun x hx => absurd rfl hx, fun v hv1 hv2 => ?_, h0, by omega⟩
  · obtain ⟨v, hv, rfl⟩ := List.mem_map.1 hp
    have hv := List.mem_range.1 hv
    obtain ⟨a1, a2, a3, a4, a5, a6, a7, a8⟩ := h1 (v + 1) (by omega) (by omega)
    refine ⟨⟨by omega, a3, a4, a1, a2⟩, trivial, trivial, ?_, ?_, ?_⟩
    · rw [a5]; simp [BT.nodes, wrap64]
    · rw [a8]; simp [BT.nodes, tot, a7, wrap64]
    · rw [a6]; simp [BT.nodes, IsBest]
  · rw [hfn]
    exact List.pairwise_map.2 (List.nodup_range.imp (fun {a b} hab => by omega))
  · rw [hfn]
    simp only [List.mem_map, List.mem_range]
    constructor
    · rintro ⟨v, hv, rfl⟩; omega
    · intro h; exact ⟨x - 1, by omega, by omega⟩
  · obtain ⟨v, hv, rfl⟩ := List.mem_map.1 hp
    show 0 < n + 1; omega
  · obtain ⟨v, hv, rfl⟩ := List.mem_map.1 hp
    simp [BT.seq, Ch]
  · have hl : ∀ F : Fst, (∀ p ∈ F, p.2 = 0) → lsum σ F v = 0 := by
      intro F hF
      induction F with
      | nil => rfl
      | cons p F ih =>
        simp only [lsum]
        rw [ih (fun q hq => hF q (by simp [hq])), hF p (by simp), if_neg (by omega)]; rfl
    rw [hl _ (fun p hp => by obtain ⟨v, _, rfl⟩ := List.mem_map.1 hp; rfl), (h1 v hv1 hv2).2.2.2.2.2.2.1]
    simp [wrap64]

end Go.Proofs.Ytoppjjgecgbbkaa
