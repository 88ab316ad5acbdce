/- lct: Size, Trees, Dist. -/
import Derived.Test.YtoppjjgecgbbkaaLctCutsZ5
/- lct: paths of a forest, and how many vertices hang from a top path. -/
namespace Go.Proofs.Ytoppjjgecgbbkaa
open Go.RowKit

def Wk (E : Nat → Nat → Prop) : Nat → List Nat → Prop
  | _, [] => True
  | a, x :: l => E a x ∧ Wk E x l
/-- A path from a to b that repeats no vertex. -/
def IsPath (E : Nat → Nat → Prop) (a b : Nat) (p : List Nat) : Prop := ∃ l, p = a :: l ∧ Wk E a l ∧ p.Nodup ∧ p.getLast? = some b

theorem wk_ne {par : Nat → Nat} : ∀ {a : Nat} {l : List Nat}, Wk (Adj par) a l → ∀ x ∈ l, x ≠ 0
  | a, y :: l, ⟨h1, h2⟩, x, hx => by
    rcases List.mem_cons.1 hx with rfl | hx
    · exact h1.2.1
    · exact wk_ne h2 x hx
theorem wk_mono {E E' : Nat → Nat → Prop} (h : ∀ x y, E x y → E' x y) : ∀ {a : Nat} {l : List Nat}, Wk E a l → Wk E' a l
  | _, [], _ => trivial
  | _, _y :: _l, ⟨h1, h2⟩ => ⟨h _ _ h1, wk_mono h h2⟩
theorem IsPath.mono {E E' : Nat → Nat → Prop} (h : ∀ x y, E x y → E' x y) {a b : Nat} {p : List Nat} (hp : IsPath E a b p) : IsPath E' a b p := by
  obtain ⟨l, h1, h2, h3, h4⟩ := hp
  exact ⟨l, h1, wk_mono h h2, h3, h4⟩
theorem ch_wk {par : Nat → Nat} : ∀ {a : Nat} {l : List Nat}, a ≠ 0 → (∀ x ∈ l, x ≠ 0) → Ch par a l → Wk (Adj par) a l
  | _, [], _, _, _ => trivial
  | a, y :: l, ha, hn, ⟨h1, h2⟩ => ⟨⟨ha, hn y (by simp), .inr h1⟩, ch_wk (hn y (by simp)) (fun x hx => hn x (by simp [hx])) h2⟩
theorem wk_ch {par : Nat → Nat} : ∀ {a : Nat} {l : List Nat}, Wk (Adj par) a l → (a :: l).Nodup → par a ∉ l → Ch par a l
  | _, [], _, _, _ => trivial
  | a, y :: l, ⟨h1, h2⟩, hn, hp => by
    have hy : par y = a := by
      rcases h1.2.2 with e | e
      · exact absurd (by rw [e]; simp) hp
      · exact e
    have hn2 := List.nodup_cons.1 hn
    exact ⟨hy, wk_ch h2 hn2.2 (by rw [hy]; exact fun e => hn2.1 (by simp [e]))⟩
theorem ch_unique {par : Nat → Nat} {b : Nat} : ∀ (n : Nat) (S T : List Nat), S.length ≤ n → Ch par 0 (S ++ [b]) → Ch par 0 (T ++ [b]) → (∀ x ∈ S, x ≠ 0) → (∀ x ∈ T, x ≠ 0) → S = T := by
  intro n
  induction n generalizing b with
  | zero =>
    intro S T hn hS hT _ hz
    obtain rfl : S = [] := List.length_eq_zero_iff.1 (by omega)
    rcases List.eq_nil_or_concat T with rfl | ⟨T', z, rfl⟩
    · rfl
    · rw [List.concat_eq_append, List.append_assoc] at hT
      have h1 : par b = z := (ch_mid.1 hT).2.1
      have h2 : par b = 0 := hS.1
      exact absurd (h1.symm.trans h2) (hz z (by simp))
  | succ n ih =>
    intro S T hn hS hT hzS hzT
    rcases List.eq_nil_or_concat T with rfl | ⟨T', z, rfl⟩
    · rcases List.eq_nil_or_concat S with rfl | ⟨S', y, rfl⟩
      · rfl
      · rw [List.concat_eq_append, List.append_assoc] at hS
        have h1 : par b = y := (ch_mid.1 hS).2.1
        have h2 : par b = 0 := hT.1
        exact absurd (h1.symm.trans h2) (hzS y (by simp))
    · rcases List.eq_nil_or_concat S with rfl | ⟨S', y, rfl⟩
      · rw [List.concat_eq_append, List.append_assoc] at hT
        have h1 : par b = z := (ch_mid.1 hT).2.1
        have h2 : par b = 0 := hS.1
        exact absurd (h1.symm.trans h2) (hzT z (by simp))
      · rw [List.concat_eq_append, List.append_assoc] at hS hT
        have h1 : par b = y := (ch_mid.1 hS).2.1
        have h2 : par b = z := (ch_mid.1 hT).2.1
        obtain rfl : y = z := h1.symm.trans h2
        have := ih S' T' (by simp at hn; omega) (ch_mid.1 hS).1 (ch_mid.1 hT).1 (fun x hx => hzS x (by simp [hx])) (fun x hx => hzT x (by simp [hx]))
        rw [this]

section
variable {par d rt : Nat → Nat}
theorem Rtd.reroot_at (h : Rtd par d rt) {a : Nat} (ha : a ≠ 0) : ∃ par' d' rt', Rtd par' d' rt' ∧ (∀ x y, Adj par' x y ↔ Adj par x y) ∧ (∀ x y, rt' x = rt' y ↔ rt x = rt y) ∧ rt' a = a ∧ par' a = 0 := by
  obtain ⟨S, h1, h2, h3, _⟩ := h.chain (d a) a (Nat.le_refl _) ha
  obtain ⟨par', d', rt', a1, _, _, a4, a5, a6, a7⟩ := reroot h h2 h3 h1
  exact ⟨par', d', rt', a1, a4, a5, a6, a7⟩

theorem getLast_snoc {l : List Nat} {b : Nat} (h : l.getLast? = some b) : ∃ S, l = S ++ [b] := by
  rcases List.eq_nil_or_concat l with rfl | ⟨S, x, rfl⟩
  · simp at h
  · simp at h; subst h; exact ⟨S, by simp⟩

theorem Rtd.unique (h : Rtd par d rt) {a b : Nat} (ha : a ≠ 0) {p q : List Nat} (hp : IsPath (Adj par) a b p) (hq : IsPath (Adj par) a b q) : p = q := by
  obtain ⟨par', d', rt', h', hadj, _, _, hpa⟩ := h.reroot_at ha
  have key : ∀ {p : List Nat}, IsPath (Adj par) a b p → ∃ S, p = S ++ [b] ∧ Ch par' 0 p ∧ ∀ x ∈ p, x ≠ 0 := by
    intro p hp
    obtain ⟨l, rfl, h2, h3, h4⟩ := hp.mono (fun x y => (hadj x y).2)
    obtain ⟨S, hS⟩ := getLast_snoc h4
    have hn := wk_ne h2
    refine ⟨S, hS, ⟨hpa, wk_ch h2 h3 (by rw [hpa]; exact fun e => hn 0 e rfl)⟩, fun x hx => ?_⟩
    rcases List.mem_cons.1 hx with rfl | hx
    · exact ha
    · exact hn x hx
  obtain ⟨S, e1, c1, n1⟩ := key hp
  obtain ⟨T, e2, c2, n2⟩ := key hq
  rw [e1] at c1 n1; rw [e2] at c2 n2
  rw [e1, e2, ch_unique S.length S T (Nat.le_refl _) c1 c2 (fun x hx => n1 x (by simp [hx])) (fun x hx => n2 x (by simp [hx]))]

theorem wk_rt (h : Rtd par d rt) : ∀ {a : Nat} {l : List Nat}, Wk (Adj par) a l → ∀ x ∈ a :: l, rt x = rt a
  | a, [], _, x, hx => by simp at hx; rw [hx]
  | a, y :: l, ⟨h1, h2⟩, x, hx => by
    rcases List.mem_cons.1 hx with rfl | hx
    · rfl
    · rw [wk_rt h h2 x hx, h.adj h1]
theorem Rtd.conn (h : Rtd par d rt) {a b : Nat} (ha : a ≠ 0) (hb : b ≠ 0) : (∃ p, IsPath (Adj par) a b p) ↔ rt a = rt b := by
  constructor
  · rintro ⟨p, l, rfl, h2, _, h4⟩
    exact (wk_rt h h2 b (List.mem_of_getLast? h4)).symm
  · intro e
    obtain ⟨par', d', rt', h', hadj, hrt, hra, hpa⟩ := h.reroot_at ha
    obtain ⟨S, c1, c2, c3, _⟩ := h'.chain (d' b) b (Nat.le_refl _) hb
    have e' : rt' b = a := by rw [← (hrt a b).2 e, hra]
    cases hS : S ++ [b] with
    | nil => simp at hS
    | cons y l =>
      have hbm : b ∈ y :: l := by rw [← hS]; simp
      rw [hS] at c1 c2 c3
      have hy : y = a := by rw [← ch_rt_head h'.rt0 h'.rt1 c1 c3 b hbm, e']
      subst hy
      have : IsPath (Adj par') y b (y :: l) := ⟨l, rfl, ch_wk ha (fun x hx => c3 x (by simp [hx])) c1.2, c2, by rw [← hS]; simp⟩
      exact ⟨_, this.mono (fun x y => (hadj x y).1)⟩
end

/-- What a top path with all that hangs from it counts. -/
def Cong (x y : Int) : Prop := ∃ k : Int, x = y + k * 18446744073709551616
theorem Cong.wrap {x y : Int} (h : Cong x y) : wrap64 x = wrap64 y := by obtain ⟨k, rfl⟩ := h; unfold wrap64; omega
theorem cong_wrap (x : Int) : Cong (wrap64 x) x := ⟨-((x + 9223372036854775808) / 18446744073709551616), by unfold wrap64; omega⟩

def fsum (f : Nat → Int) (l : List Nat) : Int := (l.map f).sum
theorem fsum_cons (f : Nat → Int) (x : Nat) (l : List Nat) : fsum f (x :: l) = f x + fsum f l := by simp [fsum]
theorem fsum_add (f g : Nat → Int) (l : List Nat) : fsum (fun x => f x + g x) l = fsum f l + fsum g l := by
  induction l with
  | nil => rfl
  | cons x l ih => simp only [fsum_cons, ih]; omega
theorem fsum_zero (l : List Nat) : fsum (fun _ => 0) l = 0 := by
  induction l with
  | nil => rfl
  | cons x l ih => simp only [fsum_cons, ih]; omega
theorem fsum_cong {f g : Nat → Int} : ∀ {l : List Nat}, (∀ x ∈ l, Cong (f x) (g x)) → Cong (fsum f l) (fsum g l)
  | [], _ => ⟨0, by simp [fsum]⟩
  | x :: l, h => by
    obtain ⟨k, hk⟩ := h x (by simp)
    obtain ⟨m, hm⟩ := fsum_cong (l := l) (fun y hy => h y (by simp [hy]))
    exact ⟨k + m, by rw [fsum_cons, fsum_cons, hk, hm]; omega⟩
theorem fsum_pick (v : Nat) (c : Int) : ∀ {l : List Nat}, l.Nodup → fsum (fun y => if v = y then c else 0) l = if v ∈ l then c else 0
  | [], _ => by simp [fsum]
  | x :: l, h => by
    have hn := List.nodup_cons.1 h
    rw [fsum_cons, fsum_pick v c hn.2]
    by_cases e : v = x
    · subst e; simp [hn.1]
    · simp [e]
theorem tot_fsum (σ : Tbl) (l : List Nat) : tot σ l = (l.length : Int) + fsum (fun x => (σ x).light) l := by
  unfold tot fsum
  induction l with
  | nil => rfl
  | cons x l ih => simp only [List.map_cons, List.sum_cons, List.length_cons, ih]; omega
theorem tot_append (σ : Tbl) (l m : List Nat) : tot σ (l ++ m) = tot σ l + tot σ m := by simp [tot]

def psum (f : BT × Nat → Int) : Fst → Int
  | [] => 0
  | p :: F => f p + psum f F
theorem psum_congr {f g : BT × Nat → Int} : ∀ {F : Fst}, (∀ p ∈ F, f p = g p) → psum f F = psum g F
  | [], _ => rfl
  | p :: F, h => by simp only [psum]; rw [h p (by simp), psum_congr (fun q hq => h q (by simp [hq]))]
theorem psum_filter (σ : Tbl) (C : Nat → Bool) : ∀ F : Fst, psum (fun p => tot σ (p.1.nodes.filter C)) F = tot σ ((fnodes F).filter C)
  | [] => by simp [psum, fnodes, tot]
  | p :: F => by simp only [psum]; rw [psum_filter σ C F, fnodes_cons, List.filter_append, tot_append]
theorem fsum_lsum (σ : Tbl) {l : List Nat} (hl : l.Nodup) : ∀ F : Fst, fsum (lsum σ F) l = psum (fun p => if p.2 ∈ l then tot σ p.1.nodes else 0) F
  | [] => by show fsum (fun _ => 0) l = 0; exact fsum_zero l
  | p :: F => by
    show fsum (fun v => (if p.2 = v then tot σ p.1.nodes else 0) + lsum σ F v) l = _
    rw [fsum_add, fsum_pick p.2 _ hl]
    show _ + fsum (lsum σ F) l = _
    rw [fsum_lsum σ hl F]; rfl

section
variable {N : Nat} {σ : Tbl} {R : Fst} {par d rt : Nat → Nat} {t : BT}
theorem LF.size (h : LF N σ ((t, 0) :: R) par d rt) {x : Nat} (hx : x ∈ t.nodes) : wrap64 (tot σ t.nodes) = wrap64 (((fnodes ((t, 0) :: R)).filter (fun y => rt y = rt x)).length : Nat) := by
  have m1 : (t, 0) ∈ (t, 0) :: R := by simp
  obtain ⟨C, hC⟩ : ∃ C : Nat → Bool, C = fun y => decide (rt y = rt x) := ⟨_, rfl⟩
  have hCC : ∀ y, C y = true ↔ rt y = rt x := fun y => by rw [hC]; simp
  show wrap64 _ = wrap64 (((fnodes ((t, 0) :: R)).filter (fun y => decide (rt y = rt x))).length : Nat)
  rw [← hC]
  have e1 := psum_filter σ C ((t, 0) :: R)
  rw [tot_fsum] at e1
  generalize hl : (fnodes ((t, 0) :: R)).filter C = l at *
  have hln : l.Nodup := by rw [← hl]; exact h.nd.filter _
  have e2 : Cong (fsum (fun y => (σ y).light) l) (fsum (lsum σ ((t, 0) :: R)) l) := fsum_cong (fun y hy => by
    rw [← hl, List.mem_filter] at hy
    have := (h.mem y).1 hy.1
    rw [h.light y this.1 this.2]; exact cong_wrap _)
  rw [fsum_lsum σ hln] at e2
  have h0 : (0 : Nat) ∉ l := by
    rw [← hl, List.mem_filter]; intro e
    have := ((h.mem 0).1 e.1).1; omega
  have et : t.nodes.filter C = t.nodes := List.filter_eq_self.2 (fun y hy => (hCC y).2 ((h.same m1).1 y hy x hx))
  have eR : psum (fun p => tot σ (p.1.nodes.filter C)) R = psum (fun p => if p.2 ∈ l then tot σ p.1.nodes else 0) R := by
    refine psum_congr (fun p hp => ?_)
    have mp : p ∈ (t, 0) :: R := by simp [hp]
    have none : (∀ y ∈ p.1.nodes, C y = false) → tot σ (p.1.nodes.filter C) = 0 := by
      intro hy
      rw [List.filter_eq_nil_iff.2 (fun y h => by simp [hy y h])]; rfl
    by_cases e0 : p.2 = 0
    · rw [e0, if_neg h0]
      refine none (fun y hy => ?_)
      apply Classical.byContradiction
      intro hc
      have hry : rt y = rt x := (hCC y).1 (by simpa using hc)
      -- two top paths of one tree have the same first vertex
      have c1 := h.ch _ m1
      have c2 := h.ch _ mp
      rw [e0] at c2
      have z1 := h.seq0 m1
      have z2 := h.seq0 mp
      have sx := seq_mem.2 hx
      have sy := seq_mem.2 hy
      have hdis := h.disj hp
      cases hs1 : t.seq with
      | nil => rw [hs1] at sx; cases sx
      | cons a s1 =>
        cases hs2 : p.1.seq with
        | nil => rw [hs2] at sy; cases sy
        | cons b s2 =>
          dsimp only at c1 z1
          rw [hs1] at c1 z1 sx; rw [hs2] at c2 z2 sy
          have ra := ch_rt_head h.rt0 h.rt1 c1 z1 x sx
          have rb := ch_rt_head h.rt0 h.rt1 c2 z2 y sy
          have hab : a = b := by rw [← ra, ← hry, rb]
          exact hdis a (seq_mem.1 (by rw [hs1]; simp)) (seq_mem.1 (by rw [hs2, hab]; simp))
    · have hu := (h.same mp).2 e0
      have hul : p.2 ∈ l ↔ rt p.2 = rt x := by
        rw [← hl, List.mem_filter, hCC]
        exact ⟨fun e => e.2, fun e => ⟨(h.mem _).2 ⟨by omega, h.up p mp⟩, e⟩⟩
      by_cases hcu : rt p.2 = rt x
      · rw [if_pos (hul.2 hcu), List.filter_eq_self.2 (fun y hy => (hCC y).2 ((hu y hy).trans hcu))]
      · rw [if_neg (fun e => hcu (hul.1 e))]
        refine none (fun y hy => ?_)
        apply Classical.byContradiction
        intro hc
        exact hcu ((hu y hy).symm.trans ((hCC y).1 (by simpa using hc)))
  simp only [psum, if_neg h0] at e1 e2
  rw [et, eR] at e1
  refine Cong.wrap ?_
  obtain ⟨k, hk⟩ := e2
  exact ⟨k, by omega⟩
end

/-- The forest without edges. -/
theorem LF.new (n : Nat) (σ : Tbl) (h0 : (σ 0).total = 0 ∧ (σ 0).k0 = 0 ∧ (σ 0).k1 = 0 ∧ (σ 0).up = 0 ∧ (σ 0).first = 0)
    (h1 : ∀ x, 0 < x → x < n + 1 → (σ x).k0 = 0 ∧ (σ x).k1 = 0 ∧ (σ x).up = 0 ∧ (σ x).flip = false ∧ (σ x).size = 1 ∧ (σ x).first = x ∧ (σ x).light = 0 ∧ (σ x).total = 1) :
    LF (n + 1) σ ((List.range n).map fun v => (.node false .nil (v + 1) .nil, 0)) (fun _ => 0) (fun _ => 0) id := by
  have hfn : fnodes ((List.range n).map fun v => (BT.node false .nil (v + 1) .nil, 0)) = (List.range n).map (· + 1) := by
    unfold fnodes
    rw [List.flatMap_map]
    simp [BT.nodes]
    rw [← List.map_eq_flatMap]
  refine ⟨fun p hp => ?_, ?_, fun x => ?_, fun p hp => ?_, fun p hp => ?_, fun x hx => absurd rfl hx, fun _ _ => rfl, fun _ _ => rfl, fun x hx => absurd rfl hx, fun v hv1 hv2 => ?_, h0, by omega⟩
  · obtain ⟨v, hv, rfl⟩ := List.mem_map.1 hp
    have hv := List.mem_range.1 hv
    obtain ⟨a1, a2, a3, a4, a5, a6, a7, a8⟩ := h1 (v + 1) (by omega) (by omega)
    refine ⟨⟨by omega, a3, a4, a1, a2⟩, trivial, trivial, ?_, ?_, ?_⟩
    · rw [a5]; simp [BT.nodes, wrap64]
    · rw [a8]; simp [BT.nodes, tot, a7, wrap64]
    · rw [a6]; simp [BT.nodes, IsBest]
  · rw [hfn]
    exact List.pairwise_map.2 (List.nodup_range.imp (fun {a b} hab => by omega))
  · rw [hfn]
    simp only [List.mem_map, List.mem_range]
    constructor
    · rintro ⟨v, hv, rfl⟩; omega
    · intro h; exact ⟨x - 1, by omega, by omega⟩
  · obtain ⟨v, hv, rfl⟩ := List.mem_map.1 hp
    show 0 < n + 1; omega
  · obtain ⟨v, hv, rfl⟩ := List.mem_map.1 hp
    simp [BT.seq, Ch]
  · have hl : ∀ F : Fst, (∀ p ∈ F, p.2 = 0) → lsum σ F v = 0 := by
      intro F hF
      induction F with
      | nil => rfl
      | cons p F ih =>
        simp only [lsum]
        rw [ih (fun q hq => hF q (by simp [hq])), hF p (by simp), if_neg (by omega)]; rfl
    rw [hl _ (fun p hp => by obtain ⟨v, _, rfl⟩ := List.mem_map.1 hp; rfl), (h1 v hv1 hv2).2.2.2.2.2.2.1]
    simp [wrap64]

end Go.Proofs.Ytoppjjgecgbbkaa

/- lct: the forest over its vertices 0 .. n-1 (vertex v lies at the place v+1). -/
namespace Go.Proofs.Ytoppjjgecgbbkaa
open Go.RowKit

theorem last_snoc (l : List Nat) (x : Nat) : (l ++ [x]).getLast? = some x := by simp
theorem last_app (l m : List Nat) (x : Nat) : (l ++ x :: m).getLast? = (x :: m).getLast? := by
  rw [List.getLast?_append]
  cases h : (x :: m).getLast? with
  | none => rw [List.getLast?_eq_none_iff] at h; cases h
  | some y => rfl

def Conn (E : Nat → Nat → Prop) (a b : Nat) : Prop := ∃ p, IsPath E a b p

theorem wk_map {E : Nat → Nat → Prop} {par : Nat → Nat} (h : ∀ v u, E v u ↔ Adj par (v + 1) (u + 1)) : ∀ {a : Nat} {l : List Nat}, Wk E a l ↔ Wk (Adj par) (a + 1) (l.map (· + 1))
  | _, [] => Iff.rfl
  | a, x :: l => by simp only [Wk, List.map_cons]; rw [h, wk_map h]
theorem nodup_map_succ {l : List Nat} : (l.map (· + 1)).Nodup ↔ l.Nodup := by
  constructor
  · intro h; exact (List.pairwise_map.1 h).imp (fun {a b} hab e => hab (by rw [e]))
  · intro h; exact List.pairwise_map.2 (h.imp (fun {a b} hab => by omega))
theorem map_pred_succ {l : List Nat} (h : ∀ x ∈ l, x ≠ 0) : (l.map (· - 1)).map (· + 1) = l := by
  rw [List.map_map]
  refine (List.map_congr_left (fun x hx => ?_)).trans (List.map_id l)
  have := h x hx
  show x - 1 + 1 = id x
  simp; omega
theorem map_succ_pred (l : List Nat) : (l.map (· + 1)).map (· - 1) = l := by
  rw [List.map_map]
  exact (List.map_congr_left (fun x hx => by show x + 1 - 1 = id x; simp)).trans (List.map_id l)

theorem path_shift {E : Nat → Nat → Prop} {par : Nat → Nat} (h : ∀ v u, E v u ↔ Adj par (v + 1) (u + 1)) {v u : Nat} {p : List Nat} : IsPath E v u p ↔ IsPath (Adj par) (v + 1) (u + 1) (p.map (· + 1)) := by
  constructor
  · rintro ⟨l, rfl, h2, h3, h4⟩
    refine ⟨l.map (· + 1), rfl, (wk_map h).1 h2, nodup_map_succ.2 h3, ?_⟩
    rw [List.getLast?_map, h4]; rfl
  · rintro ⟨l, h1, h2, h3, h4⟩
    cases p with
    | nil => cases h1
    | cons x p =>
      simp only [List.map_cons, List.cons.injEq] at h1
      obtain ⟨e, rfl⟩ := h1
      obtain rfl : x = v := by omega
      refine ⟨p, rfl, (wk_map h).2 h2, nodup_map_succ.1 h3, ?_⟩
      rw [List.getLast?_map] at h4
      cases hl : (x :: p).getLast? with
      | none => rw [hl] at h4; cases h4
      | some y => rw [hl] at h4; simp at h4; rw [h4]
theorem path_unshift {E : Nat → Nat → Prop} {par : Nat → Nat} (h : ∀ v u, E v u ↔ Adj par (v + 1) (u + 1)) {v u : Nat} {q : List Nat} (hq : IsPath (Adj par) (v + 1) (u + 1) q) : IsPath E v u (q.map (· - 1)) ∧ (q.map (· - 1)).map (· + 1) = q := by
  have hn : ∀ x ∈ q, x ≠ 0 := by
    obtain ⟨l, rfl, h2, _⟩ := hq
    intro x hx
    rcases List.mem_cons.1 hx with rfl | hx
    · omega
    · exact wk_ne h2 x hx
  have e := map_pred_succ hn
  exact ⟨(path_shift h).2 (by rw [e]; exact hq), e⟩

/-- A forest. -/
def Frs (E : Nat → Nat → Prop) : Prop := ∃ par d rt, Rtd par d rt ∧ ∀ v u, E v u ↔ Adj par (v + 1) (u + 1)

section
variable {E : Nat → Nat → Prop} {a b c : Nat} {p q r : List Nat}
theorem Frs.symm (h : Frs E) {v u : Nat} (he : E v u) : E u v := by
  obtain ⟨par, d, rt, _, h2⟩ := h
  exact (h2 u v).2 ((h2 v u).1 he).symm
theorem Frs.irrefl (h : Frs E) (v : Nat) : ¬ E v v := by
  obtain ⟨par, d, rt, h1, h2⟩ := h
  exact fun e => h1.irrefl _ ((h2 v v).1 e)
theorem Frs.unique (h : Frs E) (hp : IsPath E a b p) (hq : IsPath E a b q) : p = q := by
  obtain ⟨par, d, rt, h1, h2⟩ := h
  have := h1.unique (by omega) ((path_shift h2).1 hp) ((path_shift h2).1 hq)
  rw [← map_succ_pred p, this, map_succ_pred]
theorem conn_rt {par d rt : Nat → Nat} (h1 : Rtd par d rt) (h2 : ∀ v u, E v u ↔ Adj par (v + 1) (u + 1)) : Conn E a b ↔ rt (a + 1) = rt (b + 1) := by
  rw [← h1.conn (by omega) (by omega)]
  constructor
  · rintro ⟨p, hp⟩; exact ⟨_, (path_shift h2).1 hp⟩
  · rintro ⟨p, hp⟩; exact ⟨_, (path_unshift h2 hp).1⟩
theorem isPath_self (E : Nat → Nat → Prop) (a : Nat) : IsPath E a a [a] := ⟨[], rfl, trivial, by simp, rfl⟩
theorem Conn.refl (E : Nat → Nat → Prop) (a : Nat) : Conn E a a := ⟨[a], isPath_self E a⟩
theorem Frs.csymm (h : Frs E) (hc : Conn E a b) : Conn E b a := by
  obtain ⟨par, d, rt, h1, h2⟩ := h
  exact (conn_rt h1 h2).2 ((conn_rt h1 h2).1 hc).symm
theorem Frs.ctrans (h : Frs E) (hc : Conn E a b) (hd : Conn E b c) : Conn E a c := by
  obtain ⟨par, d, rt, h1, h2⟩ := h
  exact (conn_rt h1 h2).2 (((conn_rt h1 h2).1 hc).trans ((conn_rt h1 h2).1 hd))
theorem Frs.edge (h : Frs E) (he : E a b) : IsPath E a b [a, b] := by
  refine ⟨[b], rfl, ⟨he, trivial⟩, ?_, rfl⟩
  have : a ≠ b := by rintro rfl; exact h.irrefl a he
  simp [this]

theorem wk_append {x : Nat} {l m : List Nat} : Wk E a (l ++ x :: m) ↔ Wk E a (l ++ [x]) ∧ Wk E x m := by
  induction l generalizing a with
  | nil => simp [Wk]
  | cons y l ih => simp only [List.cons_append, Wk]; rw [ih, and_assoc]
theorem wk_rev (h : ∀ v u, E v u → E u v) : ∀ {l : List Nat} {a b : Nat}, Wk E a (l ++ [b]) → Wk E b (l.reverse ++ [a])
  | [], a, b, ⟨h1, _⟩ => ⟨h _ _ h1, trivial⟩
  | x :: l, a, b, ⟨h1, h2⟩ => by
    have := wk_rev h h2
    rw [List.reverse_cons, List.append_assoc]
    exact wk_append.2 ⟨this, h _ _ h1, trivial⟩
theorem IsPath.rev (h : ∀ v u, E v u → E u v) (hp : IsPath E a b p) : IsPath E b a p.reverse := by
  obtain ⟨l, rfl, h2, h3, h4⟩ := hp
  have hnr : (a :: l).reverse.Nodup := (List.reverse_perm _).nodup_iff.2 h3
  rcases List.eq_nil_or_concat l with rfl | ⟨S, x, rfl⟩
  · simp at h4; subst h4; exact isPath_self E a
  · rw [List.concat_eq_append] at *
    have hx : x = b := by rw [← List.cons_append, last_snoc] at h4; exact Option.some.inj h4
    subst hx
    refine ⟨S.reverse ++ [a], by simp, wk_rev h h2, hnr, by rw [List.reverse_cons, last_snoc]⟩
/-- A path that leads over a vertex. -/
theorem IsPath.split {A B : List Nat} {m : Nat} (hp : IsPath E a b (A ++ m :: B)) : IsPath E a m (A ++ [m]) ∧ IsPath E m b (m :: B) := by
  obtain ⟨l, h1, h2, h3, h4⟩ := hp
  have hn := List.nodup_append.1 h3
  have e : A ++ m :: B = (A ++ [m]) ++ B := by simp
  have hl : (m :: B).getLast? = some b := by rw [← h4, last_app]
  refine ⟨?_, B, rfl, ?_, hn.2.1, hl⟩
  · have hna : (A ++ [m]).Nodup := by rw [e] at h3; exact (List.nodup_append.1 h3).1
    cases A with
    | nil => simp at h1; obtain ⟨rfl, rfl⟩ := h1; exact isPath_self E m
    | cons x A =>
      simp at h1; obtain ⟨rfl, rfl⟩ := h1
      exact ⟨A ++ [m], rfl, (wk_append.1 h2).1, hna, last_snoc _ _⟩
  · cases A with
    | nil => simp at h1; obtain ⟨rfl, rfl⟩ := h1; exact h2
    | cons x A => simp at h1; obtain ⟨rfl, rfl⟩ := h1; exact (wk_append.1 h2).2
theorem IsPath.join {A B : List Nat} {m : Nat} (hp : IsPath E a m (A ++ [m])) (hq : IsPath E m b (m :: B)) (hd : (A ++ m :: B).Nodup) : IsPath E a b (A ++ m :: B) := by
  obtain ⟨l, h1, h2, h3, h4⟩ := hp
  obtain ⟨l', h1', h2', h3', h4'⟩ := hq
  simp at h1'; subst h1'
  cases A with
  | nil => simp at h1; obtain ⟨rfl, rfl⟩ := h1; exact ⟨B, rfl, h2', hd, h4'⟩
  | cons x A =>
    simp at h1; obtain ⟨rfl, rfl⟩ := h1
    refine ⟨A ++ m :: B, rfl, wk_append.2 ⟨h2, h2'⟩, hd, ?_⟩
    rw [last_app]; exact h4'
theorem IsPath.first (hp : IsPath E a b p) : ∃ l, p = a :: l := by obtain ⟨l, h, _⟩ := hp; exact ⟨l, h⟩
theorem IsPath.last (hp : IsPath E a b p) : p.getLast? = some b := by obtain ⟨l, _, _, _, h⟩ := hp; exact h
theorem IsPath.nd (hp : IsPath E a b p) : p.Nodup := by obtain ⟨l, _, _, h, _⟩ := hp; exact h
theorem IsPath.ne (hp : IsPath E a b p) : p ≠ [] := by obtain ⟨l, rfl, _⟩ := hp; simp
theorem IsPath.mem_conn (hp : IsPath E a b p) {x : Nat} (hx : x ∈ p) : Conn E a x := by
  obtain ⟨A, B, rfl⟩ := List.append_of_mem hx
  exact ⟨_, hp.split.1⟩
end

end Go.Proofs.Ytoppjjgecgbbkaa

/- lct: lead, path, has, check, Connected, Size, Trees, Dist, Min, Meet. -/
namespace Go.Proofs.Ytoppjjgecgbbkaa
open Go.RowKit
set_option maxRecDepth 10000
set_option maxHeartbeats 800000

theorem lead_w {w : World} {pf g N cap : Nat} {σ : Tbl} {ed : Int} (h : LctAt w pf g N cap σ ed) {par d rt : Nat → Nat} {F : Fst} (hF : LF N σ F par d rt) (i : Nat) (hi0 : 0 < i) (hi : i < N) :
    Calls Try.prog 36 #[.pointer (some ⟨pf, 0, none⟩), .int .i64 i] w fun e w' => e = .returned (.tuple #[]) ∧ ∃ τ l R par' d' rt', LctAt w' pf g N cap τ ed ∧ LF N τ ((.node true l i .nil, 0) :: R) par' d' rt' ∧ (∀ x, (τ x).key = (σ x).key) ∧
      (∀ x y, Adj par' x y ↔ Adj par x y) ∧ (∀ x y, rt' x = rt' y ↔ rt x = rt y) ∧ rt' i = i ∧ Fr [g] w w' := by
  have hN := h.le
  have hi2 : (i : Int) < N := by omega
  go_enter Try.func36, Try.ntmps36
  go_wp2_with fail
  refine (expose_w h hF i hi0 hi).mono ?_
  rintro _ w2 ⟨m, τ, l, R, rfl, hL2, hE, hF2⟩
  obtain ⟨par', d', rt', q1, q2, q3, q4, q5⟩ := hE.lf.lead
  have HE := Lib.hid hE.key
  have Q := Lib.hid (And.intro q1 (And.intro q2 (And.intro q3 q4)))
  clear q1 q2 q3 q4 q5 hE h hF
  have d1 := hL2.hd.cell 1
  simp only [List.getElem?_cons_zero, List.getElem?_cons_succ] at d1
  have a3 := hL2.nodes.c3 i hi
  have hfz := hL2.nodes.frozen
  obtain ⟨hL3, hF3⟩ := hL2.st3 hF2 hi true
  go_wp2
  go_end0
  refine ⟨rfl, _, l, R, par', d', rt', hL3, Q.out.1, fun x => ?_, Q.out.2.1, Q.out.2.2.1, Q.out.2.2.2, hF3⟩
  rw [← HE.out x]
  by_cases e : x = i
  · subst e; rw [upd_same]
  · rw [upd_other e]

/-- What path makes of the forest. -/
structure Pathed (N : Nat) (σ : Tbl) (par rt : Nat → Nat) (i j : Nat) (τ : Tbl) (l : BT) (R : Fst) (par' d' rt' : Nat → Nat) : Prop where
  lf : LF N τ ((.node false l j .nil, 0) :: R) par' d' rt'
  key : ∀ x, (τ x).key = (σ x).key
  adj : ∀ x y, Adj par' x y ↔ Adj par x y
  rts : ∀ x y, rt' x = rt' y ↔ rt x = rt y
  rti : rt' i = i
  path : rt i = rt j → IsPath (Adj par) i j (l.seq ++ [j])

theorem path_w {w : World} {pf g N cap : Nat} {σ : Tbl} {ed : Int} (h : LctAt w pf g N cap σ ed) {par d rt : Nat → Nat} {F : Fst} (hF : LF N σ F par d rt) (i j : Nat) (hi0 : 0 < i) (hi : i < N) (hj0 : 0 < j) (hj : j < N) :
    Calls Try.prog 38 #[.pointer (some ⟨pf, 0, none⟩), .int .i64 i, .int .i64 j] w fun e w' => e = .returned (.tuple #[]) ∧ ∃ τ l R par' d' rt', LctAt w' pf g N cap τ ed ∧ Pathed N σ par rt i j τ l R par' d' rt' ∧ Fr [g] w w' := by
  go_enter Try.func38, Try.ntmps38
  go_wp2_with fail
  refine (lead_w h hF i hi0 hi).mono ?_
  rintro _ w2 ⟨rfl, τ, l, R, par', d', rt', hL2, hF', hkey, hadj, hrt, hri, hFr2⟩
  have HF' := Lib.hid hF'; clear hF'
  have Q := Lib.hid (And.intro hkey (And.intro hadj (And.intro hrt hri)))
  clear hkey hadj hrt hri h hF
  go_wp2_with fail
  refine (expose_w hL2 HF'.out j hj0 hj).mono ?_
  rintro _ w3 ⟨m, τ3, l3, R3, rfl, hL3, hE, hFr3⟩
  have HE := Lib.hid hE; clear hE
  go_wp2
  go_end0
  obtain ⟨hkey, hadj, hrt, hri⟩ := Q.out
  have hE := HE.out
  refine ⟨rfl, τ3, l3, R3, par', d', rt', hL3, ⟨hE.lf, fun x => (hE.key x).trans (hkey x), hadj, hrt, hri, fun e => ?_⟩, hFr2.then hFr3⟩
  obtain ⟨hn, hz, hc⟩ := hE.lf.top_seq
  have hjm : j ∈ l3.seq ++ [j] := by simp
  have hl : (l3.seq ++ [j]).getLast? = some j := last_snoc _ _
  generalize l3.seq ++ [j] = s at *
  cases s with
  | nil => cases hjm
  | cons y s =>
    have hy : y = i := by
      rw [← ch_rt_head hE.lf.rt0 hE.lf.rt1 hc hz j hjm, (hrt j i).2 e.symm, hri]
    subst hy
    have : IsPath (Adj par') y j (y :: s) := ⟨s, rfl, ch_wk (hz y (by simp)) (fun x hx => hz x (by simp [hx])) hc.2, hn, hl⟩
    exact this.mono (fun x y => (hadj x y).1)

/-- A forest of n vertices with the edges E. -/
def LG (w : World) (pf g n : Nat) (E : Nat → Nat → Prop) (key : Nat → Int) (ed : Int) : Prop :=
  ∃ cap σ F par d rt, LctAt w pf g (n + 1) cap σ ed ∧ LF (n + 1) σ F par d rt ∧ (∀ v u, E v u ↔ Adj par (v + 1) (u + 1)) ∧ ∀ v, v < n → (σ (v + 1)).key = key v

theorem LG.frs {w : World} {pf g n : Nat} {E : Nat → Nat → Prop} {key : Nat → Int} {ed : Int} (h : LG w pf g n E key ed) : Frs E := by
  obtain ⟨cap, σ, F, par, d, rt, _, h2, h3, _⟩ := h
  exact ⟨par, d, rt, h2.rtd, h3⟩
theorem LG.lts {w : World} {pf g n : Nat} {E : Nat → Nat → Prop} {key : Nat → Int} {ed : Int} (h : LG w pf g n E key ed) : pf < w.heap.size ∧ g < w.heap.size ∧ n ≤ 65536 := by
  obtain ⟨cap, σ, F, par, d, rt, h1, _⟩ := h
  have := h1.le
  exact ⟨h1.lts.1, h1.lts.2, by omega⟩
theorem LG.fr {w w' : World} {pf g n : Nat} {E : Nat → Nat → Prop} {key : Nat → Int} {ed : Int} {S : List Nat} (h : LG w pf g n E key ed) (hf : Fr S w w') (hp : pf ∉ S) (hg : g ∉ S) : LG w' pf g n E key ed := by
  obtain ⟨cap, σ, F, par, d, rt, h1, h2⟩ := h
  exact ⟨cap, σ, F, par, d, rt, ⟨hf.blk h1.hd hp, h1.nodes.same (hf.keep g h1.nodes.lt hg), h1.ne, h1.le, h1.cap⟩, h2⟩
theorem LG.edge_lt {w : World} {pf g n : Nat} {E : Nat → Nat → Prop} {key : Nat → Int} {ed : Int} (h : LG w pf g n E key ed) {v u : Nat} (he : E v u) : v < n ∧ u < n := by
  obtain ⟨cap, σ, F, par, d, rt, _, h2, h3, _⟩ := h
  have key : ∀ x y, Adj par x y → x < n + 1 := by
    rintro x y ⟨hx, hy, e⟩
    rcases e with e | e
    · apply Classical.byContradiction; intro hc
      have := h2.none x (by omega); rw [this] at e; exact hy e.symm
    · have hyv : 0 < y ∧ y < n + 1 := by
        apply Classical.byContradiction; intro hc
        have := h2.none y hc; rw [this] at e; exact hx e.symm
      obtain ⟨p, hp, hyp⟩ := mem_fnodes.1 ((h2.mem y).2 hyv)
      rcases ch_split (h2.ch p hp) (seq_mem.2 hyp) with ⟨B, _, e2⟩ | ⟨A, B, e2⟩
      · rw [← e, e2]; exact h2.up p hp
      · have : par y ∈ p.1.nodes := seq_mem.1 (by rw [e2]; simp)
        rw [← e]; exact (h2.lt hp this).2
  have ha := (h3 v u).1 he
  have h1 := key _ _ ha
  have h2 := key _ _ ha.symm
  omega

@[go_sem] theorem eq_lct (a : Addr) (w : World) : (binOp .eql 25 (.pointer (some a)) (.pointer (some a))).run Try.prog w = .ok (.bool true) w := by
  obtain ⟨j, hj⟩ := Option.isSome_iff_exists.1 (show (Try.prog.info? 65).isSome = true by kernel_rfl)
  exact run_eql_ptr_same w a Try.underlying25 hj

theorem valid_w {w : World} {pf : Nat} (hc : w.cell? ⟨pf, 0, none⟩ = some (.pointer (some ⟨pf, 0, none⟩))) :
    Calls Try.prog 37 #[.pointer (some ⟨pf, 0, none⟩)] w fun e w' => e = .returned (.bool true) ∧ w' = w := by
  go_enter Try.func37, Try.ntmps37
  go_wp2
  go_ret
  exact ⟨rfl, rfl⟩

def inV (n : Nat) (v : Int) : Bool := decide (0 ≤ v) && decide (v < n)

theorem has_w {w : World} {pf g n cap : Nat} {σ : Tbl} {ed : Int} (h : LctAt w pf g (n + 1) cap σ ed) (v : Int) :
    Calls Try.prog 33 #[.pointer (some ⟨pf, 0, none⟩), .int .i64 v] w fun e w' => e = .returned (.bool (inV n v)) ∧ w' = w := by
  have c0 := h.hd.cell 0
  have c1 := h.hd.cell 1
  have hN := h.le
  simp only [List.getElem?_cons_zero, List.getElem?_cons_succ] at c0 c1
  have hV := Lib.hid (valid_w c0)
  by_cases h1 : 0 ≤ v
  · by_cases h2 : v < n
    · have e : inV n v = true := by simp [inV, h1, h2]
      rw [e]; clear e
      go_enter Try.func33, Try.ntmps33
      go_wp2_with (go_at_call 37; refine hV.out.mono ?_; rintro e w' ⟨rfl, rfl⟩)
      go_ret
      exact ⟨rfl, rfl⟩
    · have e : inV n v = false := by simp [inV, h2]
      rw [e]; clear e
      have d2 : decide (v < (n : Int)) = false := decide_eq_false h2
      go_enter Try.func33, Try.ntmps33
      go_wp2_with (go_at_call 37; refine hV.out.mono ?_; rintro e w' ⟨rfl, rfl⟩)
      go_ret
      exact ⟨rfl, rfl⟩
  · have e : inV n v = false := by simp [inV, h1]
    rw [e]; clear e
    go_enter Try.func33, Try.ntmps33
    go_wp2_with (go_at_call 37; refine hV.out.mono ?_; rintro e w' ⟨rfl, rfl⟩)
    go_ret
    exact ⟨rfl, rfl⟩

theorem inV_nat {n : Nat} {v : Int} (h : inV n v = true) : ∃ k : Nat, v = k ∧ k < n := by
  simp only [inV, Bool.and_eq_true, decide_eq_true_eq] at h
  exact ⟨v.toNat, by omega, by omega⟩

/-- The numbers are vertices, and connected. -/
def ConnI (n : Nat) (E : Nat → Nat → Prop) (a b : Int) : Prop := inV n a = true ∧ inV n b = true ∧ Conn E a.toNat b.toNat

theorem top_up {N : Nat} {σ : Tbl} {F : Fst} {par d rt : Nat → Nat} (h : LF N σ F par d rt) {t : BT} {b : Nat} (hm : (t, 0) ∈ F) (hb : t.root = b) (hb0 : b ≠ 0) {a : Nat} (ha : 0 < a) (haN : a < N) (hne : a ≠ b) (hr : rt a = rt b) : (σ a).up ≠ 0 := by
  intro e0
  obtain ⟨p, hp, hap⟩ := mem_fnodes.1 ((h.mem a).2 ⟨ha, haN⟩)
  have hk := (h.rep p hp).kids hap
  have hbt : b ∈ t.nodes := hb ▸ BT.root_mem (by rw [hb]; exact hb0)
  by_cases hpt : b ∈ p.1.nodes
  · -- the same tree: a is no root
    rcases hk.2.2.1 with e | e
    · obtain ⟨R, hR⟩ := mem_split_perm hm
      have h' := h.perm hR
      have hp' := hR.mem_iff.1 hp
      rcases List.mem_cons.1 hp' with e2 | e2
      · rw [e2] at e; exact hne (e.trans hb)
      · exact h'.disj e2 b hbt hpt
    · rw [e0] at e; have := (h.lt hp e).1; omega
  · rcases hk.2.2.1 with e | e
    · have hu : p.2 = 0 := (hk.2.2.2.1 e).symm.trans e0
      have c1 := h.ch _ hm
      have c2 := h.ch _ hp
      rw [hu] at c2
      have z1 := h.seq0 hm
      have z2 := h.seq0 hp
      have sx := seq_mem.2 hbt
      have sy := seq_mem.2 hap
      dsimp only at c1 z1
      cases hs1 : t.seq with
      | nil => rw [hs1] at sx; cases sx
      | cons x s1 =>
        cases hs2 : p.1.seq with
        | nil => rw [hs2] at sy; cases sy
        | cons y s2 =>
          have mx : x ∈ t.nodes := seq_mem.1 (by rw [hs1]; simp)
          have my : y ∈ p.1.nodes := seq_mem.1 (by rw [hs2]; simp)
          rw [hs1] at c1 z1 sx; rw [hs2] at c2 z2 sy
          have ra := ch_rt_head h.rt0 h.rt1 c1 z1 b sx
          have rb := ch_rt_head h.rt0 h.rt1 c2 z2 a sy
          have hxy : x = y := by rw [← ra, ← hr, rb]
          obtain ⟨R, hR⟩ := mem_split_perm hm
          have h' := h.perm hR
          rcases List.mem_cons.1 (hR.mem_iff.1 hp) with e2 | e2
          · rw [e2] at hpt; exact hpt hbt
          · exact h'.disj e2 x mx (hxy ▸ my)
    · rw [e0] at e; have := (h.lt hp e).1; omega

theorem LctAt.drew {w : World} {pf g N cap : Nat} {σ : Tbl} {ed : Int} (h : LctAt w pf g N cap σ ed) (k : Nat) : LctAt (w.drewN k) pf g N cap σ ed := h.eqv (Eqv.drewN w k)

theorem expose_v {w : World} {pf g n cap : Nat} {σ : Tbl} {ed : Int} (h : LctAt w pf g (n + 1) cap σ ed) {par d rt : Nat → Nat} {F : Fst} (hF : LF (n + 1) σ F par d rt) (v : Nat) (hv : v < n) :
    Calls Try.prog 34 #[.pointer (some ⟨pf, 0, none⟩), .int .i64 ((v : Int) + 1)] w fun e w' => ∃ m τ l R, e = .returned (.int .i64 (m : Nat)) ∧ LctAt w' pf g (n + 1) cap τ ed ∧ Exposed (n + 1) σ F par d rt (v + 1) m τ l R ∧ Fr [g] w w' :=
  expose_w h hF (v + 1) (by omega) (by omega)

theorem connected_w {w : World} {pf g n : Nat} {E : Nat → Nat → Prop} {key : Nat → Int} {ed : Int} (h : LG w pf g n E key ed) (a b : Int) :
    Calls Try.prog 15 #[.pointer (some ⟨pf, 0, none⟩), .int .i64 a, .int .i64 b] w fun e w' => ∃ r : Bool, e = .returned (.bool r) ∧ (r = true ↔ ConnI n E a b) ∧ LG w' pf g n E key ed ∧ Fr [g] w w' := by
  have H := Lib.hid h
  obtain ⟨cap, σ, F, par, d, rt, hL, hF, hE, hk⟩ := h
  have HF := Lib.hid hF; clear hF
  have HE := Lib.hid hE; clear hE
  have HK := Lib.hid hk; clear hk
  have hN := hL.le
  cases hva : inV n a with
  | false =>
    have HR := Lib.hid (show ¬ ConnI n E a b from fun e => by rw [e.1] at hva; cases hva)
    have A1 := has_w hL a
    rw [hva] at A1
    have HA := Lib.hid A1; clear A1 hva
    go_enter Try.func15, Try.ntmps15
    go_wp2_with fail
    refine HA.out.mono ?_
    rintro _ w ⟨rfl, rfl⟩
    go_wp2
    go_ret
    exact ⟨false, rfl, by simp [HR.out], H.out, Fr.refl _ _⟩
  | true =>
    have A1 := has_w hL a
    rw [hva] at A1
    have HA := Lib.hid A1; clear A1
    cases hvb : inV n b with
    | false =>
      have HR := Lib.hid (show ¬ ConnI n E a b from fun e => by rw [e.2.1] at hvb; cases hvb)
      have B1 := has_w hL b
      rw [hvb] at B1
      have HB := Lib.hid B1; clear B1 hva hvb
      go_enter Try.func15, Try.ntmps15
      go_wp2_with fail
      refine HA.out.mono ?_
      rintro _ w ⟨rfl, rfl⟩
      go_wp2_with fail
      refine HB.out.mono ?_
      rintro _ w ⟨rfl, rfl⟩
      go_wp2
      go_ret
      exact ⟨false, rfl, by simp [HR.out], H.out, Fr.refl _ _⟩
    | true =>
      have B1 := has_w hL b
      rw [hvb] at B1
      have HB := Lib.hid B1; clear B1
      obtain ⟨v, rfl, hv⟩ := inV_nat hva
      obtain ⟨u, rfl, hu⟩ := inV_nat hvb
      have HC := Lib.hid (show ConnI n E v u ↔ Conn E v u from ⟨fun e => e.2.2, fun e => ⟨hva, hvb, e⟩⟩)
      clear hva hvb
      by_cases hvu : v = u
      · subst hvu
        go_enter Try.func15, Try.ntmps15
        go_wp2_with fail
        refine HA.out.mono ?_
        rintro _ w ⟨rfl, rfl⟩
        go_wp2_with fail
        refine HB.out.mono ?_
        rintro _ w ⟨rfl, rfl⟩
        go_wp2
        go_ret
        refine ⟨true, rfl, ?_, H.out, Fr.refl _ _⟩
        simp only [true_iff]; exact HC.out.2 (Conn.refl E v)
      · have hb : ((v : Int) == (u : Int)) = false := beq_eq_false_iff_ne.2 (by omega)
        have Hne := Lib.hid hvu; clear hvu
        go_enter Try.func15, Try.ntmps15
        go_wp2_with fail
        refine HA.out.mono ?_
        rintro _ w ⟨rfl, rfl⟩
        go_wp2_with fail
        refine HB.out.mono ?_
        rintro _ w ⟨rfl, rfl⟩
        go_wp2_with fail
        refine (expose_v hL HF.out v (by omega)).mono ?_
        rintro _ w2 ⟨m1, τ1, l1, R1, rfl, hL1, hE1, hF1⟩
        have HE1 := Lib.hid hE1; clear hE1
        go_wp2_with fail
        refine (expose_v hL1 HE1.out.lf u (by omega)).mono ?_
        rintro _ w3 ⟨m2, τ2, l2, R2, rfl, hL2, hE2, hF2⟩
        have HE2 := Lib.hid hE2; clear hE2
        have a2 := hL2.nodes.c2 (v + 1) (by omega)
        have d1 := hL2.hd.cell 1
        simp only [List.getElem?_cons_zero, List.getElem?_cons_succ] at d1
        have hv2 : ((v + 1 : Nat) : Int) < ((n + 1 : Nat) : Int) := by omega
        have hres : ((τ2 (v + 1)).up ≠ 0) ↔ Conn E v u := by
          rw [conn_rt HF.out.rtd HE.out]
          constructor
          · intro e
            apply Classical.byContradiction
            intro hc
            have h1 := HE2.out.frame (v + 1) hc
            rw [h1, (HE1.out.lf.rep _ (List.mem_cons_self)).1.2.1] at e
            exact e rfl
          · intro e
            exact top_up HE2.out.lf (List.mem_cons_self) rfl (by simp [BT.root]) (by omega) (by omega) (by simp only [BT.root]; have := Hne.out; omega) e
        have Hres := Lib.hid hres; clear hres
        have hFr : Fr [g] w w3 := hF1.then hF2
        have hLG : LG w3 pf g n E key ed := ⟨cap, τ2, _, par, d, rt, hL2, HE2.out.lf, HE.out, fun x hx => by rw [HE2.out.key, HE1.out.key]; exact HK.out x hx⟩
        have HLG := Lib.hid hLG; clear hLG
        by_cases hup : (τ2 (v + 1)).up = 0
        · rw [hup] at a2
          have Hup := Lib.hid hup; clear hup
          go_wp2
          go_ret
          exact ⟨false, rfl, by simp only [Bool.false_eq_true, false_iff]; exact fun e => Hres.out.2 (HC.out.1 e) Hup.out, HLG.out, hFr⟩
        · have hb0 : (((τ2 (v + 1)).up : Int) != 0) = true := bne_iff_ne.2 (by omega)
          have Hup := Lib.hid hup; clear hup
          go_wp2
          go_ret
          exact ⟨true, rfl, by simp only [true_iff]; exact HC.out.2 (Hres.out.1 Hup.out), HLG.out, hFr⟩

end Go.Proofs.Ytoppjjgecgbbkaa

/- lct: how many trees a forest has, and how an edge changes that. -/
namespace Go.Proofs.Ytoppjjgecgbbkaa
open Go.RowKit Classical

/-- The vertex is the first one of its tree. -/
def IsFirst (E : Nat → Nat → Prop) (v : Nat) : Prop := ∀ u, u < v → ¬ Conn E v u
noncomputable def nc (n : Nat) (E : Nat → Nat → Prop) : Nat := ((List.range n).filter fun v => decide (IsFirst E v)).length
noncomputable def csize (n : Nat) (E : Nat → Nat → Prop) (v : Nat) : Nat := ((List.range n).filter fun u => decide (Conn E v u)).length

theorem nc_le (n : Nat) (E : Nat → Nat → Prop) : nc n E ≤ n := by
  unfold nc
  have := List.length_filter_le (fun v => decide (IsFirst E v)) (List.range n)
  simpa using this
theorem csize_le (n : Nat) (E : Nat → Nat → Prop) (v : Nat) : csize n E v ≤ n := by
  unfold csize
  have := List.length_filter_le (fun u => decide (Conn E v u)) (List.range n)
  simpa using this
theorem conn_congr {E E' : Nat → Nat → Prop} (h : ∀ v u, E v u ↔ E' v u) (a b : Nat) : Conn E a b ↔ Conn E' a b :=
  ⟨fun ⟨p, hp⟩ => ⟨p, hp.mono (fun x y => (h x y).1)⟩, fun ⟨p, hp⟩ => ⟨p, hp.mono (fun x y => (h x y).2)⟩⟩
theorem E_ext {E E' : Nat → Nat → Prop} (h : ∀ v u, E v u ↔ E' v u) : E = E' := funext fun v => funext fun u => propext (h v u)

theorem filter_drop_one {P P' : Nat → Bool} {m : Nat} : ∀ {l : List Nat}, l.Nodup → m ∈ l → P m = true → P' m = false → (∀ x ∈ l, x ≠ m → P' x = P x) → (l.filter P').length + 1 = (l.filter P).length
  | y :: l, hn, hm, h1, h2, h3 => by
    have hn' := List.nodup_cons.1 hn
    by_cases e : y = m
    · subst e
      have : l.filter P' = l.filter P := List.filter_congr (fun x hx => h3 x (by simp [hx]) (by rintro rfl; exact hn'.1 hx))
      simp [h1, h2, this]
    · have hml : m ∈ l := (List.mem_cons.1 hm).resolve_left (fun h => e h.symm)
      have ih := filter_drop_one hn'.2 hml h1 h2 (fun x hx => h3 x (by simp [hx]))
      have hy := h3 y (by simp) e
      cases hp : P y with
      | true => simp [hy, hp, ih]
      | false => simp [hy, hp, ih]

/-- The edges with one more. -/
def addE (E : Nat → Nat → Prop) (a b : Nat) : Nat → Nat → Prop := fun v u => E v u ∨ (v = a ∧ u = b) ∨ (v = b ∧ u = a)
def delE (E : Nat → Nat → Prop) (a b : Nat) : Nat → Nat → Prop := fun v u => E v u ∧ ¬ (v = a ∧ u = b) ∧ ¬ (v = b ∧ u = a)

section
variable {E : Nat → Nat → Prop} {a b n : Nat}
theorem conn_of_edge {v u : Nat} (h : Frs E) (he : E v u) : Conn E v u := ⟨_, h.edge he⟩
theorem conn_add (h : Frs E) (h' : Frs (addE E a b)) (x y : Nat) : Conn (addE E a b) x y ↔ Conn E x y ∨ (Conn E x a ∧ Conn E b y) ∨ (Conn E x b ∧ Conn E a y) := by
  constructor
  · rintro ⟨p, l, rfl, hw, _, hl⟩
    have key : ∀ {l : List Nat} {x : Nat}, Wk (addE E a b) x l → ∀ y ∈ x :: l, Conn E x y ∨ (Conn E x a ∧ Conn E b y) ∨ (Conn E x b ∧ Conn E a y) := by
      intro l
      induction l with
      | nil => intro x _ y hy; simp at hy; subst hy; exact .inl (Conn.refl E y)
      | cons z l ih =>
        intro x ⟨h1, h2⟩ y hy
        rcases List.mem_cons.1 hy with rfl | hy
        · exact .inl (Conn.refl E y)
        have hz := ih h2 y hy
        rcases h1 with h1 | ⟨rfl, rfl⟩ | ⟨rfl, rfl⟩
        · have hxz := conn_of_edge h h1
          rcases hz with hz | ⟨hz1, hz2⟩ | ⟨hz1, hz2⟩
          · exact .inl (h.ctrans hxz hz)
          · exact .inr (.inl ⟨h.ctrans hxz hz1, hz2⟩)
          · exact .inr (.inr ⟨h.ctrans hxz hz1, hz2⟩)
        · rcases hz with hz | ⟨hz1, hz2⟩ | ⟨hz1, hz2⟩
          · exact .inr (.inl ⟨Conn.refl E x, hz⟩)
          · exact .inr (.inl ⟨Conn.refl E x, hz2⟩)
          · exact .inl hz2
        · rcases hz with hz | ⟨hz1, hz2⟩ | ⟨hz1, hz2⟩
          · exact .inr (.inr ⟨Conn.refl E x, hz⟩)
          · exact .inl hz2
          · exact .inr (.inr ⟨Conn.refl E x, hz2⟩)
    exact key hw y (List.mem_of_getLast? hl)
  · have hm : ∀ {x y}, Conn E x y → Conn (addE E a b) x y := fun ⟨p, hp⟩ => ⟨p, hp.mono (fun _ _ e => .inl e)⟩
    have hab : Conn (addE E a b) a b := conn_of_edge h' (.inr (.inl ⟨rfl, rfl⟩))
    rintro (e | ⟨e1, e2⟩ | ⟨e1, e2⟩)
    · exact hm e
    · exact h'.ctrans (hm e1) (h'.ctrans hab (hm e2))
    · exact h'.ctrans (hm e1) (h'.ctrans (h'.csymm hab) (hm e2))

theorem least_ex {P : Nat → Prop} {n : Nat} (h : P n) : ∃ m, m ≤ n ∧ P m ∧ ∀ k, k < m → ¬ P k := by
  induction n using Nat.strongRecOn with
  | _ n ih =>
    by_cases hm : ∃ m, m < n ∧ P m
    · obtain ⟨m, hlt, hp⟩ := hm
      obtain ⟨m', h1, h2, h3⟩ := ih m hlt hp
      exact ⟨m', by omega, h2, h3⟩
    · exact ⟨n, Nat.le_refl _, h, fun k hk hp => hm ⟨k, hk, hp⟩⟩

theorem nc_add (h : Frs E) (h' : Frs (addE E a b)) (hab : ¬ Conn E a b) (ha : a < n) (hb : b < n) : nc n (addE E a b) + 1 = nc n E := by
  obtain ⟨fa, ha1, ha2, ha3⟩ := least_ex (P := fun k => Conn E a k) (Conn.refl E a)
  obtain ⟨fb, hb1, hb2, hb3⟩ := least_ex (P := fun k => Conn E b k) (Conn.refl E b)
  have hne : fa ≠ fb := by rintro rfl; exact hab (h.ctrans ha2 (h.csymm hb2))
  have hfa : IsFirst E fa := fun k hk hc => ha3 k hk (h.ctrans ha2 hc)
  have hfb : IsFirst E fb := fun k hk hc => hb3 k hk (h.ctrans hb2 hc)
  -- of the two first vertices the later one is no first vertex any more
  have key : ∀ {a b fa fb : Nat}, fa < fb → Conn E a fa → Conn E b fb → IsFirst E fa → IsFirst E fb → ¬ Conn E a b → Frs (addE E a b) → b < n → fb ≤ b → (∀ k, k < fa → ¬ Conn E a k) → nc n (addE E a b) + 1 = nc n E := by
    intro a b fa fb hlt hca hcb hfa hfb hab h' hbn hfbb hmin
    have hbc := conn_add (a := a) (b := b) h h'
    unfold nc
    refine filter_drop_one (m := fb) List.nodup_range (List.mem_range.2 (by omega)) (decide_eq_true hfb) (decide_eq_false ?_) ?_
    · intro hf
      exact hf fa hlt ((hbc fb fa).2 (.inr (.inr ⟨h.csymm hcb, hca⟩)))
    · intro x _ hx
      refine decide_eq_decide.2 ⟨fun hf u hu hc => hf u hu ((hbc x u).2 (.inl hc)), fun hf u hu hc => ?_⟩
      rcases (hbc x u).1 hc with e | ⟨e1, e2⟩ | ⟨e1, e2⟩
      · exact hf u hu e
      · -- x is with a, u with b: then x = fa, and fb ≤ u
        have hxfa : Conn E x fa := h.ctrans e1 hca
        have h1 : x = fa := by
          rcases Nat.lt_trichotomy x fa with q | q | q
          · exact absurd (h.csymm hxfa) (hfa x q)
          · exact q
          · exact absurd hxfa (hf fa q)
        have : ¬ u < fb := fun q => hfb u q (h.ctrans (h.csymm hcb) e2)
        omega
      · have hxfb : Conn E x fb := h.ctrans e1 hcb
        rcases Nat.lt_trichotomy x fb with q | q | q
        · exact absurd (h.csymm hxfb) (hfb x q)
        · exact absurd q hx
        · exact absurd hxfb (hf fb q)
  rcases Nat.lt_or_gt_of_ne hne with q | q
  · exact key q ha2 hb2 hfa hfb hab h' hb hb1 ha3
  · have e : addE E a b = addE E b a := E_ext (fun v u => by unfold addE; constructor <;> (rintro (e | e | e); exact .inl e; exact .inr (.inr e); exact .inr (.inl e)))
    rw [e]
    exact key q hb2 ha2 hfb hfa (fun e => hab (h.csymm e)) (by rw [← e]; exact h') ha ha1 hb3

theorem add_del (h : Frs E) (he : E a b) : addE (delE E a b) a b = E := by
  refine E_ext (fun v u => ?_)
  unfold addE delE
  constructor
  · rintro (e | ⟨rfl, rfl⟩ | ⟨rfl, rfl⟩)
    · exact e.1
    · exact he
    · exact h.symm he
  · intro e
    by_cases h1 : v = a ∧ u = b
    · exact .inr (.inl h1)
    · by_cases h2 : v = b ∧ u = a
      · exact .inr (.inr h2)
      · exact .inl ⟨e, h1, h2⟩
theorem del_sep (h : Frs E) (he : E a b) : ¬ Conn (delE E a b) a b := by
  rintro ⟨p, hp⟩
  have h1 := hp.mono (E' := E) (fun x y e => e.1)
  have h2 := h.unique h1 (h.edge he)
  subst h2
  obtain ⟨l, e, hw, _⟩ := hp
  simp at e
  subst e
  exact hw.1.2.1 ⟨rfl, rfl⟩
theorem nc_del (h : Frs E) (h' : Frs (delE E a b)) (he : E a b) (ha : a < n) (hb : b < n) : nc n (delE E a b) = nc n E + 1 := by
  have e := add_del h he
  have := nc_add (n := n) h' (by rw [e]; exact h) (del_sep h he) ha hb
  rw [e] at this; exact this.symm
end

theorem nc_none (n : Nat) : nc n (fun _ _ => False) = n := by
  unfold nc
  rw [List.filter_eq_self.2]
  · simp
  · intro v _
    refine decide_eq_true (fun u hu ⟨p, l, e, hw, _, hl⟩ => ?_)
    cases l with
    | nil => subst e; simp at hl; omega
    | cons x l => exact hw.1

end Go.Proofs.Ytoppjjgecgbbkaa

namespace Go.Proofs.Ytoppjjgecgbbkaa
open Go.RowKit
set_option maxRecDepth 10000
set_option maxHeartbeats 800000

theorem path_v {w : World} {pf g n cap : Nat} {σ : Tbl} {ed : Int} (h : LctAt w pf g (n + 1) cap σ ed) {par d rt : Nat → Nat} {F : Fst} (hF : LF (n + 1) σ F par d rt) (v u : Nat) (hv : v < n) (hu : u < n) :
    Calls Try.prog 38 #[.pointer (some ⟨pf, 0, none⟩), .int .i64 ((v : Int) + 1), .int .i64 ((u : Int) + 1)] w fun e w' => e = .returned (.tuple #[]) ∧ ∃ τ l R par' d' rt', LctAt w' pf g (n + 1) cap τ ed ∧ Pathed (n + 1) σ par rt (v + 1) (u + 1) τ l R par' d' rt' ∧ Fr [g] w w' :=
  path_w h hF (v + 1) (u + 1) (by omega) (by omega) (by omega) (by omega)

theorem Pathed.lg {w : World} {pf g n cap : Nat} {σ τ : Tbl} {E : Nat → Nat → Prop} {key : Nat → Int} {ed : Int} {par rt par' d' rt' : Nat → Nat} {i j : Nat} {l : BT} {R : Fst} (h : Pathed (n + 1) σ par rt i j τ l R par' d' rt') (hL : LctAt w pf g (n + 1) cap τ ed)
    (hE : ∀ v u, E v u ↔ Adj par (v + 1) (u + 1)) (hk : ∀ v, v < n → (σ (v + 1)).key = key v) : LG w pf g n E key ed :=
  ⟨cap, τ, _, par', d', rt', hL, h.lf, fun v u => (hE v u).trans (h.adj _ _).symm, fun v hv => by rw [h.key]; exact hk v hv⟩

/-- The path, told over the vertices. -/
theorem Pathed.at {n : Nat} {σ τ : Tbl} {E : Nat → Nat → Prop} {par rt par' d' rt' : Nat → Nat} {v u : Nat} {l : BT} {R : Fst} (h : Pathed (n + 1) σ par rt (v + 1) (u + 1) τ l R par' d' rt')
    (hE : ∀ v u, E v u ↔ Adj par (v + 1) (u + 1)) (hr : rt (v + 1) = rt (u + 1)) : ∃ p, IsPath E v u p ∧ p.map (· + 1) = l.seq ++ [u + 1] ∧ (∀ x ∈ p, x < n) := by
  obtain ⟨h1, h2⟩ := path_unshift hE (h.path hr)
  refine ⟨_, h1, h2, fun x hx => ?_⟩
  have : x + 1 ∈ l.seq ++ [u + 1] := by rw [← h2]; exact List.mem_map.2 ⟨x, hx, rfl⟩
  have hm : x + 1 ∈ (BT.node false l (u + 1) .nil).nodes := by rw [← seq_mem]; simpa [BT.seq] using this
  have := (h.lf.lt (List.mem_cons_self) hm).2
  omega

theorem LG.csize {w : World} {pf g n : Nat} {E : Nat → Nat → Prop} {key : Nat → Int} {ed : Int} (h : LG w pf g n E key ed) : n ≤ 65536 := h.lts.2.2

theorem size_w {w : World} {pf g n : Nat} {E : Nat → Nat → Prop} {key : Nat → Int} {ed : Int} (h : LG w pf g n E key ed) (a : Int) :
    Calls Try.prog 18 #[.pointer (some ⟨pf, 0, none⟩), .int .i64 a] w fun e w' => e = .returned (.int .i64 (if inV n a then (csize n E a.toNat : Int) else 0)) ∧ LG w' pf g n E key ed ∧ Fr [g] w w' := by
  have H := Lib.hid h
  obtain ⟨cap, σ, F, par, d, rt, hL, hF, hE, hk⟩ := h
  have HF := Lib.hid hF; clear hF
  have HE := Lib.hid hE; clear hE
  have HK := Lib.hid hk; clear hk
  have hN := hL.le
  have A1 := has_w hL a
  cases hva : inV n a with
  | false =>
    rw [hva] at A1
    have HA := Lib.hid A1; clear A1 hva
    go_enter Try.func18, Try.ntmps18
    go_wp2_with fail
    refine HA.out.mono ?_
    rintro _ w ⟨rfl, rfl⟩
    go_wp2
    go_ret
    exact ⟨rfl, H.out, Fr.refl _ _⟩
  | true =>
    rw [hva] at A1
    have HA := Lib.hid A1; clear A1
    obtain ⟨v, rfl, hv⟩ := inV_nat hva
    clear hva
    go_enter Try.func18, Try.ntmps18
    go_wp2_with fail
    refine HA.out.mono ?_
    rintro _ w ⟨rfl, rfl⟩
    go_wp2_with fail
    refine (expose_v hL HF.out v hv).mono ?_
    rintro _ w2 ⟨m1, τ1, l1, R1, rfl, hL1, hE1, hF1⟩
    have hres : (τ1 (v + 1)).total = (csize n E v : Int) := by
      have h1 := (hE1.lf.rep _ (List.mem_cons_self)).2.2.2.2.1
      have h2 := hE1.lf.size (x := v + 1) (by simp [BT.nodes])
      rw [h1, h2]
      have hp : (fnodes ((BT.node false l1 (v + 1) BT.nil, 0) :: R1)).Perm ((List.range n).map (· + 1)) := by
        refine (List.perm_ext_iff_of_nodup hE1.lf.nd (nodup_map_succ.2 List.nodup_range)).2 (fun x => ?_)
        rw [hE1.lf.mem]
        simp only [List.mem_map, List.mem_range]
        exact ⟨fun h => ⟨x - 1, by omega, by omega⟩, fun ⟨y, hy, e⟩ => by omega⟩
      have e : ((fnodes ((BT.node false l1 (v + 1) BT.nil, 0) :: R1)).filter (fun y => decide (rt y = rt (v + 1)))).length = csize n E v := by
        rw [(hp.filter _).length_eq, List.filter_map, List.length_map]
        unfold Proofs.Ytoppjjgecgbbkaa.csize
        congr 1
        refine List.filter_congr (fun x _ => ?_)
        show decide (rt (x + 1) = rt (v + 1)) = _
        refine decide_eq_decide.2 ?_
        rw [conn_rt HF.out.rtd HE.out]; exact eq_comm
      rw [e]
      have := csize_le n E v
      unfold wrap64; omega
    have HE1 := Lib.hid hE1; clear hE1
    have a8 := hL1.nodes.c8 (v + 1) (by omega)
    rw [hres] at a8
    clear hres
    have d1 := hL1.hd.cell 1
    simp only [List.getElem?_cons_zero, List.getElem?_cons_succ] at d1
    have hv2 : ((v + 1 : Nat) : Int) < ((n + 1 : Nat) : Int) := by omega
    go_wp2
    go_ret
    exact ⟨rfl, ⟨cap, τ1, _, par, d, rt, hL1, HE1.out.lf, HE.out, fun x hx => by rw [HE1.out.key]; exact HK.out x hx⟩, hF1⟩

/-- A forest whose header counts its edges. -/
def LM (w : World) (pf g n : Nat) (E : Nat → Nat → Prop) (key : Nat → Int) : Prop := LG w pf g n E key ((n : Int) - nc n E)

theorem trees_w {w : World} {pf g n : Nat} {E : Nat → Nat → Prop} {key : Nat → Int} (h : LM w pf g n E key) :
    Calls Try.prog 17 #[.pointer (some ⟨pf, 0, none⟩)] w fun e w' => e = .returned (.int .i64 (nc n E)) ∧ ∃ k, w' = w.drewN k := by
  have hn := LG.csize h
  obtain ⟨cap, σ, F, par, d, rt, hL, hF, hE, hk⟩ := h
  clear hF hE hk
  have hnc := nc_le n E
  generalize nc n E = q at *
  have c0 := hL.hd.cell 0
  have c1 := hL.hd.cell 1
  have c2 := hL.hd.cell 2
  simp only [List.getElem?_cons_zero, List.getElem?_cons_succ] at c0 c1 c2
  have hV := Lib.hid (valid_w c0)
  have hw1 : IntKind.i64.wrap ((n : Int) - ((n : Int) - q)) = q := by rw [show (n : Int) - ((n : Int) - q) = q by omega]; exact IntWalk.i64_in _ (by omega)
  clear hL
  go_enter Try.func17, Try.ntmps17
  go_wp2_with fail
  refine hV.out.mono ?_
  rintro _ w ⟨rfl, rfl⟩
  go_wp2
  go_quiet (fail)
  go_wp2
  go_ret
  exact ⟨ret_int (by omega), _, rfl⟩

theorem dist_w {w : World} {pf g n : Nat} {E : Nat → Nat → Prop} {key : Nat → Int} {ed : Int} (h : LG w pf g n E key ed) (a b : Int) :
    Calls Try.prog 21 #[.pointer (some ⟨pf, 0, none⟩), .int .i64 a, .int .i64 b] w fun e w' => ∃ x : Int, e = .returned (.int .i64 x) ∧ ((¬ ConnI n E a b ∧ x = -1) ∨ ∃ (v u : Nat) (p : List Nat), a = v ∧ b = u ∧ v < n ∧ u < n ∧ IsPath E v u p ∧ x = (p.length : Int) - 1) ∧ LG w' pf g n E key ed ∧ Fr [g] w w' := by
  go_enter Try.func21, Try.ntmps21
  go_wp2_with fail
  refine (connected_w h a b).mono ?_
  rintro _ w2 ⟨r, rfl, hr, h2, hF2⟩
  have HR := Lib.hid hr; clear hr
  cases r with
  | false =>
    have H2 := Lib.hid h2; clear h2 h
    go_wp2
    go_ret
    exact ⟨-1, rfl, .inl ⟨fun e => (by have := HR.out.2 e; cases this), rfl⟩, H2.out, hF2⟩
  | true =>
    obtain ⟨va, vb, hc⟩ := HR.out.1 rfl
    obtain ⟨v, rfl, hv⟩ := inV_nat va
    obtain ⟨u, rfl, hu⟩ := inV_nat vb
    clear va vb HR h
    obtain ⟨cap, σ, F, par, d, rt, hL, hF, hE, hk⟩ := h2
    have hrt := (conn_rt hF.rtd hE).1 hc
    have HF := Lib.hid hF; clear hF
    have HE := Lib.hid hE; clear hE
    have HK := Lib.hid hk; clear hk
    have hN := hL.le
    go_wp2_with fail
    refine (path_v hL HF.out v u hv hu).mono ?_
    rintro _ w3 ⟨rfl, τ, l, R, par', d', rt', hL3, hP, hF3⟩
    obtain ⟨p, hp1, hp2, hp3⟩ := hP.at HE.out hrt
    have hpl : (τ (u + 1)).size = (p.length : Int) ∧ p.length ≤ n ∧ 0 < p.length := by
      have h1 := (hP.lf.rep _ (List.mem_cons_self)).2.2.2.1
      have h2 : (BT.node false l (u + 1) .nil).nodes.length = p.length := by
        rw [← (BT.seq_perm _).length_eq]
        have := congrArg List.length hp2
        simpa [BT.seq] using this.symm
      have h3 := nodup_le hp1.nd hp3
      have h4 : 0 < p.length := List.length_pos_iff.2 hp1.ne
      refine ⟨?_, h3, h4⟩
      rw [h1, h2]; unfold wrap64; omega
    obtain ⟨q1, q2, q3⟩ := hpl
    have a5 := hL3.nodes.c5 (u + 1) (by omega)
    rw [q1] at a5
    have HP := Lib.hid hP; clear hP
    have Hp := Lib.hid hp1; clear hp1 hp2 hp3 q1
    have d1 := hL3.hd.cell 1
    simp only [List.getElem?_cons_zero, List.getElem?_cons_succ] at d1
    have hu2 : ((u + 1 : Nat) : Int) < ((n + 1 : Nat) : Int) := by omega
    go_wp2
    go_ret
    exact ⟨_, rfl, .inr ⟨v, u, p, rfl, rfl, hv, hu, Hp.out, rfl⟩, HP.out.lg hL3 HE.out HK.out, hF2.then hF3⟩

end Go.Proofs.Ytoppjjgecgbbkaa
