/- lct: slices.Backward over a row of places. -/
import Derived.Test.YtgmnemndjjmgkaaGreatB10
import Derived.RangeFuncNested
import Derived.RangeFuncBound
import Derived.RangeFuncCalls
import Derived.RangeFuncLeaves
import Derived.Shelf.Abstract
import Derived.Shelf.RegionOpen
import Derived.OwnWalkIn
import Derived.TacticsInMore
import Derived.LoopNIn
import Derived.LoopIn
import Derived.Test.YtgmnemndjjmgkaaGreatB9
import Derived.Test.YtgmnemndjjmgkaaGreatB2
set_option linter.unusedSimpArgs false
set_option linter.unusedVariables false
/- lct: paths of a forest, and how many vertices hang from a top path. -/
namespace Go.Proofs.YtgmnemndjjmgkaaGreat
open Go.RowKit

def Wk (E : Nat → Nat → Prop) : Nat → List Nat → Prop
  | _, [] => True
  | a, x :: l => E a x ∧ Wk E x l
/-- A path from a to b that repeats no vertex. -/
def IsPath (E : Nat → Nat → Prop) (a b : Nat) (p : List Nat) : Prop := ∃ l, p = a :: l ∧ Wk E a l ∧ p.Nodup ∧ p.getLast? = some b

theorem wk_ne {par : Nat → Nat} : ∀ {a : Nat} {l : List Nat}, Wk (Adj par) a l → ∀ x ∈ l, x ≠ 0
  | a, y :: l, ⟨h1, h2⟩, x, hx => by
    rcases List.mem_cons.1 hx with rfl | hx
    · exact h1.2.1
    · exact wk_ne h2 x hx
theorem wk_mono {E E' : Nat → Nat → Prop} (h : ∀ x y, E x y → E' x y) : ∀ {a : Nat} {l : List Nat}, Wk E a l → Wk E' a l
  | _, [], _ => trivial
  | _, _y :: _l, ⟨h1, h2⟩ => ⟨h _ _ h1, wk_mono h h2⟩
theorem IsPath.mono {E E' : Nat → Nat → Prop} (h : ∀ x y, E x y → E' x y) {a b : Nat} {p : List Nat} (hp : IsPath E a b p) : IsPath E' a b p := by
  obtain ⟨l, h1, h2, h3, h4⟩ := hp
  exact ⟨l, h1, wk_mono h h2, h3, h4⟩
theorem ch_wk {par : Nat → Nat} : ∀ {a : Nat} {l : List Nat}, a ≠ 0 → (∀ x ∈ l, x ≠ 0) → Ch par a l → Wk (Adj par) a l
  | _, [], _, _, _ => trivial
  | a, y :: l, ha, hn, ⟨h1, h2⟩ => ⟨⟨ha, hn y (by simp), .inr h1⟩, ch_wk (hn y (by simp)) (fun x hx => hn x (by simp [hx])) h2⟩
theorem wk_ch {par : Nat → Nat} : ∀ {a : Nat} {l : List Nat}, Wk (Adj par) a l → (a :: l).Nodup → par a ∉ l → Ch par a l
  | _, [], _, _, _ => trivial
  | a, y :: l, ⟨h1, h2⟩, hn, hp => by
    have hy : par y = a := by
      rcases h1.2.2 with e | e
      · exact absurd (by rw [e]; simp) hp
      · exact e
    have hn2 := List.nodup_cons.1 hn
    exact ⟨hy, wk_ch h2 hn2.2 (by rw [hy]; exact fun e => hn2.1 (by simp [e]))⟩
theorem ch_unique {par : Nat → Nat} {b : Nat} : ∀ (n : Nat) (S T : List Nat), S.length ≤ n → Ch par 0 (S ++ [b]) → Ch par 0 (T ++ [b]) → (∀ x ∈ S, x ≠ 0) → (∀ x ∈ T, x ≠ 0) → S = T := by
  intro n
  induction n generalizing b with
  | zero =>
    intro S T hn hS hT _ hz
    obtain rfl : S = [] := List.length_eq_zero_iff.1 (by omega)
    rcases List.eq_nil_or_concat T with rfl | ⟨T', z, rfl⟩
    · rfl
    · rw [List.concat_eq_append, List.append_assoc] at hT
      have h1 : par b = z := (ch_mid.1 hT).2.1
      have h2 : par b = 0 := hS.1
      exact absurd (h1.symm.trans h2) (hz z (by simp))
  | succ n ih =>
    intro S T hn hS hT hzS hzT
    rcases List.eq_nil_or_concat T with rfl | ⟨T', z, rfl⟩
    · rcases List.eq_nil_or_concat S with rfl | ⟨S', y, rfl⟩
      · rfl
      · rw [List.concat_eq_append, List.append_assoc] at hS
        have h1 : par b = y := (ch_mid.1 hS).2.1
        have h2 : par b = 0 := hT.1
        exact absurd (h1.symm.trans h2) (hzS y (by simp))
    · rcases List.eq_nil_or_concat S with rfl | ⟨S', y, rfl⟩
      · rw [List.concat_eq_append, List.append_assoc] at hT
        have h1 : par b = z := (ch_mid.1 hT).2.1
        have h2 : par b = 0 := hS.1
        exact absurd (h1.symm.trans h2) (hzT z (by simp))
      · rw [List.concat_eq_append, List.append_assoc] at hS hT
        have h1 : par b = y := (ch_mid.1 hS).2.1
        have h2 : par b = z := (ch_mid.1 hT).2.1
        obtain rfl : y = z := h1.symm.trans h2
        have := ih S' T' (by simp at hn; omega) (ch_mid.1 hS).1 (ch_mid.1 hT).1 (fun x hx => hzS x (by simp [hx])) (fun x hx => hzT x (by simp [hx]))
        rw [this]

section
variable {par d rt : Nat → Nat}
theorem Rtd.reroot_at (h : Rtd par d rt) {a : Nat} (ha : a ≠ 0) : ∃ par' d' rt', Rtd par' d' rt' ∧ (∀ x y, Adj par' x y ↔ Adj par x y) ∧ (∀ x y, rt' x = rt' y ↔ rt x = rt y) ∧ rt' a = a ∧ par' a = 0 := by
  obtain ⟨S, h1, h2, h3, _⟩ := h.chain (d a) a (Nat.le_refl _) ha
  obtain ⟨par', d', rt', a1, _, _, a4, a5, a6, a7⟩ := reroot h h2 h3 h1
  exact ⟨par', d', rt', a1, a4, a5, a6, a7⟩

theorem getLast_snoc {l : List Nat} {b : Nat} (h : l.getLast? = some b) : ∃ S, l = S ++ [b] := by
  rcases List.eq_nil_or_concat l with rfl | ⟨S, x, rfl⟩
  · simp at h
  · simp at h; subst h; exact ⟨S, by simp⟩

theorem Rtd.unique (h : Rtd par d rt) {a b : Nat} (ha : a ≠ 0) {p q : List Nat} (hp : IsPath (Adj par) a b p) (hq : IsPath (Adj par) a b q) : p = q := by
  obtain ⟨par', d', rt', h', hadj, _, _, hpa⟩ := h.reroot_at ha
  have key : ∀ {p : List Nat}, IsPath (Adj par) a b p → ∃ S, p = S ++ [b] ∧ Ch par' 0 p ∧ ∀ x ∈ p, x ≠ 0 := by
    intro p hp
    obtain ⟨l, rfl, h2, h3, h4⟩ := hp.mono (fun x y => (hadj x y).2)
    obtain ⟨S, hS⟩ := getLast_snoc h4
    have hn := wk_ne h2
    refine ⟨S, hS, ⟨hpa, wk_ch h2 h3 (by rw [hpa]; exact fun e => hn 0 e rfl)⟩, fun x hx => ?_⟩
    rcases List.mem_cons.1 hx with rfl | hx
    · exact ha
    · exact hn x hx
  obtain ⟨S, e1, c1, n1⟩ := key hp
  obtain ⟨T, e2, c2, n2⟩ := key hq
  rw [e1] at c1 n1; rw [e2] at c2 n2
  rw [e1, e2, ch_unique S.length S T (Nat.le_refl _) c1 c2 (fun x hx => n1 x (by simp [hx])) (fun x hx => n2 x (by simp [hx]))]

theorem wk_rt (h : Rtd par d rt) : ∀ {a : Nat} {l : List Nat}, Wk (Adj par) a l → ∀ x ∈ a :: l, rt x = rt a
  | a, [], _, x, hx => by simp at hx; rw [hx]
  | a, y :: l, ⟨h1, h2⟩, x, hx => by
    rcases List.mem_cons.1 hx with rfl | hx
    · rfl
    · rw [wk_rt h h2 x hx, h.adj h1]
theorem Rtd.conn (h : Rtd par d rt) {a b : Nat} (ha : a ≠ 0) (hb : b ≠ 0) : (∃ p, IsPath (Adj par) a b p) ↔ rt a = rt b := by
  constructor
  · rintro ⟨p, l, rfl, h2, _, h4⟩
    exact (wk_rt h h2 b (List.mem_of_getLast? h4)).symm
  · intro e
    obtain ⟨par', d', rt', h', hadj, hrt, hra, hpa⟩ := h.reroot_at ha
    obtain ⟨S, c1, c2, c3, _⟩ := h'.chain (d' b) b (Nat.le_refl _) hb
    have e' : rt' b = a := by rw [← (hrt a b).2 e, hra]
    cases hS : S ++ [b] with
    | nil => simp at hS
    | cons y l =>
      have hbm : b ∈ y :: l := by rw [← hS]; simp
      rw [hS] at c1 c2 c3
      have hy : y = a := by rw [← ch_rt_head h'.rt0 h'.rt1 c1 c3 b hbm, e']
      subst hy
      have : IsPath (Adj par') y b (y :: l) := ⟨l, rfl, ch_wk ha (fun x hx => c3 x (by simp [hx])) c1.2, c2, by rw [← hS]; simp⟩
      exact ⟨_, this.mono (fun x y => (hadj x y).1)⟩
end

/-- What a top path with all that hangs from it counts. -/
def Cong (x y : Int) : Prop := ∃ k : Int, x = y + k * 18446744073709551616
theorem Cong.wrap {x y : Int} (h : Cong x y) : wrap64 x = wrap64 y := by obtain ⟨k, rfl⟩ := h; unfold wrap64; omega
theorem cong_wrap (x : Int) : Cong (wrap64 x) x := ⟨-((x + 9223372036854775808) / 18446744073709551616), by unfold wrap64; omega⟩

def fsum (f : Nat → Int) (l : List Nat) : Int := (l.map f).sum
theorem fsum_cons (f : Nat → Int) (x : Nat) (l : List Nat) : fsum f (x :: l) = f x + fsum f l := by simp [fsum]
theorem fsum_add (f g : Nat → Int) (l : List Nat) : fsum (fun x => f x + g x) l = fsum f l + fsum g l := by
  induction l with
  | nil => rfl
  | cons x l ih => simp only [fsum_cons, ih]; omega
theorem fsum_zero (l : List Nat) : fsum (fun _ => 0) l = 0 := by
  induction l with
  | nil => rfl
  | cons x l ih => simp only [fsum_cons, ih]; omega
theorem fsum_cong {f g : Nat → Int} : ∀ {l : List Nat}, (∀ x ∈ l, Cong (f x) (g x)) → Cong (fsum f l) (fsum g l)
  | [], _ => ⟨0, by simp [fsum]⟩
  | x :: l, h => by
    obtain ⟨k, hk⟩ := h x (by simp)
    obtain ⟨m, hm⟩ := fsum_cong (l := l) (fun y hy => h y (by simp [hy]))
    exact ⟨k + m, by rw [fsum_cons, fsum_cons, hk, hm]; omega⟩
theorem fsum_pick (v : Nat) (c : Int) : ∀ {l : List Nat}, l.Nodup → fsum (fun y => if v = y then c else 0) l = if v ∈ l then c else 0
  | [], _ => by simp [fsum]
  | x :: l, h => by
    have hn := List.nodup_cons.1 h
    rw [fsum_cons, fsum_pick v c hn.2]
    by_cases e : v = x
    · subst e; simp [hn.1]
    · simp [e]
theorem tot_fsum (σ : Tbl) (l : List Nat) : tot σ l = (l.length : Int) + fsum (fun x => (σ x).light) l := by
  unfold tot fsum
  induction l with
  | nil => rfl
  | cons x l ih => simp only [List.map_cons, List.sum_cons, List.length_cons, ih]; omega
theorem tot_append (σ : Tbl) (l m : List Nat) : tot σ (l ++ m) = tot σ l + tot σ m := by simp [tot]

def psum (f : BT × Nat → Int) : Fst → Int
  | [] => 0
  | p :: F => f p + psum f F
theorem psum_congr {f g : BT × Nat → Int} : ∀ {F : Fst}, (∀ p ∈ F, f p = g p) → psum f F = psum g F
  | [], _ => rfl
  | p :: F, h => by simp only [psum]; rw [h p (by simp), psum_congr (fun q hq => h q (by simp [hq]))]
theorem psum_filter (σ : Tbl) (C : Nat → Bool) : ∀ F : Fst, psum (fun p => tot σ (p.1.nodes.filter C)) F = tot σ ((fnodes F).filter C)
  | [] => by simp [psum, fnodes, tot]
  | p :: F => by simp only [psum]; rw [psum_filter σ C F, fnodes_cons, List.filter_append, tot_append]
theorem fsum_lsum (σ : Tbl) {l : List Nat} (hl : l.Nodup) : ∀ F : Fst, fsum (lsum σ F) l = psum (fun p => if p.2 ∈ l then tot σ p.1.nodes else 0) F
  | [] => by show fsum (fun _ => 0) l = 0; exact fsum_zero l
  | p :: F => by
    show fsum (fun v => (if p.2 = v then tot σ p.1.nodes else 0) + lsum σ F v) l = _
    rw [fsum_add, fsum_pick p.2 _ hl]
    show _ + fsum (lsum σ F) l = _
    rw [fsum_lsum σ hl F]; rfl

section
variable {N : Nat} {σ : Tbl} {R : Fst} {par d rt : Nat → Nat} {t : BT}
theorem LF.size (h : LF N σ ((t, 0) :: R) par d rt) {x : Nat} (hx : x ∈ t.nodes) : wrap64 (tot σ t.nodes) = wrap64 (((fnodes ((t, 0) :: R)).filter (fun y => rt y = rt x)).length : Nat) := by
  have m1 : (t, 0) ∈ (t, 0) :: R := by simp
  obtain ⟨C, hC⟩ : ∃ C : Nat → Bool, C = fun y => decide (rt y = rt x) := ⟨_, rfl⟩
  have hCC : ∀ y, C y = true ↔ rt y = rt x := fun y => by rw [hC]; simp
  show wrap64 _ = wrap64 (((fnodes ((t, 0) :: R)).filter (fun y => decide (rt y = rt x))).length : Nat)
  rw [← hC]
  have e1 := psum_filter σ C ((t, 0) :: R)
  rw [tot_fsum] at e1
  generalize hl : (fnodes ((t, 0) :: R)).filter C = l at *
  have hln : l.Nodup := by rw [← hl]; exact h.nd.filter _
  have e2 : Cong (fsum (fun y => (σ y).light) l) (fsum (lsum σ ((t, 0) :: R)) l) := fsum_cong (fun y hy => by
    rw [← hl, List.mem_filter] at hy
    have := (h.mem y).1 hy.1
    rw [h.light y this.1 this.2]; exact cong_wrap _)
  rw [fsum_lsum σ hln] at e2
  have h0 : (0 : Nat) ∉ l := by
    rw [← hl, List.mem_filter]; intro e
    have := ((h.mem 0).1 e.1).1; omega
  have et : t.nodes.filter C = t.nodes := List.filter_eq_self.2 (fun y hy => (hCC y).2 ((h.same m1).1 y hy x hx))
  have eR : psum (fun p => tot σ (p.1.nodes.filter C)) R = psum (fun p => if p.2 ∈ l then tot σ p.1.nodes else 0) R := by
    refine psum_congr (fun p hp => ?_)
    have mp : p ∈ (t, 0) :: R := by simp [hp]
    have none : (∀ y ∈ p.1.nodes, C y = false) → tot σ (p.1.nodes.filter C) = 0 := by
      intro hy
      rw [List.filter_eq_nil_iff.2 (fun y h => by simp [hy y h])]; rfl
    by_cases e0 : p.2 = 0
    · rw [e0, if_neg h0]
      refine none (fun y hy => ?_)
      apply Classical.byContradiction
      intro hc
      have hry : rt y = rt x := (hCC y).1 (by simpa using hc)
      -- two top paths of one tree have the same first vertex
      have c1 := h.ch _ m1
      have c2 := h.ch _ mp
      rw [e0] at c2
      have z1 := h.seq0 m1
      have z2 := h.seq0 mp
      have sx := seq_mem.2 hx
      have sy := seq_mem.2 hy
      have hdis := h.disj hp
      cases hs1 : t.seq with
      | nil => rw [hs1] at sx; cases sx
      | cons a s1 =>
        cases hs2 : p.1.seq with
        | nil => rw [hs2] at sy; cases sy
        | cons b s2 =>
          dsimp only at c1 z1
          rw [hs1] at c1 z1 sx; rw [hs2] at c2 z2 sy
          have ra := ch_rt_head h.rt0 h.rt1 c1 z1 x sx
          have rb := ch_rt_head h.rt0 h.rt1 c2 z2 y sy
          have hab : a = b := by rw [← ra, ← hry, rb]
          exact hdis a (seq_mem.1 (by rw [hs1]; simp)) (seq_mem.1 (by rw [hs2, hab]; simp))
    · have hu := (h.same mp).2 e0
      have hul : p.2 ∈ l ↔ rt p.2 = rt x := by
        rw [← hl, List.mem_filter, hCC]
        exact ⟨fun e => e.2, fun e => ⟨(h.mem _).2 ⟨by omega, h.up p mp⟩, e⟩⟩
      by_cases hcu : rt p.2 = rt x
      · rw [if_pos (hul.2 hcu), List.filter_eq_self.2 (fun y hy => (hCC y).2 ((hu y hy).trans hcu))]
      · rw [if_neg (fun e => hcu (hul.1 e))]
        refine none (fun y hy => ?_)
        apply Classical.byContradiction
        intro hc
        exact hcu ((hu y hy).symm.trans ((hCC y).1 (by simpa using hc)))
  simp only [psum, if_neg h0] at e1 e2
  rw [et, eR] at e1
  refine Cong.wrap ?_
  obtain ⟨k, hk⟩ := e2
  exact ⟨k, by omega⟩
end

/-- The forest without edges. -/
theorem LF.new (n : Nat) (σ : Tbl) (h0 : (σ 0).total = 0 ∧ (σ 0).k0 = 0 ∧ (σ 0).k1 = 0 ∧ (σ 0).up = 0 ∧ (σ 0).first = 0)
    (h1 : ∀ x, 0 < x → x < n + 1 → (σ x).k0 = 0 ∧ (σ x).k1 = 0 ∧ (σ x).up = 0 ∧ (σ x).flip = false ∧ (σ x).size = 1 ∧ (σ x).first = x ∧ (σ x).light = 0 ∧ (σ x).total = 1) :
    LF (n + 1) σ ((List.range n).map fun v => (.node false .nil (v + 1) .nil, 0)) (fun _ => 0) (fun _ => 0) id := by
  have hfn : fnodes ((List.range n).map fun v => (BT.node false .nil (v + 1) .nil, 0)) = (List.range n).map (· + 1) := by
    unfold fnodes
    rw [List.flatMap_map]
    simp [BT.nodes]
    rw [← List.map_eq_flatMap]
  refine ⟨fun p hp => ?_, ?_, fun x => ?_, fun p hp => ?_, fun p hp => ?_, fun x hx => absurd rfl hx, fun _ _ => rfl, fun _ _ => rfl, fun x hx => absurd rfl hx, fun v hv1 hv2 => ?_, h0, by omega⟩
  · obtain ⟨v, hv, rfl⟩ := List.mem_map.1 hp
    have hv := List.mem_range.1 hv
    obtain ⟨a1, a2, a3, a4, a5, a6, a7, a8⟩ := h1 (v + 1) (by omega) (by omega)
    refine ⟨⟨by omega, a3, a4, a1, a2⟩, trivial, trivial, ?_, ?_, ?_⟩
    · rw [a5]; simp [BT.nodes, wrap64]
    · rw [a8]; simp [BT.nodes, tot, a7, wrap64]
    · rw [a6]; simp [BT.nodes, IsBest]
  · rw [hfn]
    exact List.pairwise_map.2 (List.nodup_range.imp (fun {a b} hab => by omega))
  · rw [hfn]
    simp only [List.mem_map, List.mem_range]
    constructor
    · rintro ⟨v, hv, rfl⟩; omega
    · intro h; exact ⟨x - 1, by omega, by omega⟩
  · obtain ⟨v, hv, rfl⟩ := List.mem_map.1 hp
    show 0 < n + 1; omega
  · obtain ⟨v, hv, rfl⟩ := List.mem_map.1 hp
    simp [BT.seq, Ch]
  · have hl : ∀ F : Fst, (∀ p ∈ F, p.2 = 0) → lsum σ F v = 0 := by
      intro F hF
      induction F with
      | nil => rfl
      | cons p F ih =>
        simp only [lsum]
        rw [ih (fun q hq => hF q (by simp [hq])), hF p (by simp), if_neg (by omega)]; rfl
    rw [hl _ (fun p hp => by obtain ⟨v, _, rfl⟩ := List.mem_map.1 hp; rfl), (h1 v hv1 hv2).2.2.2.2.2.2.1]
    simp [wrap64]

end Go.Proofs.YtgmnemndjjmgkaaGreat

/- lct: the forest over its vertices 0 .. n-1 (vertex v lies at the place v+1). -/
namespace Go.Proofs.YtgmnemndjjmgkaaGreat
open Go.RowKit

theorem last_snoc (l : List Nat) (x : Nat) : (l ++ [x]).getLast? = some x := by simp
theorem last_app (l m : List Nat) (x : Nat) : (l ++ x :: m).getLast? = (x :: m).getLast? := by
  rw [List.getLast?_append]
  cases h : (x :: m).getLast? with
  | none => rw [List.getLast?_eq_none_iff] at h; cases h
  | some y => rfl

def Conn (E : Nat → Nat → Prop) (a b : Nat) : Prop := ∃ p, IsPath E a b p

theorem wk_map {E : Nat → Nat → Prop} {par : Nat → Nat} (h : ∀ v u, E v u ↔ Adj par (v + 1) (u + 1)) : ∀ {a : Nat} {l : List Nat}, Wk E a l ↔ Wk (Adj par) (a + 1) (l.map (· + 1))
  | _, [] => Iff.rfl
  | a, x :: l => by simp only [Wk, List.map_cons]; rw [h, wk_map h]
theorem nodup_map_succ {l : List Nat} : (l.map (· + 1)).Nodup ↔ l.Nodup := by
  constructor
  · intro h; exact (List.pairwise_map.1 h).imp (fun {a b} hab e => hab (by rw [e]))
  · intro h; exact List.pairwise_map.2 (h.imp (fun {a b} hab => by omega))
theorem map_pred_succ {l : List Nat} (h : ∀ x ∈ l, x ≠ 0) : (l.map (· - 1)).map (· + 1) = l := by
  rw [List.map_map]
  refine (List.map_congr_left (fun x hx => ?_)).trans (List.map_id l)
  have := h x hx
  show x - 1 + 1 = id x
  simp; omega
theorem map_succ_pred (l : List Nat) : (l.map (· + 1)).map (· - 1) = l := by
  rw [List.map_map]
  exact (List.map_congr_left (fun x hx => by show x + 1 - 1 = id x; simp)).trans (List.map_id l)

theorem path_shift {E : Nat → Nat → Prop} {par : Nat → Nat} (h : ∀ v u, E v u ↔ Adj par (v + 1) (u + 1)) {v u : Nat} {p : List Nat} : IsPath E v u p ↔ IsPath (Adj par) (v + 1) (u + 1) (p.map (· + 1)) := by
  constructor
  · rintro ⟨l, rfl, h2, h3, h4⟩
    refine ⟨l.map (· + 1), rfl, (wk_map h).1 h2, nodup_map_succ.2 h3, ?_⟩
    rw [List.getLast?_map, h4]; rfl
  · rintro ⟨l, h1, h2, h3, h4⟩
    cases p with
    | nil => cases h1
    | cons x p =>
      simp only [List.map_cons, List.cons.injEq] at h1
      obtain ⟨e, rfl⟩ := h1
      obtain rfl : x = v := by omega
      refine ⟨p, rfl, (wk_map h).2 h2, nodup_map_succ.1 h3, ?_⟩
      rw [List.getLast?_map] at h4
      cases hl : (x :: p).getLast? with
      | none => rw [hl] at h4; cases h4
      | some y => rw [hl] at h4; simp at h4; rw [h4]
theorem path_unshift {E : Nat → Nat → Prop} {par : Nat → Nat} (h : ∀ v u, E v u ↔ Adj par (v + 1) (u + 1)) {v u : Nat} {q : List Nat} (hq : IsPath (Adj par) (v + 1) (u + 1) q) : IsPath E v u (q.map (· - 1)) ∧ (q.map (· - 1)).map (· + 1) = q := by
  have hn : ∀ x ∈ q, x ≠ 0 := by
    obtain ⟨l, rfl, h2, _⟩ := hq
    intro x hx
    rcases List.mem_cons.1 hx with rfl | hx
    · omega
    · exact wk_ne h2 x hx
  have e := map_pred_succ hn
  exact ⟨(path_shift h).2 (by rw [e]; exact hq), e⟩

/-- A forest. -/
def Frs (E : Nat → Nat → Prop) : Prop := ∃ par d rt, Rtd par d rt ∧ ∀ v u, E v u ↔ Adj par (v + 1) (u + 1)

section
variable {E : Nat → Nat → Prop} {a b c : Nat} {p q r : List Nat}
theorem Frs.symm (h : Frs E) {v u : Nat} (he : E v u) : E u v := by
  obtain ⟨par, d, rt, _, h2⟩ := h
  exact (h2 u v).2 ((h2 v u).1 he).symm
theorem Frs.irrefl (h : Frs E) (v : Nat) : ¬ E v v := by
  obtain ⟨par, d, rt, h1, h2⟩ := h
  exact fun e => h1.irrefl _ ((h2 v v).1 e)
theorem Frs.unique (h : Frs E) (hp : IsPath E a b p) (hq : IsPath E a b q) : p = q := by
  obtain ⟨par, d, rt, h1, h2⟩ := h
  have := h1.unique (by omega) ((path_shift h2).1 hp) ((path_shift h2).1 hq)
  rw [← map_succ_pred p, this, map_succ_pred]
theorem conn_rt {par d rt : Nat → Nat} (h1 : Rtd par d rt) (h2 : ∀ v u, E v u ↔ Adj par (v + 1) (u + 1)) : Conn E a b ↔ rt (a + 1) = rt (b + 1) := by
  rw [← h1.conn (by omega) (by omega)]
  constructor
  · rintro ⟨p, hp⟩; exact ⟨_, (path_shift h2).1 hp⟩
  · rintro ⟨p, hp⟩; exact ⟨_, (path_unshift h2 hp).1⟩
theorem isPath_self (E : Nat → Nat → Prop) (a : Nat) : IsPath E a a [a] := ⟨[], rfl, trivial, by simp, rfl⟩
theorem Conn.refl (E : Nat → Nat → Prop) (a : Nat) : Conn E a a := ⟨[a], isPath_self E a⟩
theorem Frs.csymm (h : Frs E) (hc : Conn E a b) : Conn E b a := by
  obtain ⟨par, d, rt, h1, h2⟩ := h
  exact (conn_rt h1 h2).2 ((conn_rt h1 h2).1 hc).symm
theorem Frs.ctrans (h : Frs E) (hc : Conn E a b) (hd : Conn E b c) : Conn E a c := by
  obtain ⟨par, d, rt, h1, h2⟩ := h
  exact (conn_rt h1 h2).2 (((conn_rt h1 h2).1 hc).trans ((conn_rt h1 h2).1 hd))
theorem Frs.edge (h : Frs E) (he : E a b) : IsPath E a b [a, b] := by
  refine ⟨[b], rfl, ⟨he, trivial⟩, ?_, rfl⟩
  have : a ≠ b := by rintro rfl; exact h.irrefl a he
  simp [this]

theorem wk_append {x : Nat} {l m : List Nat} : Wk E a (l ++ x :: m) ↔ Wk E a (l ++ [x]) ∧ Wk E x m := by
  induction l generalizing a with
  | nil => simp [Wk]
  | cons y l ih => simp only [List.cons_append, Wk]; rw [ih, and_assoc]
/-- A path that leads over a vertex. -/
theorem IsPath.split {A B : List Nat} {m : Nat} (hp : IsPath E a b (A ++ m :: B)) : IsPath E a m (A ++ [m]) ∧ IsPath E m b (m :: B) := by
  obtain ⟨l, h1, h2, h3, h4⟩ := hp
  have hn := List.nodup_append.1 h3
  have e : A ++ m :: B = (A ++ [m]) ++ B := by simp
  have hl : (m :: B).getLast? = some b := by rw [← h4, last_app]
  refine ⟨?_, B, rfl, ?_, hn.2.1, hl⟩
  · have hna : (A ++ [m]).Nodup := by rw [e] at h3; exact (List.nodup_append.1 h3).1
    cases A with
    | nil => simp at h1; obtain ⟨rfl, rfl⟩ := h1; exact isPath_self E m
    | cons x A =>
      simp at h1; obtain ⟨rfl, rfl⟩ := h1
      exact ⟨A ++ [m], rfl, (wk_append.1 h2).1, hna, last_snoc _ _⟩
  · cases A with
    | nil => simp at h1; obtain ⟨rfl, rfl⟩ := h1; exact h2
    | cons x A => simp at h1; obtain ⟨rfl, rfl⟩ := h1; exact (wk_append.1 h2).2
theorem IsPath.first (hp : IsPath E a b p) : ∃ l, p = a :: l := by obtain ⟨l, h, _⟩ := hp; exact ⟨l, h⟩
theorem IsPath.last (hp : IsPath E a b p) : p.getLast? = some b := by obtain ⟨l, _, _, _, h⟩ := hp; exact h
theorem IsPath.nd (hp : IsPath E a b p) : p.Nodup := by obtain ⟨l, _, _, h, _⟩ := hp; exact h
theorem IsPath.ne (hp : IsPath E a b p) : p ≠ [] := by obtain ⟨l, rfl, _⟩ := hp; simp
end

end Go.Proofs.YtgmnemndjjmgkaaGreat

/- lct: how many trees a forest has, and how an edge changes that. -/
namespace Go.Proofs.YtgmnemndjjmgkaaGreat
open Go.RowKit Classical

/-- The vertex is the first one of its tree. -/
def IsFirst (E : Nat → Nat → Prop) (v : Nat) : Prop := ∀ u, u < v → ¬ Conn E v u
noncomputable def nc (n : Nat) (E : Nat → Nat → Prop) : Nat := ((List.range n).filter fun v => decide (IsFirst E v)).length
theorem nc_le (n : Nat) (E : Nat → Nat → Prop) : nc n E ≤ n := by
  unfold nc
  have := List.length_filter_le (fun v => decide (IsFirst E v)) (List.range n)
  simpa using this
theorem E_ext {E E' : Nat → Nat → Prop} (h : ∀ v u, E v u ↔ E' v u) : E = E' := funext fun v => funext fun u => propext (h v u)

theorem filter_drop_one {P P' : Nat → Bool} {m : Nat} : ∀ {l : List Nat}, l.Nodup → m ∈ l → P m = true → P' m = false → (∀ x ∈ l, x ≠ m → P' x = P x) → (l.filter P').length + 1 = (l.filter P).length
  | y :: l, hn, hm, h1, h2, h3 => by
    have hn' := List.nodup_cons.1 hn
    by_cases e : y = m
    · subst e
      have : l.filter P' = l.filter P := List.filter_congr (fun x hx => h3 x (by simp [hx]) (by rintro rfl; exact hn'.1 hx))
      simp [h1, h2, this]
    · have hml : m ∈ l := (List.mem_cons.1 hm).resolve_left (fun h => e h.symm)
      have ih := filter_drop_one hn'.2 hml h1 h2 (fun x hx => h3 x (by simp [hx]))
      have hy := h3 y (by simp) e
      cases hp : P y with
      | true => simp [hy, hp, ih]
      | false => simp [hy, hp, ih]

/-- The edges with one more. -/
def addE (E : Nat → Nat → Prop) (a b : Nat) : Nat → Nat → Prop := fun v u => E v u ∨ (v = a ∧ u = b) ∨ (v = b ∧ u = a)
def delE (E : Nat → Nat → Prop) (a b : Nat) : Nat → Nat → Prop := fun v u => E v u ∧ ¬ (v = a ∧ u = b) ∧ ¬ (v = b ∧ u = a)

section
variable {E : Nat → Nat → Prop} {a b n : Nat}
theorem conn_of_edge {v u : Nat} (h : Frs E) (he : E v u) : Conn E v u := ⟨_, h.edge he⟩
theorem conn_add (h : Frs E) (h' : Frs (addE E a b)) (x y : Nat) : Conn (addE E a b) x y ↔ Conn E x y ∨ (Conn E x a ∧ Conn E b y) ∨ (Conn E x b ∧ Conn E a y) := by
  constructor
  · rintro ⟨p, l, rfl, hw, _, hl⟩
    have key : ∀ {l : List Nat} {x : Nat}, Wk (addE E a b) x l → ∀ y ∈ x :: l, Conn E x y ∨ (Conn E x a ∧ Conn E b y) ∨ (Conn E x b ∧ Conn E a y) := by
      intro l
      induction l with
      | nil => intro x _ y hy; simp at hy; subst hy; exact .inl (Conn.refl E y)
      | cons z l ih =>
        intro x ⟨h1, h2⟩ y hy
        rcases List.mem_cons.1 hy with rfl | hy
        · exact .inl (Conn.refl E y)
        have hz := ih h2 y hy
        rcases h1 with h1 | ⟨rfl, rfl⟩ | ⟨rfl, rfl⟩
        · have hxz := conn_of_edge h h1
          rcases hz with hz | ⟨hz1, hz2⟩ | ⟨hz1, hz2⟩
          · exact .inl (h.ctrans hxz hz)
          · exact .inr (.inl ⟨h.ctrans hxz hz1, hz2⟩)
          · exact .inr (.inr ⟨h.ctrans hxz hz1, hz2⟩)
        · rcases hz with hz | ⟨hz1, hz2⟩ | ⟨hz1, hz2⟩
          · exact .inr (.inl ⟨Conn.refl E x, hz⟩)
          · exact .inr (.inl ⟨Conn.refl E x, hz2⟩)
          · exact .inl hz2
        · rcases hz with hz | ⟨hz1, hz2⟩ | ⟨hz1, hz2⟩
          · exact .inr (.inr ⟨Conn.refl E x, hz⟩)
          · exact .inl hz2
          · exact .inr (.inr ⟨Conn.refl E x, hz2⟩)
    exact key hw y (List.mem_of_getLast? hl)
  · have hm : ∀ {x y}, Conn E x y → Conn (addE E a b) x y := fun ⟨p, hp⟩ => ⟨p, hp.mono (fun _ _ e => .inl e)⟩
    have hab : Conn (addE E a b) a b := conn_of_edge h' (.inr (.inl ⟨rfl, rfl⟩))
    rintro (e | ⟨e1, e2⟩ | ⟨e1, e2⟩)
    · exact hm e
    · exact h'.ctrans (hm e1) (h'.ctrans hab (hm e2))
    · exact h'.ctrans (hm e1) (h'.ctrans (h'.csymm hab) (hm e2))

theorem least_ex {P : Nat → Prop} {n : Nat} (h : P n) : ∃ m, m ≤ n ∧ P m ∧ ∀ k, k < m → ¬ P k := by
  induction n using Nat.strongRecOn with
  | _ n ih =>
    by_cases hm : ∃ m, m < n ∧ P m
    · obtain ⟨m, hlt, hp⟩ := hm
      obtain ⟨m', h1, h2, h3⟩ := ih m hlt hp
      exact ⟨m', by omega, h2, h3⟩
    · exact ⟨n, Nat.le_refl _, h, fun k hk hp => hm ⟨k, hk, hp⟩⟩

theorem nc_add (h : Frs E) (h' : Frs (addE E a b)) (hab : ¬ Conn E a b) (ha : a < n) (hb : b < n) : nc n (addE E a b) + 1 = nc n E := by
  obtain ⟨fa, ha1, ha2, ha3⟩ := least_ex (P := fun k => Conn E a k) (Conn.refl E a)
  obtain ⟨fb, hb1, hb2, hb3⟩ := least_ex (P := fun k => Conn E b k) (Conn.refl E b)
  have hne : fa ≠ fb := by rintro rfl; exact hab (h.ctrans ha2 (h.csymm hb2))
  have hfa : IsFirst E fa := fun k hk hc => ha3 k hk (h.ctrans ha2 hc)
  have hfb : IsFirst E fb := fun k hk hc => hb3 k hk (h.ctrans hb2 hc)
  -- of the two first vertices the later one is no first vertex any more
  have key : ∀ {a b fa fb : Nat}, fa < fb → Conn E a fa → Conn E b fb → IsFirst E fa → IsFirst E fb → ¬ Conn E a b → Frs (addE E a b) → b < n → fb ≤ b → (∀ k, k < fa → ¬ Conn E a k) → nc n (addE E a b) + 1 = nc n E := by
    intro a b fa fb hlt hca hcb hfa hfb hab h' hbn hfbb hmin
    have hbc := conn_add (a := a) (b := b) h h'
    unfold nc
    refine filter_drop_one (m := fb) List.nodup_range (List.mem_range.2 (by omega)) (decide_eq_true hfb) (decide_eq_false ?_) ?_
    · intro hf
      exact hf fa hlt ((hbc fb fa).2 (.inr (.inr ⟨h.csymm hcb, hca⟩)))
    · intro x _ hx
      refine decide_eq_decide.2 ⟨fun hf u hu hc => hf u hu ((hbc x u).2 (.inl hc)), fun hf u hu hc => ?_⟩
      rcases (hbc x u).1 hc with e | ⟨e1, e2⟩ | ⟨e1, e2⟩
      · exact hf u hu e
      · -- x is with a, u with b: then x = fa, and fb ≤ u
        have hxfa : Conn E x fa := h.ctrans e1 hca
        have h1 : x = fa := by
          rcases Nat.lt_trichotomy x fa with q | q | q
          · exact absurd (h.csymm hxfa) (hfa x q)
          · exact q
          · exact absurd hxfa (hf fa q)
        have : ¬ u < fb := fun q => hfb u q (h.ctrans (h.csymm hcb) e2)
        omega
      · have hxfb : Conn E x fb := h.ctrans e1 hcb
        rcases Nat.lt_trichotomy x fb with q | q | q
        · exact absurd (h.csymm hxfb) (hfb x q)
        · exact absurd q hx
        · exact absurd hxfb (hf fb q)
  rcases Nat.lt_or_gt_of_ne hne with q | q
  · exact key q ha2 hb2 hfa hfb hab h' hb hb1 ha3
  · have e : addE E a b = addE E b a := E_ext (fun v u => by unfold addE; constructor <;> (rintro (e | e | e); exact .inl e; exact .inr (.inr e); exact .inr (.inl e)))
    rw [e]
    exact key q hb2 ha2 hfb hfa (fun e => hab (h.csymm e)) (by rw [← e]; exact h') ha ha1 hb3

theorem add_del (h : Frs E) (he : E a b) : addE (delE E a b) a b = E := by
  refine E_ext (fun v u => ?_)
  unfold addE delE
  constructor
  · rintro (e | ⟨rfl, rfl⟩ | ⟨rfl, rfl⟩)
    · exact e.1
    · exact he
    · exact h.symm he
  · intro e
    by_cases h1 : v = a ∧ u = b
    · exact .inr (.inl h1)
    · by_cases h2 : v = b ∧ u = a
      · exact .inr (.inr h2)
      · exact .inl ⟨e, h1, h2⟩
theorem del_sep (h : Frs E) (he : E a b) : ¬ Conn (delE E a b) a b := by
  rintro ⟨p, hp⟩
  have h1 := hp.mono (E' := E) (fun x y e => e.1)
  have h2 := h.unique h1 (h.edge he)
  subst h2
  obtain ⟨l, e, hw, _⟩ := hp
  simp at e
  subst e
  exact hw.1.2.1 ⟨rfl, rfl⟩
theorem nc_del (h : Frs E) (h' : Frs (delE E a b)) (he : E a b) (ha : a < n) (hb : b < n) : nc n (delE E a b) = nc n E + 1 := by
  have e := add_del h he
  have := nc_add (n := n) h' (by rw [e]; exact h) (del_sep h he) ha hb
  rw [e] at this; exact this.symm
end

theorem nc_none (n : Nat) : nc n (fun _ _ => False) = n := by
  unfold nc
  rw [List.filter_eq_self.2]
  · simp
  · intro v _
    refine decide_eq_true (fun u hu ⟨p, l, e, hw, _, hl⟩ => ?_)
    cases l with
    | nil => subst e; simp at hl; omega
    | cons x l => exact hw.1

end Go.Proofs.YtgmnemndjjmgkaaGreat

/- forest: the plain law of a spanning forest whose edges expire as late as possible. -/
namespace Go.Proofs.YtgmnemndjjmgkaaGreat
open Classical

/-- The edges: of each slot the two ends and the time. -/
abbrev EMap := Nat → Option (Nat × Nat × Int)
def updG (G : EMap) (s : Nat) (e : Option (Nat × Nat × Int)) : EMap := fun t => if t = s then e else G t
theorem updG_same (G : EMap) (s : Nat) (e : Option (Nat × Nat × Int)) : updG G s e s = e := by simp [updG]
theorem updG_other {G : EMap} {s t : Nat} {e : Option (Nat × Nat × Int)} (h : t ≠ s) : updG G s e t = G t := by simp [updG, h]

/-- Connected by the edges of some slots. -/
inductive Cx (G : EMap) (U : Nat → Prop) : Nat → Nat → Prop
  | refl (a : Nat) : Cx G U a a
  | step {a b c : Nat} (s : Nat) (x : Int) : Cx G U a b → U s → (G s = some (b, c, x) ∨ G s = some (c, b, x)) → Cx G U a c

section
variable {G G' : EMap} {U U' : Nat → Prop} {a b c p q s m : Nat} {x y : Int}
theorem Cx.trans (h : Cx G U a b) (h' : Cx G U b c) : Cx G U a c := by
  induction h' with
  | refl => exact h
  | step s x _ h1 h2 ih => exact .step s x ih h1 h2
theorem Cx.edge (hs : U s) (h : G s = some (a, b, x)) : Cx G U a b := .step s x (.refl a) hs (.inl h)
theorem Cx.edge' (hs : U s) (h : G s = some (a, b, x)) : Cx G U b a := .step s x (.refl b) hs (.inr h)
theorem Cx.symm (h : Cx G U a b) : Cx G U b a := by
  induction h with
  | refl => exact .refl _
  | step s x _ h1 h2 ih =>
    rcases h2 with h2 | h2
    · exact (Cx.edge' h1 h2).trans ih
    · exact (Cx.edge h1 h2).trans ih
theorem Cx.bind (h : Cx G U a b) (hs : ∀ s c d x, U s → G s = some (c, d, x) → Cx G' U' c d) : Cx G' U' a b := by
  induction h with
  | refl => exact .refl _
  | step s x _ h1 h2 ih =>
    rcases h2 with h2 | h2
    · exact ih.trans (hs _ _ _ _ h1 h2)
    · exact ih.trans (hs _ _ _ _ h1 h2).symm
theorem Cx.mono (h : Cx G U a b) (hs : ∀ s e, U s → G s = some e → U' s) : Cx G U' a b :=
  h.bind fun s _ _ _x h1 h2 => Cx.edge (hs s _ h1 h2) h2
theorem Cx.mono' (h : Cx G U a b) (hs : ∀ s e, U s → G s = some e → U' s ∧ G' s = some e) : Cx G' U' a b :=
  h.bind fun s _ _ _x h1 h2 => Cx.edge (hs s _ h1 h2).1 (hs s _ h1 h2).2
/-- One slot more. -/
theorem Cx.more (h : Cx G U p q) (hu : ∀ t, U t → U' t ∨ t = s) (hs : G s = some (a, b, x)) :
    Cx G U' p q ∨ (Cx G U' p a ∧ Cx G U' b q) ∨ (Cx G U' p b ∧ Cx G U' a q) := by
  induction h with
  | refl => exact .inl (.refl _)
  | @step c d t z _ h1 h2 ih =>
    rcases hu t h1 with h1 | rfl
    · have e : Cx G U' c d := .step t z (.refl _) h1 h2
      rcases ih with ih | ⟨i1, i2⟩ | ⟨i1, i2⟩
      · exact .inl (ih.trans e)
      · exact .inr (.inl ⟨i1, i2.trans e⟩)
      · exact .inr (.inr ⟨i1, i2.trans e⟩)
    · rw [hs] at h2
      simp only [Option.some.injEq, Prod.mk.injEq] at h2
      rcases h2 with ⟨rfl, rfl, rfl⟩ | ⟨rfl, rfl, rfl⟩
      · rcases ih with ih | ⟨i1, _⟩ | ⟨i1, _⟩
        · exact .inr (.inl ⟨ih, .refl _⟩)
        · exact .inr (.inl ⟨i1, .refl _⟩)
        · exact .inl i1
      · rcases ih with ih | ⟨i1, _⟩ | ⟨i1, _⟩
        · exact .inr (.inr ⟨ih, .refl _⟩)
        · exact .inl i1
        · exact .inr (.inr ⟨i1, .refl _⟩)

/-- The order of times and slots. -/
def bef (x : Int) (s : Nat) (y : Int) (t : Nat) : Prop := x < y ∨ (x = y ∧ s < t)
/-- The slot t has an edge after a time and slot. -/
def Aft (G : EMap) (s : Nat) (x : Int) (t : Nat) : Prop := ∃ a b y, G t = some (a, b, y) ∧ bef x s y t
def isTree (G : EMap) (s : Nat) : Prop := ∃ a b x, G s = some (a, b, x) ∧ ¬ Cx G (Aft G s x) a b

theorem bef_trans {z : Int} {t u : Nat} (h : bef x s y t) (h' : bef y t z u) : bef x s z u := by unfold bef at *; omega
theorem bef_irr (x : Int) (s : Nat) : ¬ bef x s x s := by unfold bef; omega
theorem bef_tri {t : Nat} (h : s ≠ t) (hn : ¬ bef x s y t) : bef y t x s := by unfold bef at *; omega

/-- Upward closed. -/
def Upw (G : EMap) (U : Nat → Prop) : Prop := ∀ t a b x u, U t → G t = some (a, b, x) → Aft G t x u → U u

theorem rank_lt {S : Nat} {t u : Nat} {z : Int} {e f : Nat} (hS : ∀ s e, G s = some e → s < S) (hu : G u = some (e, f, z)) (h : bef x t z u) :
    ((List.range S).filter fun v => decide (Aft G u z v)).length < ((List.range S).filter fun v => decide (Aft G t x v)).length := by
  have key : ∀ l : List Nat, ((l.filter fun v => decide (Aft G u z v)).length ≤ (l.filter fun v => decide (Aft G t x v)).length) ∧ (u ∈ l → (l.filter fun v => decide (Aft G u z v)).length < (l.filter fun v => decide (Aft G t x v)).length) := by
    intro l
    induction l with
    | nil => exact ⟨Nat.le_refl _, fun h => by simp at h⟩
    | cons v l ih =>
      have himp : Aft G u z v → Aft G t x v := fun ⟨a, b, y, h1, h2⟩ => ⟨a, b, y, h1, bef_trans h h2⟩
      by_cases h1 : Aft G u z v
      · have h2 := himp h1
        refine ⟨by simp [h1, h2, ih.1], fun hm => ?_⟩
        have hne : u ≠ v := by
          rintro rfl
          obtain ⟨a, b, y, e1, e2⟩ := h1
          rw [hu] at e1; simp only [Option.some.injEq, Prod.mk.injEq] at e1
          rw [e1.2.2] at e2; exact bef_irr _ _ e2
        have hm' : u ∈ l := by simpa [hne] using hm
        have := ih.2 hm'
        simp [h1, h2]; exact this
      · by_cases h2 : Aft G t x v
        · have := ih.1
          constructor
          · simp [h1, h2]; omega
          · intro _; simp [h1, h2]; omega
        · refine ⟨by simp [h1, h2, ih.1], fun hm => ?_⟩
          have hne : u ≠ v := by
            rintro rfl
            exact h2 ⟨e, f, z, hu, h⟩
          have hm' : u ∈ l := by simpa [hne] using hm
          have := ih.2 hm'
          simp [h1, h2]; exact this
  exact (key _).2 (List.mem_range.2 (hS _ _ hu))

/-- The tree edges connect what the edges connect. -/
theorem kru {S : Nat} (hS : ∀ s e, G s = some e → s < S) (hU : Upw G U) (h : Cx G U a b) : Cx G (fun t => U t ∧ isTree G t) a b := by
  have key : ∀ (k t : Nat) (c d : Nat) (z : Int), ((List.range S).filter fun v => decide (Aft G t z v)).length ≤ k → U t → G t = some (c, d, z) → Cx G (fun t => U t ∧ isTree G t) c d := by
    intro k
    induction k with
    | zero =>
      intro t c d z hk ht hg
      by_cases hT : isTree G t
      · exact Cx.edge ⟨ht, hT⟩ hg
      · have hc : Cx G (Aft G t z) c d := Classical.byContradiction fun hc => hT ⟨c, d, z, hg, hc⟩
        refine hc.bind fun u e f w hu hgu => ?_
        obtain ⟨_, _, y, e1, e2⟩ := hu
        rw [hgu] at e1; simp only [Option.some.injEq, Prod.mk.injEq] at e1
        rw [← e1.2.2] at e2
        have := rank_lt hS hgu e2
        omega
    | succ k ih =>
      intro t c d z hk ht hg
      by_cases hT : isTree G t
      · exact Cx.edge ⟨ht, hT⟩ hg
      · have hc : Cx G (Aft G t z) c d := Classical.byContradiction fun hc => hT ⟨c, d, z, hg, hc⟩
        refine hc.bind fun u e f w hu hgu => ?_
        have hUu := hU t c d z u ht hg hu
        obtain ⟨_, _, y, e1, e2⟩ := hu
        rw [hgu] at e1; simp only [Option.some.injEq, Prod.mk.injEq] at e1
        rw [← e1.2.2] at e2
        have := rank_lt hS hgu e2
        exact ih u e f w (by omega) hUu hgu
  exact h.bind fun t c d z h1 h2 => key _ t c d z (Nat.le_refl _) h1 h2

theorem upw_all (G : EMap) : Upw G (fun _ => True) := fun _ _ _ _ _ _ _ _ => trivial
theorem upw_aft (G : EMap) (s : Nat) (x : Int) : Upw G (Aft G s x) := by
  rintro t a b y u ⟨a', b', y', h1, h2⟩ h3 ⟨c, d, z, h4, h5⟩
  rw [h3] at h1; simp only [Option.some.injEq, Prod.mk.injEq] at h1
  obtain ⟨_, _, rfl⟩ := h1
  exact ⟨c, d, z, h4, bef_trans h2 h5⟩
theorem upw_from (hs : G s = some (a, b, x)) : Upw G (fun t => t = s ∨ Aft G s x t) := by
  rintro t c d y u (rfl | h1) h3 h4
  · rw [hs] at h3; simp only [Option.some.injEq, Prod.mk.injEq] at h3
    obtain ⟨_, _, rfl⟩ := h3
    exact .inr h4
  · exact .inr (upw_aft G s x t c d y u h1 h3 h4)
theorem kru_all {S : Nat} (hS : ∀ s e, G s = some e → s < S) (h : Cx G U a b) : Cx G (isTree G) a b :=
  (kru hS (upw_all G) (h.mono (fun _ _ _ _ => trivial))).mono (fun _ _ h _ => h.2)

-- an edge is added
section
variable {S t : Nat} {d : Nat} {z : Int} (hS : ∀ s e, G s = some e → s < S) (h0 : G s = none)
include h0
theorem aft_keep (h : Aft G t z q) (e : Option (Nat × Nat × Int)) : Aft (updG G s e) t z q := by
  obtain ⟨a, b, y, h1, h2⟩ := h
  have : q ≠ s := by rintro rfl; rw [h0] at h1; cases h1
  exact ⟨a, b, y, by rw [updG_other this]; exact h1, h2⟩
theorem cx_keep (h : Cx G (Aft G t z) p q) (e : Option (Nat × Nat × Int)) : Cx (updG G s e) (Aft (updG G s e) t z) p q :=
  h.mono' fun u f h1 h2 => ⟨aft_keep h0 h1 e, by rw [updG_other (fun e1 => by rw [e1, h0] at h2; cases h2)]; exact h2⟩
theorem cx_old (h : Cx (updG G s (some (a, b, x))) (Aft (updG G s (some (a, b, x))) t z) p q) (hn : ¬ bef z t x s) : Cx G (Aft G t z) p q := by
  refine h.mono' fun u f h1 h2 => ?_
  obtain ⟨c, d, y, h3, h4⟩ := h1
  have hu : u ≠ s := by
    rintro rfl
    rw [updG_same] at h3; simp only [Option.some.injEq, Prod.mk.injEq] at h3
    exact hn (by rw [h3.2.2]; exact h4)
  rw [updG_other hu] at h3 h2
  exact ⟨⟨c, d, y, h3, h4⟩, h2⟩
omit h0 in
theorem cx_new (h : Cx (updG G s (some (a, b, x))) (Aft (updG G s (some (a, b, x))) t z) p q) :
    Cx G (Aft G t z) p q ∨ (Cx G (Aft G t z) p a ∧ Cx G (Aft G t z) b q) ∨ (Cx G (Aft G t z) p b ∧ Cx G (Aft G t z) a q) := by
  have h1 := h.more (U' := fun u => u ≠ s ∧ Aft (updG G s (some (a, b, x))) t z u) (s := s) (fun u hu => if e : u = s then .inr e else .inl ⟨e, hu⟩) (updG_same _ _ _)
  have back : ∀ {p q : Nat}, Cx (updG G s (some (a, b, x))) (fun u => u ≠ s ∧ Aft (updG G s (some (a, b, x))) t z u) p q → Cx G (Aft G t z) p q := fun h => h.mono' fun u f h1 h2 => by
    obtain ⟨hu, c, d, y, h3, h4⟩ := h1
    rw [updG_other hu] at h3 h2
    exact ⟨⟨c, d, y, h3, h4⟩, h2⟩
  rcases h1 with h1 | ⟨h1, h2⟩ | ⟨h1, h2⟩
  · exact .inl (back h1)
  · exact .inr (.inl ⟨back h1, back h2⟩)
  · exact .inr (.inr ⟨back h1, back h2⟩)
theorem tree_back (ht : t ≠ s) (h : isTree (updG G s (some (a, b, x))) t) : isTree G t := by
  obtain ⟨c, d, z, h1, h2⟩ := h
  rw [updG_other ht] at h1
  exact ⟨c, d, z, h1, fun h => h2 (cx_keep h0 h _)⟩

include hS
theorem add_new (hn : ¬ Cx G (isTree G) a b) (t : Nat) : isTree (updG G s (some (a, b, x))) t ↔ isTree G t ∨ t = s := by
  constructor
  · intro h
    by_cases e : t = s
    · exact .inr e
    · exact .inl (tree_back h0 e h)
  · rintro (h | rfl)
    · obtain ⟨c, d, z, h1, h2⟩ := h
      have e : t ≠ s := by rintro rfl; rw [h0] at h1; cases h1
      refine ⟨c, d, z, by rw [updG_other e]; exact h1, fun h => ?_⟩
      have wk : ∀ {p q : Nat}, Cx G (Aft G t z) p q → Cx G (fun _ => True) p q := fun h => h.mono (fun _ _ _ _ => trivial)
      have ed : Cx G (fun _ => True) c d := Cx.edge (s := t) trivial h1
      rcases cx_new h with h | ⟨h3, h4⟩ | ⟨h3, h4⟩
      · exact h2 h
      · exact hn (kru_all hS (((wk h3).symm.trans ed).trans (wk h4).symm))
      · exact hn (kru_all hS (((wk h4).trans ed.symm).trans (wk h3)))
    · exact ⟨a, b, x, updG_same _ _ _, fun h => hn (kru_all hS (cx_old h0 h (bef_irr x t)))⟩

omit hS in
theorem add_late (hc : Cx G (Aft G s x) a b) (t : Nat) : isTree (updG G s (some (a, b, x))) t ↔ isTree G t := by
  constructor
  · intro h
    by_cases e : t = s
    · subst e
      obtain ⟨c, d, z, h1, h2⟩ := h
      rw [updG_same] at h1; simp only [Option.some.injEq, Prod.mk.injEq] at h1
      obtain ⟨rfl, rfl, rfl⟩ := h1
      exact absurd (cx_keep h0 hc _) h2
    · exact tree_back h0 e h
  · rintro ⟨c, d, z, h1, h2⟩
    have e : t ≠ s := by rintro rfl; rw [h0] at h1; cases h1
    refine ⟨c, d, z, by rw [updG_other e]; exact h1, fun h => h2 ?_⟩
    by_cases hb : bef z t x s
    · have hc' : Cx G (Aft G t z) a b := hc.mono fun u f ⟨a', b', y, h3, h4⟩ _ => ⟨a', b', y, h3, bef_trans hb h4⟩
      rcases cx_new h with h | ⟨h3, h4⟩ | ⟨h3, h4⟩
      · exact h
      · exact (h3.trans hc').trans h4
      · exact (h3.trans hc'.symm).trans h4
    · exact cx_old h0 h hb

theorem add_swap {ma mb : Nat} (hm : G m = some (ma, mb, y)) (hc : Cx G (fun t => isTree G t ∧ (t = m ∨ Aft G m y t)) a b) (hn : ¬ Cx G (fun t => isTree G t ∧ t ≠ m) a b) (hb : bef y m x s) (t : Nat) :
    isTree (updG G s (some (a, b, x))) t ↔ (isTree G t ∧ t ≠ m) ∨ t = s := by
  have hms : m ≠ s := by rintro rfl; rw [h0] at hm; cases hm
  constructor
  · intro h
    by_cases e : t = s
    · exact .inr e
    · refine .inl ⟨tree_back h0 e h, ?_⟩
      rintro rfl
      obtain ⟨c, d, z, h1, h2⟩ := h
      rw [updG_other e, hm] at h1; simp only [Option.some.injEq, Prod.mk.injEq] at h1
      obtain ⟨rfl, rfl, rfl⟩ := h1
      have es : Cx (updG G s (some (a, b, x))) (Aft (updG G s (some (a, b, x))) t y) a b := Cx.edge (s := s) ⟨a, b, x, updG_same _ _ _, hb⟩ (updG_same _ _ _)
      have lift : ∀ {p q : Nat}, Cx G (fun u => isTree G u ∧ Aft G t y u) p q → Cx (updG G s (some (a, b, x))) (Aft (updG G s (some (a, b, x))) t y) p q := fun h => cx_keep h0 (h.mono fun _ _ h _ => h.2) _
      rcases hc.more (U' := fun u => isTree G u ∧ Aft G t y u) (s := t) (fun u hu => hu.2.elim .inr (fun h => .inl ⟨hu.1, h⟩)) hm with h | ⟨h3, h4⟩ | ⟨h3, h4⟩
      · refine hn (h.mono fun u _ hu _ => ⟨hu.1, ?_⟩)
        rintro rfl
        obtain ⟨_, _, y', e1, e2⟩ := hu.2
        rw [hm] at e1; simp only [Option.some.injEq, Prod.mk.injEq] at e1
        rw [← e1.2.2] at e2; exact bef_irr _ _ e2
      · exact h2 (((lift h3).symm.trans es).trans (lift h4).symm)
      · exact h2 (((lift h4).trans es.symm).trans (lift h3))
  · rintro (⟨h, htm⟩ | rfl)
    · obtain ⟨c, d, z, h1, h2⟩ := h
      have e : t ≠ s := by rintro rfl; rw [h0] at h1; cases h1
      refine ⟨c, d, z, by rw [updG_other e]; exact h1, fun h => ?_⟩
      by_cases hb1 : bef z t y m
      · have hc' : Cx G (Aft G t z) a b := hc.mono fun u f hu _ => by
          rcases hu.2 with rfl | ⟨a', b', y', h3, h4⟩
          · exact ⟨ma, mb, y, hm, hb1⟩
          · exact ⟨a', b', y', h3, bef_trans hb1 h4⟩
        rcases cx_new h with h | ⟨h3, h4⟩ | ⟨h3, h4⟩
        · exact h2 h
        · exact h2 ((h3.trans hc').trans h4)
        · exact h2 ((h3.trans hc'.symm).trans h4)
      · have hmt := bef_tri htm hb1
        have up : ∀ {p q : Nat}, Cx G (Aft G t z) p q → Cx G (fun u => u = t ∨ Aft G t z u) p q := fun h => h.mono fun _ _ h _ => .inr h
        have ed : Cx G (fun u => u = t ∨ Aft G t z u) c d := Cx.edge (s := t) (.inl rfl) h1
        have fin : Cx G (fun u => u = t ∨ Aft G t z u) a b → False := fun hab => by
          refine hn ((kru hS (upw_from h1) hab).mono fun u _ hu _ => ⟨hu.2, ?_⟩)
          rintro rfl
          rcases hu.1 with rfl | ⟨_, _, y', e1, e2⟩
          · exact htm rfl
          · rw [hm] at e1; simp only [Option.some.injEq, Prod.mk.injEq] at e1
            rw [← e1.2.2] at e2
            exact bef_irr _ _ (bef_trans hmt e2)
        rcases cx_new h with h | ⟨h3, h4⟩ | ⟨h3, h4⟩
        · exact h2 h
        · exact fin (((up h3).symm.trans ed).trans (up h4).symm)
        · exact fin (((up h4).trans ed.symm).trans (up h3))
    · refine ⟨a, b, x, updG_same _ _ _, fun h => ?_⟩
      have h1 := kru hS (upw_aft G t x) (cx_old h0 h (bef_irr x t))
      refine hn (h1.mono fun u _ hu _ => ⟨hu.2, ?_⟩)
      rintro rfl
      obtain ⟨_, _, y', e1, e2⟩ := hu.1
      rw [hm] at e1; simp only [Option.some.injEq, Prod.mk.injEq] at e1
      rw [← e1.2.2] at e2
      exact bef_irr _ _ (bef_trans hb e2)
end

/-- The first edge of all is taken away. -/
theorem del_first {ma mb : Nat} (hm : G m = some (ma, mb, y)) (hf : ∀ t a b z, G t = some (a, b, z) → ¬ bef z t y m) (t : Nat) : isTree (updG G m none) t ↔ isTree G t ∧ t ≠ m := by
  have aft : ∀ {t a b : Nat} {z : Int} (u : Nat), G t = some (a, b, z) → t ≠ m → (Aft (updG G m none) t z u ↔ Aft G t z u) := by
    intro t a b z u ht hne
    constructor
    · rintro ⟨c, d, w, h1, h2⟩
      have : u ≠ m := by rintro rfl; rw [updG_same] at h1; cases h1
      rw [updG_other this] at h1
      exact ⟨c, d, w, h1, h2⟩
    · rintro ⟨c, d, w, h1, h2⟩
      have : u ≠ m := by
        rintro rfl
        rw [hm] at h1; simp only [Option.some.injEq, Prod.mk.injEq] at h1
        rw [← h1.2.2] at h2
        exact hf t a b z ht h2
      exact ⟨c, d, w, by rw [updG_other this]; exact h1, h2⟩
  have cx : ∀ {t a b c d : Nat} {z : Int}, G t = some (a, b, z) → t ≠ m → (Cx (updG G m none) (Aft (updG G m none) t z) c d ↔ Cx G (Aft G t z) c d) := by
    intro t a b c d z ht hne
    constructor
    · intro h
      refine h.mono' fun u f h1 h2 => ⟨(aft u ht hne).1 h1, ?_⟩
      have : u ≠ m := by rintro rfl; rw [updG_same] at h2; cases h2
      rw [updG_other this] at h2; exact h2
    · intro h
      refine h.mono' fun u f h1 h2 => ?_
      have h3 := (aft u ht hne).2 h1
      have : u ≠ m := by rintro rfl; obtain ⟨_, _, _, e1, _⟩ := h3; rw [updG_same] at e1; cases e1
      exact ⟨h3, by rw [updG_other this]; exact h2⟩
  constructor
  · rintro ⟨a, b, z, h1, h2⟩
    have hne : t ≠ m := by rintro rfl; rw [updG_same] at h1; cases h1
    rw [updG_other hne] at h1
    exact ⟨⟨a, b, z, h1, fun h => h2 ((cx h1 hne).2 h)⟩, hne⟩
  · rintro ⟨⟨a, b, z, h1, h2⟩, hne⟩
    exact ⟨a, b, z, by rw [updG_other hne]; exact h1, fun h => h2 ((cx h1 hne).1 h)⟩
end
end Go.Proofs.YtgmnemndjjmgkaaGreat

namespace Go.Proofs.YtgmnemndjjmgkaaGreat
open Go.RowKit Go.Shelf
set_option maxRecDepth 4000
set_option maxHeartbeats 400000
attribute [local go_sem] Oper.semAt_some

/-- Of the blocks below n₀ only g may have changed. -/
structure Bx (n₀ g : Nat) (w w' : World) : Prop where
  os : w'.os = w.os
  tape : w'.tape = w.tape
  output : w'.output = w.output
  size : w.heap.size ≤ w'.heap.size
  keep : ∀ k, k < n₀ → k ≠ g → w'.heap[k]? = w.heap[k]?

section
variable {n₀ g : Nat} {w w' w'' : World}
theorem Bx.refl (n₀ g : Nat) (w : World) : Bx n₀ g w w := ⟨rfl, rfl, rfl, Nat.le_refl _, fun _ _ _ => rfl⟩
theorem Bx.trans (h : Bx n₀ g w w') (k : Bx n₀ g w' w'') : Bx n₀ g w w'' :=
  ⟨k.os.trans h.os, k.tape.trans h.tape, k.output.trans h.output, Nat.le_trans h.size k.size, fun i hi hn => (k.keep i hi hn).trans (h.keep i hi hn)⟩
theorem Bx.of_fr (h : Fr [g] w w') (hn : n₀ ≤ w.heap.size) : Bx n₀ g w w' := ⟨h.os, h.tape, h.output, h.size, fun k hk hne => h.keep k (by omega) (by simpa using hne)⟩
theorem Bx.of_below (h : Below n₀ w w') : Bx n₀ g w w' := ⟨h.os, h.tape, h.output, h.size, fun k hk _ => h.block k hk⟩
theorem Bx.fr (h : Bx w.heap.size g w w') : Fr [g] w w' := ⟨h.os, h.tape, h.output, h.size, fun k hk hn => h.keep k hk (by simpa using hn)⟩
theorem Bx.mono {n : Nat} (h : Bx n₀ g w w') (hn : n ≤ n₀) : Bx n g w w' := ⟨h.os, h.tape, h.output, h.size, fun k hk => h.keep k (by omega)⟩
theorem Bx.cell {p : Addr} (h : Bx n₀ g w w') (hp : p.block < n₀) (hg : p.block ≠ g) : w'.cell? p = w.cell? p := World.cell?_of_block (h.keep _ hp hg)
theorem Bx.grown {row : Option Nat} (h : Bx n₀ g w w') (hg : w'.grownBy w'' row) (hn : n₀ ≤ w'.heap.size) (hr : ∀ k, row = some k → n₀ ≤ k) : Bx n₀ g w w'' :=
  h.trans ⟨hg.os, hg.tape, hg.output, hg.size, fun k hk _ => hg.block k (by omega) (fun e => by have := hr k e.symm; omega)⟩
theorem Bx.alloc (h : Bx n₀ g w w') (hn : n₀ ≤ w'.heap.size) (o : Obj) : Bx n₀ g w (w'.alloc o) := h.grown (World.grownBy_alloc _ _ none) hn (fun _ e => by cases e)
end
theorem bxK_b {n₀ g : Nat} {w : World} (hn : n₀ ≤ w.heap.size) (W : World) (l : Nat) (o o' : Obj) (hl : w.heap.size ≤ l) (h : W.heap[l]? = some o) (_ : o.isCells = false) (_ : o.isWalk = false) : Bx n₀ g W (W.putObj l o') :=
  (Bx.refl n₀ g W).grown (grownBy_putObj' W l o') (by have := (Array.getElem?_eq_some_iff.1 h).1; omega) (fun k e => by cases e; omega)
theorem ownFrom_bx {β : Type} {n₀ g B : Nat} {w₀ : World} (hn : n₀ ≤ w₀.heap.size) (hB : n₀ ≤ B) : OwnFrom B (fun (_ : β) W => Bx n₀ g w₀ W) :=
  fun _ _ _ _ hs hg hr => hs.grown hg (Nat.le_trans hn hs.size) (fun k e => Nat.le_trans hB (hr k e).1)
theorem keepsOthers_fr {g : Nat} {w w' : World} {arr : Array Value} {t : TypeId} {z : Nat × Nat} (h : Fr [g] w w') (hg : w.heap[g]? = some (.cells arr t z)) : KeepsOthers w w' :=
  ⟨h.size, fun k o hk ho => by
    have hkg : k ≠ g := by
      rintro rfl; rw [hg] at hk; cases hk; cases ho
    exact (h.keep k (Array.getElem?_eq_some_iff.1 hk).1 (by simpa using hkg)).trans hk⟩

/-- An index with its place, as the range-function yields them. -/
abbrev Pl (N : Nat) := { x : Nat × Nat // x.2 < N }
def bk (N m : Nat) (P : Nat → Nat) (hP : ∀ i, P i < N) (k : Nat) : Pl N := ⟨(m - 1 - k, P (m - 1 - k)), hP _⟩
def bks (N m : Nat) (P : Nat → Nat) (hP : ∀ i, P i < N) (k : Nat) : List (Pl N) := (List.range k).map (bk N m P hP)
theorem bks_succ (N m : Nat) (P : Nat → Nat) (hP : ∀ i, P i < N) (k : Nat) : bks N m P hP (k + 1) = bks N m P hP k ++ [bk N m P hP k] := by simp [bks, List.range_succ]

theorem back1_in (nf l Bb gp m cap N g B : Nat) (P : Nat → Nat) (hP : ∀ i, P i < N) (_hN : N ≤ 65537) (hm : m ≤ 65537) (hnf : 2 ≤ nf) (hBb : Bb < B) (hgp : gp < B) (hbg : Bb ≠ g) (hpg : gp ≠ g)
    (J Jx : List (Pl N) → World → Prop)
    (hY : ∀ pre x W, J pre W → pre.length < m → YieldAt Fence.wide (nf - 1) Tryz.prog l #[.int .i64 x.1.1, .int .i64 x.1.2] W fun e W' =>
      (e = .returned (.bool true) ∧ J (pre ++ [x]) W' ∧ Bx B g W W') ∨ (e = .returned (.bool false) ∧ Jx (pre ++ [x]) W'))
    (W : World) (hc : W.cell? ⟨Bb, 0, none⟩ = some (.slice (some ⟨gp, 0, none⟩) m cap)) (_hmc : m ≤ cap) (hp : ∀ i, i < m → W.cell? ⟨gp, i, none⟩ = some (.int .i64 (P i))) (h0 : J [] W) :
    CallsIn Fence.wide nf Tryz.prog 222 #[.func (.yield l) #[] #[], .pointer (some ⟨Bb, 0, none⟩)] W fun e W' => (∃ v, e = .returned v) ∧
      ((∃ ys, ys = bks N m P hP m ∧ J ys W') ∨ (∃ pre, True ∧ Jx pre W')) := by
  have HP := Lib.hid hp; clear hp
  refine callsIn_of_wp Tryz.func222 rfl trivial ?_ rfl
  simp only [Tryz.ntmps222, List.size_toArray, List.length_cons, List.length_nil, Nat.reduceAdd, Nat.reduceSub, Array.replicate_succ, Array.replicate_zero, List.push_toArray, List.append_toArray, List.nil_append, List.cons_append]
  gi_wp2
  gi_loopw [3] (fun x wr => ∃ i : Nat, i ≤ m ∧ x = .int .i64 ((i : Int) - 1) ∧ Bx B g W wr ∧ J (bks N m P hP (m - i)) wr) (fun x _ => (intOf x + 1).toNat)
  case atStart => exact ⟨m, Nat.le_refl _, by go_num, Bx.refl _ _ _, by rw [Nat.sub_self]; exact h0⟩
  case round =>
    obtain ⟨i, hi, rfl, hB, hJ⟩ := hrel
    cases i with
    | zero =>
      rw [show ((0 : Nat) : Int) - 1 = -1 by rfl]
      gi_wp2
      go_end0
      exact ⟨⟨_, rfl⟩, .inl ⟨_, rfl, hJ⟩⟩
    | succ j =>
      rw [show ((j + 1 : Nat) : Int) - 1 = (j : Int) by omega]
      have rc := (hB.cell (p := ⟨Bb, 0, none⟩) hBb hbg).trans hc
      have rp := (hB.cell (p := ⟨gp, j, none⟩) hgp hpg).trans (HP.out j (by omega))
      obtain ⟨fn, tmps, assign, body, hy, hRd⟩ := hY (bks N m P hP (m - (j + 1))) (bk N m P hP (m - (j + 1))) wr hJ (by simp [bks]; omega)
      have e0 : (bk N m P hP (m - (j + 1))).1.1 = j := by simp only [bk]; omega
      have e1 : (bk N m P hP (m - (j + 1))).1.2 = P j := by simp only [bk]; rw [show m - 1 - (m - (j + 1)) = j by omega]
      rw [e0, e1] at hy
      clear e0 e1
      have hjm : (j : Int) < m := by omega
      gi_wp2
      refine ⟨fun _ => by omega, ?_⟩
      refine hRd.mono ?_
      rintro e W3 (⟨rfl, hJ3, hk3⟩ | ⟨rfl, hJx3⟩)
      · clear rc rp
        gi_wp2
        go_roundw
        case rel => exact ⟨j, by omega, by go_num, hB.trans hk3, by rw [show m - j = (m - (j + 1)) + 1 by omega, bks_succ]; exact hJ3⟩
        case measure => simp [intOf]
      · gi_wp2
        refine bodyPost_ret (results_none rfl _ _ _) rfl ?_
        exact ⟨⟨_, rfl⟩, .inr ⟨_, trivial, hJx3⟩⟩

end Go.Proofs.YtgmnemndjjmgkaaGreat
