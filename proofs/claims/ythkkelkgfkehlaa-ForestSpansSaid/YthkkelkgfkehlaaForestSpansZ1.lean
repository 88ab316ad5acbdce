/- ForestExpires: the walk. -/
import Derived.Test.YthkkelkgfkehlaaB15
/- forest: edges expire one after another (plain law); late edges. -/
namespace Go.Proofs.Ythkkelkgfkehlaa
open Classical

section
variable {S V : Nat} {z : Nat → Int × Int × Int} {P : Nat → Prop} {D : Nat → Prop} {t m k : Nat}
theorem eg_some {a b : Nat} {x : Int} : EG S V z P t = some (a, b, x) ↔ (P t ∧ t < S ∧ okE V (z t) = true) ∧ a = zA z t ∧ b = zB z t ∧ x = (z t).2.2 := by
  unfold EG zA zB
  by_cases h : P t ∧ t < S ∧ okE V (z t) = true
  · rw [if_pos h]
    simp only [Option.some.injEq, Prod.mk.injEq, h, and_self, true_and]
    constructor
    · rintro ⟨e1, e2, e3⟩; exact ⟨e1.symm, e2.symm, e3.symm⟩
    · rintro ⟨e1, e2, e3⟩; exact ⟨e1.symm, e2.symm, e3.symm⟩
  · rw [if_neg h]
    constructor
    · intro e; cases e
    · intro e; exact absurd e.1 h
theorem eg_at (h : P t ∧ t < S ∧ okE V (z t) = true) : EG S V z P t = some (zA z t, zB z t, (z t).2.2) := eg_some.2 ⟨h, rfl, rfl, rfl⟩
theorem eg_slot {e : Nat × Nat × Int} (h : EG S V z P t = some e) : t < S := by obtain ⟨a, b, x⟩ := e; exact (eg_some.1 h).1.2.1
theorem eg_pop (m : Nat) : updG (EG S V z P) m none = EG S V z (fun t => P t ∧ t ≠ m) := by
  funext t
  by_cases e : t = m
  · subst e; rw [updG_same]; unfold EG; rw [if_neg (fun h => h.1.2 rfl)]
  · rw [updG_other e]
    unfold EG
    simp [e]

theorem cnt_lt_of {P Q : Nat → Prop} {n m : Nat} (h : ∀ s, P s → Q s) (hm : m < n) (hq : Q m) (hp : ¬ P m) : cntT n P < cntT n Q := by
  have h1 := cntT_drop (S := n) (T := Q) hm hq
  have h2 := cnt_le_of n (P := P) (Q := fun t => Q t ∧ t ≠ m) (fun s hs => ⟨h s hs, by rintro rfl; exact hp hs⟩)
  omega
theorem cntT_succ (n : Nat) (P : Nat → Prop) : cntT (n + 1) P = cntT n P + if P n then 1 else 0 := by
  unfold cntT
  rw [List.range_succ, List.filter_append, List.length_append]
  congr 1
  by_cases h : P n
  · simp [h]
  · simp [h]
theorem cntT_zero (P : Nat → Prop) : cntT 0 P = 0 := rfl

theorem cnt_le_on {P Q : Nat → Prop} : ∀ n, (∀ s, s < n → P s → Q s) → cntT n P ≤ cntT n Q
  | 0, _ => Nat.le_refl _
  | n + 1, h => by
    have ih := cnt_le_on n fun s hs => h s (by omega)
    rw [cntT_succ, cntT_succ]
    by_cases h1 : P n
    · rw [if_pos h1, if_pos (h n (by omega) h1)]; omega
    · rw [if_neg h1]; omega
/-- One pop, while not all edges of a first part are gone. -/
theorem pop_next (hD : ∀ t u, okE V (z t) = true → okE V (z u) = true → D u → bef (z t).2.2 t (z u).2.2 u → D t) (h1 : ∀ t, t < S → okE V (z t) = true → ¬ P t → D t)
    (hk : cntT S (fun t => okE V (z t) = true ∧ ¬ P t) < cntT S fun t => okE V (z t) = true ∧ D t) :
    ∃ m, m < S ∧ okE V (z m) = true ∧ P m ∧ D m ∧ fstG (EG S V z P) = some m ∧ popG (EG S V z P) = EG S V z (fun t => P t ∧ t ≠ m) ∧ (∀ t, t < S → okE V (z t) = true → P t → ¬ bef (z t).2.2 t (z m).2.2 m) ∧
      (∀ t, t < S → okE V (z t) = true → ¬ (P t ∧ t ≠ m) → D t) ∧ cntT S (fun t => okE V (z t) = true ∧ ¬ (P t ∧ t ≠ m)) = cntT S (fun t => okE V (z t) = true ∧ ¬ P t) + 1 := by
  have hex : ∃ t, t < S ∧ okE V (z t) = true ∧ P t ∧ D t := by
    apply Classical.byContradiction
    intro hn
    have : cntT S (fun t => okE V (z t) = true ∧ D t) ≤ cntT S (fun t => okE V (z t) = true ∧ ¬ P t) := by
      exact cnt_le_on S fun t ht h => ⟨h.1, fun hp => hn ⟨t, ht, h.1, hp, h.2⟩⟩
    omega
  obtain ⟨t, ht, hot, hpt, hdt⟩ := hex
  obtain ⟨m, a, b, x, ⟨e0, hm0⟩, hgm, hall⟩ := first_ex (G := EG S V z P) (S := S) (fun s e h => eg_slot h) (cntT S fun s => ∃ e, EG S V z P s = some e) (fun s => ∃ e, EG S V z P s = some e) (Nat.le_refl _) (fun s h => h) ⟨t, _, eg_at ⟨hpt, ht, hot⟩⟩
  obtain ⟨⟨hpm, hms, hom⟩, rfl, rfl, rfl⟩ := eg_some.1 hgm
  have hfirst : ∀ t, t < S → okE V (z t) = true → P t → ¬ bef (z t).2.2 t (z m).2.2 m := by
    intro t ht ho hp hb
    by_cases e : t = m
    · subst e; exact bef_irr _ _ hb
    · obtain ⟨_, _, y, h2, h3⟩ := hall t ⟨_, eg_at ⟨hp, ht, ho⟩⟩ e
      obtain ⟨_, _, _, rfl⟩ := eg_some.1 h2
      exact bef_irr _ _ (bef_trans hb h3)
  have hfst : IsFst (EG S V z P) m := ⟨_, _, _, hgm, fun t c d y h hb => by
    obtain ⟨⟨h2, h3, h4⟩, _, _, rfl⟩ := eg_some.1 h
    exact hfirst t h3 h4 h2 hb⟩
  have hdm : D m := by
    by_cases e : m = t
    · subst e; exact hdt
    · have hnb := hfirst t ht hot hpt
      exact hD m t hom hot hdt (bef_tri (fun h => e h.symm) hnb)
  have hfG := fstG_eq hfst
  refine ⟨m, hms, hom, hpm, hdm, hfG, ?_, hfirst, fun t ht ho hn => ?_, ?_⟩
  · unfold popG; rw [hfG]; exact eg_pop m
  · by_cases e : t = m
    · subst e; exact hdm
    · exact h1 t ht ho fun hp => hn ⟨hp, e⟩
  · have := cntT_one (S := S) (T := fun t => okE V (z t) = true ∧ ¬ (P t ∧ t ≠ m)) (T' := fun t => okE V (z t) = true ∧ ¬ P t) (m := m) hms ⟨hom, fun h => h.2 rfl⟩ (fun h => h.2 hpm) (fun x hx => by simp [hx])
    omega
/-- All edges of the first part are gone, and no others. -/
theorem pop_done (h1 : ∀ t, t < S → okE V (z t) = true → ¬ P t → D t) (hk : cntT S (fun t => okE V (z t) = true ∧ ¬ P t) = cntT S fun t => okE V (z t) = true ∧ D t) : EG S V z P = EG S V z fun t => ¬ D t := by
  have key : ∀ t, t < S → okE V (z t) = true → (P t ↔ ¬ D t) := by
    intro t ht ho
    constructor
    · intro hp hd
      have : cntT S (fun t => okE V (z t) = true ∧ (¬ P t ∧ t < S)) < cntT S (fun t => okE V (z t) = true ∧ D t) := cnt_lt_of (fun s hs => ⟨hs.1, h1 s hs.2.2 hs.1 hs.2.1⟩) ht ⟨ho, hd⟩ (fun h => h.2.1 hp)
      have e : cntT S (fun t => okE V (z t) = true ∧ (¬ P t ∧ t < S)) = cntT S (fun t => okE V (z t) = true ∧ ¬ P t) := by
        unfold cntT
        congr 1
        exact List.filter_congr fun t ht => by simp [List.mem_range.1 ht]
      omega
    · intro hd
      exact Classical.byContradiction fun hp => hd (h1 t ht ho hp)
  funext t
  unfold EG
  by_cases h : t < S ∧ okE V (z t) = true
  · simp only [h, and_true, key t h.1 h.2]
  · rw [if_neg (fun e => h e.2), if_neg (fun e => h e.2)]

/-- What the law's 'late' reaches. -/
noncomputable def lateB (S V : Nat) (z : Nat → Int × Int × Int) (i k : Nat) : Bool := okE V (z k) && (decide (bef (z i).2.2 i (z k).2.2 k) && treeG (EG S V z fun _ => True) k)
theorem late_ok {i : Nat} (_hi : i < S) (h : lateB S V z i k = true) : okE V (z k) = true := by
  unfold lateB at h; simp only [Bool.and_eq_true] at h; exact h.1
theorem late_tree {i : Nat} (hi : i < S) (ho : okE V (z i) = true) : rch V S z (lateB S V z i) (zA z i) (zB z i) = !treeG (EG S V z fun _ => True) i := by
  have hin := okE_in ho
  have hgi := eg_at (P := fun _ => True) (S := S) (V := V) (z := z) (t := i) ⟨trivial, hi, ho⟩
  have hS : ∀ s e, EG S V z (fun _ => True) s = some e → s < S := fun s e h => eg_slot h
  have h1 := rd_cx (use := lateB S V z i) (A := zA z) (B := zB z) (len := S) (n := V) (G := EG S V z fun _ => True) (U := fun t => isTree (EG S V z fun _ => True) t ∧ Aft (EG S V z fun _ => True) i (z i).2.2 t) (p := zA z i) hin.2.2.1
    (fun t ht hu => by have := okE_in (late_ok hi hu); exact ⟨this.2.2.1, this.2.2.2.1⟩)
    (fun t ht hu => by
      have ho' := late_ok hi hu
      have hgt := eg_at (P := fun _ => True) (S := S) (V := V) (z := z) (t := t) ⟨trivial, ht, ho'⟩
      unfold lateB at hu
      simp only [Bool.and_eq_true, decide_eq_true_eq] at hu
      have ht' : isTree (EG S V z fun _ => True) t := by
        have := of_decide_eq_true hu.2.2
        rw [Int.toNat_natCast] at this; exact this.2
      exact ⟨⟨ht', _, _, _, hgt, hu.2.1⟩, _, hgt⟩)
    (fun t a b x hu hg => by
      obtain ⟨⟨_, h3, h4⟩, rfl, rfl, rfl⟩ := eg_some.1 hg
      refine ⟨h3, ?_, rfl, rfl⟩
      obtain ⟨hT, _, _, y, h5, h6⟩ := hu
      obtain ⟨_, _, _, rfl⟩ := eg_some.1 h5
      unfold lateB treeG
      rw [h4, decide_eq_true h6, Int.toNat_natCast, decide_eq_true ⟨by omega, hT⟩]; rfl) (zB z i)
  have h2 : Cx (EG S V z fun _ => True) (fun t => isTree (EG S V z fun _ => True) t ∧ Aft (EG S V z fun _ => True) i (z i).2.2 t) (zA z i) (zB z i) ↔ Cx (EG S V z fun _ => True) (Aft (EG S V z fun _ => True) i (z i).2.2) (zA z i) (zB z i) :=
    ⟨fun h => h.mono fun _ _ h _ => h.2, fun h => (kru hS (upw_aft _ i _) h).mono fun _ _ h _ => ⟨h.2, h.1⟩⟩
  have h3 : isTree (EG S V z fun _ => True) i ↔ ¬ Cx (EG S V z fun _ => True) (Aft (EG S V z fun _ => True) i (z i).2.2) (zA z i) (zB z i) := by
    constructor
    · rintro ⟨a, b, x, h, hn⟩
      rw [hgi] at h; simp only [Option.some.injEq, Prod.mk.injEq] at h
      obtain ⟨rfl, rfl, rfl⟩ := h
      exact hn
    · intro hn; exact ⟨_, _, _, hgi, hn⟩
  have h4 : treeG (EG S V z fun _ => True) i = true ↔ isTree (EG S V z fun _ => True) i := by
    unfold treeG; rw [Int.toNat_natCast, decide_eq_true_iff]; exact ⟨fun h => h.2, fun h => ⟨by omega, h⟩⟩
  unfold rch
  cases hr : rdR (lateB S V z i) (zA z) (zB z) S V (updT (fun _ => false) (zA z i) true) (zB z i) with
  | true =>
    have := h2.1 (h1.1 hr)
    cases ht : treeG (EG S V z fun _ => True) i with
    | false => rfl
    | true => exact absurd this (h3.1 (h4.1 ht))
  | false =>
    cases ht : treeG (EG S V z fun _ => True) i with
    | true => rfl
    | false =>
      exfalso
      have hnt : ¬ isTree (EG S V z fun _ => True) i := fun h => by rw [h4.2 h] at ht; cases ht
      have hc := Classical.byContradiction fun hc => hnt (h3.2 hc)
      have := h1.2 (h2.2 hc)
      rw [hr] at this; cases this
end
end Go.Proofs.Ythkkelkgfkehlaa

/- ForestLate: the walk. -/
namespace Go.Proofs.Ythkkelkgfkehlaa
open Go.RowKit Classical
set_option maxRecDepth 10000
set_option maxHeartbeats 1600000

theorem small_true {n : Int} {len : Nat} (h : smallF n len = true) : ∃ m : Nat, n = m ∧ m ≤ 30 ∧ len ≤ 80 := by
  unfold smallF at h
  simp only [Bool.and_eq_true, decide_eq_true_eq] at h
  exact ⟨n.toNat, by omega, by omega, h.2.2⟩
/-- What the walk of a law carries: the forest, and the row of what is there. -/
def LK (W wr : World) (pf S V : Nat) (G : EMap) (tb : Nat) (f : Nat → Bool) : Prop := ∃ L, FO W wr pf S V G L ∧ Blk wr tb 4 (bRow S f) ∧ W.heap.size ≤ tb ∧ tb ∉ L
/-- All its blocks are below m. -/
def LKm (W wr : World) (pf S V : Nat) (G : EMap) (tb : Nat) (f : Nat → Bool) (m : Nat) : Prop := ∃ L, FO W wr pf S V G L ∧ Blk wr tb 4 (bRow S f) ∧ W.heap.size ≤ tb ∧ tb ∉ L ∧ (∀ q ∈ L, q < m) ∧ tb < m
section
variable {W wr w' : World} {pf S V tb m : Nat} {G G' : EMap} {f : Nat → Bool} {L : List Nat}
theorem LK.now (h : LK W wr pf S V G tb f) : LKm W wr pf S V G tb f wr.heap.size := by
  obtain ⟨L, h1, h2, h3, h4⟩ := h
  exact ⟨L, h1, h2, h3, h4, h1.lt, h2.lt⟩
theorem LKm.lk (h : LKm W wr pf S V G tb f m) : LK W wr pf S V G tb f := by
  obtain ⟨L, h1, h2, h3, h4, _⟩ := h
  exact ⟨L, h1, h2, h3, h4⟩
theorem LKm.keep (h : LKm W wr pf S V G tb f m) {X : List Nat} (hf : Fr X wr w') (hx : ∀ q ∈ X, m ≤ q) (hw : ∀ q ∈ X, W.heap.size ≤ q) : LKm W w' pf S V G tb f m := by
  obtain ⟨L, h1, h2, h3, h4, h5, h6⟩ := h
  exact ⟨L, h1.keep hf (fun q hq hm => by have := hx q hm; have := h5 q hq; omega) hw, hf.blk h2 (fun hm => by have := hx _ hm; omega), h3, h4, h5, h6⟩
theorem LKm.keep0 (h : LKm W wr pf S V G tb f m) (hf : Fr [] wr w') : LKm W w' pf S V G tb f m := h.keep hf (by simp) (by simp)
theorem LKm.fr (h : LKm W wr pf S V G tb f m) : Fr [] W wr := by obtain ⟨L, h1, _⟩ := h; exact h1.fr
theorem LKm.blk (h : LKm W wr pf S V G tb f m) : Blk wr tb 4 (bRow S f) := by obtain ⟨L, _, h2, _⟩ := h; exact h2
theorem LKm.tree (h : LKm W wr pf S V G tb f m) {s : Int} (hs : -9223372036854775808 ≤ s ∧ s ≤ 9223372036854775807) : Calls Try.prog 14 #[fptr pf, .int .i64 s] wr fun e w' => e = .returned (.bool (treeG G s)) ∧ LKm W w' pf S V G tb f m ∧ Fr [] wr w' := by
  obtain ⟨L, h1, h2, h3, h4⟩ := h
  refine (fo_tree h1 hs).mono ?_
  rintro e w' ⟨rfl, h5, h6⟩
  exact ⟨rfl, ⟨L, h5, h6.blk h2 (by simp), h3, h4⟩, h6⟩
theorem LK.keep (h : LK W wr pf S V G tb f) (hf : Fr [] wr w') : LK W w' pf S V G tb f := by
  obtain ⟨L, h1, h2, h3, h4⟩ := h
  exact ⟨L, h1.keep0 hf, hf.blk h2 (by simp), h3, h4⟩
theorem LK.fr (h : LK W wr pf S V G tb f) : Fr [] W wr := by obtain ⟨L, h1, _⟩ := h; exact h1.fr
theorem LK.blk (h : LK W wr pf S V G tb f) : Blk wr tb 4 (bRow S f) := by obtain ⟨L, _, h2, _⟩ := h; exact h2
theorem LK.tree (h : LK W wr pf S V G tb f) {s : Int} (hs : -9223372036854775808 ≤ s ∧ s ≤ 9223372036854775807) : Calls Try.prog 14 #[fptr pf, .int .i64 s] wr fun e w' => e = .returned (.bool (treeG G s)) ∧ LK W w' pf S V G tb f ∧ Fr [] wr w' := by
  obtain ⟨L, h1, h2, h3, h4⟩ := h
  refine (fo_tree h1 hs).mono ?_
  rintro e w' ⟨rfl, h5, h6⟩
  exact ⟨rfl, ⟨L, h5, h6.blk h2 (by simp), h3, h4⟩, h6⟩
end

theorem walk_forestLate (W : World) (n : Int) (_ : (Lit.int .i64 n).wf = true) (a : Option Addr) (len cap : Nat) (z : Nat → Int × Int × Int) (hz : EdgesF W a len z) :
    Calls Try.prog 3 #[.int .i64 n, .slice a len cap] W fun e w' => e = .returned (.bool true) ∧ Below W.heap.size W w' := by
  have HS := Lib.hid (small_w36 W n a len cap hz.1)
  have HWk := Lib.hid (fun w => works_w w)
  cases hsm : smallF n len with
  | false =>
    rw [hsm] at HS
    clear hz hsm
    go_enter Try.func3, Try.ntmps3
    go_wp2_with fail
    refine HS.out.mono ?_
    rintro _ w1 ⟨rfl, rfl⟩
    go_wp2_with fail
    refine (HWk.out _).mono ?_
    rintro _ w2 ⟨rfl, hf⟩
    have HF := Lib.hid hf; clear hf
    go_wp2_with fail
    go_ret
    exact ⟨rfl, HF.out.below (by simp)⟩
  | true =>
    rw [hsm] at HS
    obtain ⟨n, rfl, hn, hl⟩ := small_true hsm
    have HG1 := Lib.hid (grown_w36 W W (Fr.refl _ _) n hn a len cap hl z hz true)
    have HZ := Lib.hid hz
    have HR := Lib.hid (fun (w : World) (hW : Fr [] W w) (ub ucap : Nat) (use : Nat → Bool) (hu : Blk w ub 4 (bRow len use)) (hok : ∀ i, i < len → use i = true → okE n (z i) = true) (p : Nat) (hp : p < n) => reached_w36 W w hW n hn a len cap hl z hz ub ucap use hu hok p hp)
    clear hz hsm
    go_enter Try.func3, Try.ntmps3
    go_wp2_with fail
    refine HS.out.mono ?_
    rintro _ w0 ⟨rfl, rfl⟩
    go_wp2_with fail
    refine HG1.out.mono ?_
    rintro _ w1 ⟨pf, tb, rfl, L, hO, hF, hQ, hB, ht, hnL⟩
    have H1 := Lib.hid (show LK w0 w1 pf len n _ tb _ from ⟨L, hO, hB, ht, hnL⟩)
    clear hO hF hQ hB ht hnL HG1 HS
    go_wp2_with fail
    go_loopw [7] (fun x wr => ∃ i : Nat, i ≤ len ∧ x = .int .i64 i ∧ Hid (LK w0 wr pf len n (EG len n z fun _ => True) tb (fun t => okE n (z t)))) (fun x _ => len - (intOf x).toNat)
    case atStart => exact ⟨0, Nat.zero_le _, rfl, H1⟩
    case round =>
      clear H1
      obtain ⟨i, hi, rfl, H⟩ := hrel
      rename World => wo
      by_cases hlt : i < len
      · have hlt' : (i : Int) < len := by omega
        have hw1 : IntKind.i64.wrap ((i : Int) + 1) = ((i + 1 : Nat) : Int) := by rw [show (i : Int) + 1 = ((i + 1 : Nat) : Int) by omega]; exact IntWalk.i64_in _ (by omega)
        have t0 := H.out.blk.cell i
        rw [bRow_at _ hlt] at t0
        cases ho : okE n (z i) with
        | false =>
          rw [ho] at t0
          clear ho
          go_wp2_with fail
          go_roundw
          case rel => exact ⟨i + 1, by omega, rfl, H⟩
          case measure => simp [intOf]; omega
        | true =>
          rw [ho] at t0
          have hmk := fun w' => run_makeB len w' (by omega)
          have HO := Lib.hid ho; clear ho
          go_wp2_with fail
          clear hmk t0
          have hb := Blk.new wo (bRow len fun _ => false) 4
          have hfa : Fr [] wo (wo.alloc (.cells (bRow len fun _ => false).toArray 4)) := (Fr.refl _ _).alloc _
          have H2 := Lib.hid (And.intro (H.out.now.keep0 hfa) (And.intro hb hfa)); clear hb hfa
          generalize wo.alloc (.cells (bRow len fun _ => false).toArray 4) = w2 at *
          go_loopw [9] (fun x wq => ∃ k : Nat, k ≤ len ∧ x = .int .i64 k ∧ Hid (LKm w0 wq pf len n (EG len n z fun _ => True) tb (fun t => okE n (z t)) wo.heap.size ∧ Blk wq wo.heap.size 4 (bRow len fun t => decide (t < k) && lateB len n z i t) ∧ Fr [] wo wq)) (fun x _ => len - (intOf x).toNat)
          case atStart => exact ⟨0, Nat.zero_le _, rfl, Lib.hid ⟨H2.out.1, by rw [bRow_congr (f' := fun _ => false) (fun t _ => by simp)]; exact H2.out.2.1, H2.out.2.2⟩⟩
          case round =>
            clear H2
            obtain ⟨k, hk, rfl, HK⟩ := hrel
            by_cases hlt : k < len
            · have hlt2 : (k : Int) < len := by omega
              have hw2 : IntKind.i64.wrap ((k : Int) + 1) = ((k + 1 : Nat) : Int) := by rw [show (k : Int) + 1 = ((k + 1 : Nat) : Int) by omega]; exact IntWalk.i64_in _ (by omega)
              have hWr := H.out.fr.size
              have fin : Hid (∀ (wq' : World), LKm w0 wq' pf len n (EG len n z fun _ => True) tb (fun t => okE n (z t)) wo.heap.size → Blk wq' wo.heap.size 4 (bRow len fun t => decide (t < k) && lateB len n z i t) → Fr [] wo wq' → ∀ v, lateB len n z i k = v →
                  LKm w0 (wq'.setCell ⟨wo.heap.size, k, none⟩ (.bool v)) pf len n (EG len n z fun _ => True) tb (fun t => okE n (z t)) wo.heap.size ∧ Blk (wq'.setCell ⟨wo.heap.size, k, none⟩ (.bool v)) wo.heap.size 4 (bRow len fun t => decide (t < k + 1) && lateB len n z i t) ∧ Fr [] wo (wq'.setCell ⟨wo.heap.size, k, none⟩ (.bool v))) := Lib.hid (fun wq' h1 h2 h3 v hv => by
                have hf : Fr [wo.heap.size] wq' (wq'.setCell ⟨wo.heap.size, k, none⟩ (.bool v)) := (Fr.refl _ _).setCell _ _ (.inl (by simp))
                refine ⟨h1.keep hf (by simp) (by simp; omega), ?_, h3.trans hf (fun q hq => .inr (by simp at hq; omega))⟩
                have h4 := h2.set k (.bool v)
                rw [bRow_set, bRow_congr (f' := fun t => decide (t < k + 1) && lateB len n z i t) (fun t ht => ?_)] at h4
                · exact h4
                · by_cases e : t = k
                  · rw [e, updT_same, ← hv]; simp
                  · rw [updT_other e]
                    have : (t < k + 1) ↔ (t < k) := by omega
                    simp only [this])
              have t0 := HK.out.1.blk.cell k
              rw [bRow_at _ hlt] at t0
              have l0 := HK.out.2.1.cell k
              have l1 := HK.out.2.1.frozen k
              rw [bRow_at _ hlt] at l0
              have hFq := HK.out.1.fr
              obtain ⟨b, off, rfl, hbi, _, _, xi, _⟩ := (HZ.out.fr hFq).2 i (by omega)
              obtain ⟨b', off', e, _, _, _, xk, _⟩ := (HZ.out.fr hFq).2 k hlt
              cases e
              have hTr := fun (nq : Nat) => LKm.tree (HK.out.1.keep0 ((Fr.refl [] wr).drewN nq)) (s := (k : Int)) (by omega)
              have hlb : lateB len n z i k = (okE n (z k) && (decide (bef (z i).2.2 i (z k).2.2 k) && treeG (EG len n z fun _ => True) k)) := rfl
              rw [hlb] at fin
              have HTr := Lib.hid hTr
              clear hTr hlb hFq
              generalize hxi : (z i).2.2 = yi at *
              generalize hxk : (z k).2.2 = yk at *
              have HXX := Lib.hid (And.intro hxi hxk); clear hxi hxk
              generalize treeG (EG len n z fun _ => True) k = tk at *
              cases hok : okE n (z k) with
              | false =>
                rw [hok] at t0 fin
                clear hok
                have hfin := fun (nq : Nat) => fin.out (wr.drewN nq) (HK.out.1.keep0 ((Fr.refl [] wr).drewN nq)) (HK.out.2.1.drewN nq) (HK.out.2.2.drewN nq) false rfl
                have HFin := Lib.hid hfin; clear hfin fin
                by_cases h1 : yi < yk
                · go_wp2_with fail
                  go_quiet (fail)
                  go_wp2_with fail
                  go_roundw
                  case rel => exact ⟨k + 1, by omega, rfl, Lib.hid (HFin.out _)⟩
                  case measure => simp [intOf]; omega
                · have d1 : decide (yk > yi) = false := decide_eq_false h1
                  by_cases h2 : yk = yi
                  · go_wp2_with fail
                    go_quiet (fail)
                    go_wp2_with fail
                    go_roundw
                    case rel => exact ⟨k + 1, by omega, rfl, Lib.hid (HFin.out _)⟩
                    case measure => simp [intOf]; omega
                  · have d2 : (yk == yi) = false := by simp [h2]
                    go_wp2_with fail
                    go_quiet (fail)
                    go_wp2_with fail
                    go_roundw
                    case rel => exact ⟨k + 1, by omega, rfl, Lib.hid (HFin.out _)⟩
                    case measure => simp [intOf]; omega
              | true =>
                rw [hok] at t0 fin
                clear hok
                by_cases hb : bef yi i yk k
                · rw [decide_eq_true hb] at fin
                  have Fin := Lib.hid fin.out; clear fin
                  unfold bef at hb
                  by_cases h1 : yi < yk
                  · clear hb
                    go_wp2_with fail
                    go_quiet (fail)
                    go_wp2_with fail
                    refine (HTr.out _).mono ?_
                    rintro _ w5 ⟨rfl, hk5, hf5'⟩
                    have hf5 : Fr [] wr w5 := ((Fr.refl [] wr).drewN _).trans' hf5'
                    clear hf5'
                    have hB5 := hf5.blk HK.out.2.1 (by simp)
                    have HFin := Lib.hid (Fin.out _ hk5 hB5 (HK.out.2.2.trans' hf5) tk rfl)
                    have l0 := hB5.cell k
                    have l1 := hB5.frozen k
                    rw [bRow_at _ hlt] at l0
                    clear hk5 hB5 hf5 Fin
                    go_wp2_with fail
                    go_roundw
                    case rel => exact ⟨k + 1, by omega, rfl, HFin⟩
                    case measure => simp [intOf]; omega
                  · have h2 : yk = yi := by omega
                    have h3 : i < k := by omega
                    have d1 : decide (yk > yi) = false := decide_eq_false h1
                    have d3 : decide ((k : Int) > i) = true := decide_eq_true (by omega)
                    clear hb
                    go_wp2_with fail
                    go_quiet (fail)
                    go_wp2_with fail
                    refine (HTr.out _).mono ?_
                    rintro _ w5 ⟨rfl, hk5, hf5'⟩
                    have hf5 : Fr [] wr w5 := ((Fr.refl [] wr).drewN _).trans' hf5'
                    clear hf5'
                    have hB5 := hf5.blk HK.out.2.1 (by simp)
                    have HFin := Lib.hid (Fin.out _ hk5 hB5 (HK.out.2.2.trans' hf5) tk rfl)
                    have l0 := hB5.cell k
                    have l1 := hB5.frozen k
                    rw [bRow_at _ hlt] at l0
                    clear hk5 hB5 hf5 Fin
                    go_wp2_with fail
                    go_roundw
                    case rel => exact ⟨k + 1, by omega, rfl, HFin⟩
                    case measure => simp [intOf]; omega
                · rw [decide_eq_false hb] at fin
                  have hfin := fun (nq : Nat) => fin.out (wr.drewN nq) (HK.out.1.keep0 ((Fr.refl [] wr).drewN nq)) (HK.out.2.1.drewN nq) (HK.out.2.2.drewN nq) false rfl
                  have HFin := Lib.hid hfin; clear hfin fin
                  unfold bef at hb
                  have h1 : ¬ yi < yk := by omega
                  have d1 : decide (yk > yi) = false := decide_eq_false h1
                  by_cases h2 : yk = yi
                  · have h3 : ¬ i < k := by omega
                    have d3 : decide ((k : Int) > i) = false := decide_eq_false (by omega)
                    clear hb
                    go_wp2_with fail
                    go_quiet (fail)
                    go_wp2_with fail
                    go_roundw
                    case rel => exact ⟨k + 1, by omega, rfl, Lib.hid (HFin.out _)⟩
                    case measure => simp [intOf]; omega
                  · have d2 : (yk == yi) = false := by simp [h2]
                    clear hb
                    go_wp2_with fail
                    go_quiet (fail)
                    go_wp2_with fail
                    go_roundw
                    case rel => exact ⟨k + 1, by omega, rfl, Lib.hid (HFin.out _)⟩
                    case measure => simp [intOf]; omega
            · obtain rfl : k = len := by omega
              have hin := okE_in HO.out
              have hrow : Blk wr wo.heap.size 4 (bRow k (lateB k n z i)) := by
                have := HK.out.2.1
                rwa [bRow_congr (f' := lateB k n z i) (fun t ht => by simp [ht])] at this
              have hRe := HR.out wr HK.out.1.fr wo.heap.size k (lateB k n z i) hrow (fun t ht h => late_ok (by omega) h) (zA z i) hin.2.2.1
              have hFq := HK.out.1.fr
              obtain ⟨b, off, rfl, hbi, q0, q1, _, _⟩ := (HZ.out.fr hFq).2 i (by omega)
              rw [hin.1] at q0
              have HRe := Lib.hid hRe
              have Hin := Lib.hid hin
              clear hRe hin hrow hFq q1
              go_wp2_with fail
              refine HRe.out.mono ?_
              rintro _ w5 ⟨sb, rfl, hb5, hs5, hf5⟩
              have H5 := Lib.hid (And.intro (HK.out.1.keep0 hf5) (And.intro hb5 hf5))
              have HLt := Lib.hid (late_tree (V := n) (z := z) (show i < k by omega) HO.out)
              clear hb5 hf5 q0 HRe
              obtain ⟨zb, hzb⟩ : ∃ zb, zb = zB z i := ⟨_, rfl⟩
              have hzbn : (zb : Int) < n := by rw [hzb]; have := Hin.out.2.2.2.1; omega
              obtain ⟨tk, htk⟩ : ∃ tk, tk = treeG (EG k n z fun _ => True) i := ⟨_, rfl⟩
              have HE := Lib.hid (And.intro hzb htk)
              clear hzb htk
              go_wp2_with fail
              refine region_cw (fun w' => LKm w0 w' pf k n (EG k n z fun _ => True) tb (fun t => okE n (z t)) wo.heap.size ∧ Fr [] w5 w') (by kernel_rfl) (by kernel_rfl) ⟨H5.out.1.keep0 (Fr.refl [] w5).drew, (Fr.refl [] w5).drew⟩ ?_
              iterate 5 (refine cw_pure (by kernel_rfl) (fun KK hK => ?_); go_simp; refine hK.out _ ?_; clear hK KK)
              refine cw_val (by kernel_rfl) (.int .i64 zb) (fun w' hw' => ?_) ?_
              · obtain ⟨b', off', e, _, _, q1, _⟩ := (HZ.out.fr hw'.1.fr).2 i (by omega)
                cases e
                rw [Hin.out.2.1, ← HE.out.1] at q1
                go_simp
              iterate 1 (refine cw_pure (by kernel_rfl) (fun KK hK => ?_); go_simp; refine hK.out _ ?_; clear hK KK)
              refine cw_val (by kernel_rfl) (.bool (!tk)) (fun w' hw' => ?_) ?_
              · have q2 := (hw'.2.blk H5.out.2.1 (by simp)).cell zb
                rw [bRow_at _ (by omega), HE.out.1, HLt.out, ← HE.out.2, ← HE.out.1] at q2
                go_simp
              iterate 2 (refine cw_pure (by kernel_rfl) (fun KK hK => ?_); go_simp; refine hK.out _ ?_; clear hK KK)
              refine cw_val (by kernel_rfl) (.bool tk) (fun w' hw' => ?_) ?_
              · go_simp
                refine (LKm.tree hw'.1 (s := (i : Int)) (by omega)).mono ?_
                rintro _ w6 ⟨rfl, h1, h2⟩
                exact ⟨by rw [HE.out.2], h1, hw'.2.trans' h2⟩
              have e9 : ((!tk) == tk) = false := by cases tk <;> rfl
              iterate 1 (refine cw_pure (by kernel_rfl) (fun KK hK => ?_); go_simp; refine hK.out _ ?_; clear hK KK)
              refine cw_nil ?_
              rintro w6 ⟨h1, h2⟩
              have H6 := Lib.hid h1.lk; clear h1 h2
              go_wp2_with fail
              go_roundw
              case rel => exact ⟨i + 1, by omega, rfl, H6⟩
              case measure => simp [intOf]; omega
      · obtain rfl : i = len := by omega
        go_wp2_with fail
        refine (HWk.out _).mono ?_
        rintro _ wc ⟨rfl, hf⟩
        have HF := Lib.hid (H.out.fr.trans' hf); clear hf
        go_wp2_with fail
        go_ret
        exact ⟨rfl, HF.out.below (by simp)⟩
end Go.Proofs.Ythkkelkgfkehlaa

/- ForestUntil: the walk. -/
namespace Go.Proofs.Ythkkelkgfkehlaa
open Go.RowKit Classical
set_option maxRecDepth 10000
set_option maxHeartbeats 1600000

section
variable {S V : Nat} {z : Nat → Int × Int × Int} {P : Nat → Prop} {a b : Nat} {T : Int}
theorem eg_cx : Cx (EG S V z P) (fun _ => True) a b ↔ Cx (EG S V z fun _ => True) P a b := by
  constructor
  · intro h
    refine h.mono' fun u f _ hg => ?_
    obtain ⟨a, b, x⟩ := f
    obtain ⟨⟨h1, h2, h3⟩, rfl, rfl, rfl⟩ := eg_some.1 hg
    exact ⟨h1, eg_at ⟨trivial, h2, h3⟩⟩
  · intro h
    refine h.mono' fun u f hp hg => ?_
    obtain ⟨a, b, x⟩ := f
    obtain ⟨⟨h1, h2, h3⟩, rfl, rfl, rfl⟩ := eg_some.1 hg
    exact ⟨trivial, eg_at ⟨hp, h2, h3⟩⟩
theorem until_early (h : IsUntil (EG S V z fun _ => True) a b T) : Cx (EG S V z fun t => ¬ (z t).2.2 < T) (fun _ => True) a b :=
  eg_cx.2 (h.1.mono fun u f hu hg => by
    obtain ⟨_, _, x, h1, h2⟩ := hu
    obtain ⟨_, _, _, rfl⟩ := eg_some.1 h1
    omega)
theorem until_upto (h : IsUntil (EG S V z fun _ => True) a b T) : ¬ Cx (EG S V z fun t => ¬ (z t).2.2 ≤ T) (fun _ => True) a b := fun hc =>
  h.2 ((eg_cx.1 hc).mono fun u f hu hg => by
    obtain ⟨a, b, x⟩ := f
    obtain ⟨_, rfl, rfl, rfl⟩ := eg_some.1 hg
    exact ⟨_, _, _, hg, by omega⟩)
theorem until_some (h : IsUntil (EG S V z fun _ => True) a b T) : cntT S (fun t => okE V (z t) = true ∧ (z t).2.2 < T) < cntT S fun t => okE V (z t) = true ∧ (z t).2.2 ≤ T := by
  apply Classical.byContradiction
  intro hn
  refine until_upto h ?_
  have e : EG S V z (fun t => ¬ (z t).2.2 < T) = EG S V z (fun t => ¬ (z t).2.2 ≤ T) := by
    funext t
    unfold EG
    by_cases hp : ¬ (z t).2.2 ≤ T ∧ t < S ∧ okE V (z t) = true
    · rw [if_pos hp, if_pos ⟨by omega, hp.2⟩]
    · rw [if_neg hp]
      rw [if_neg]
      rintro ⟨h1, h2, h3⟩
      refine hn (cnt_lt_of (fun s hs => ⟨hs.1, by omega⟩) h2 ⟨h3, ?_⟩ (fun h => h1 h.2))
      apply Classical.byContradiction
      intro h4
      exact hp ⟨h4, h2, h3⟩
  rw [← e]; exact until_early h
theorem connG_iff {G : EMap} {x y : Int} (h : inV V x = true ∧ inV V y = true) : connG V G x y = decide (Cx G (fun _ => True) x.toNat y.toNat) := by
  unfold connG; rw [h.1, h.2]; rfl
/-- What Until says where it says something. -/
theorem until_true {x y : Int} (_hG : GW S V (EG S V z fun _ => True)) (hu : ∀ x y : Int, untilB V (EG S V z fun _ => True) x y = true → ∃ T, IsUntil (EG S V z fun _ => True) x.toNat y.toNat T) (h : untilB V (EG S V z fun _ => True) x y = true) :
    inV V x = true ∧ inV V y = true ∧ IsUntil (EG S V z fun _ => True) x.toNat y.toNat (untilV V (EG S V z fun _ => True) x y) := by
  obtain ⟨T, hT⟩ := hu x y h
  have e : untilV V (EG S V z fun _ => True) x y = T := by unfold untilV; rw [if_pos h]; exact untilI_eq hT
  have h' := h
  unfold untilB connG at h'
  simp only [Bool.and_eq_true] at h'
  rw [e]
  exact ⟨h'.2.1.1, h'.2.1.2, hT⟩
end

/-- Where two vertices are connected, the first edge of their path says until when. -/
theorem until_ex {G : EMap} {S V : Nat} (hG : GW S V G) {a b : Nat} (hab : a ≠ b) (h : Cx G (fun _ => True) a b) : ∃ T, IsUntil G a b T := by
  -- the latest time with which they are connected
  have key : ∀ (k : Nat) (U : Nat → Prop), cntT S U ≤ k → (∀ t, U t → ∃ e, G t = some e) → Upw G U → Cx G U a b → ∃ T, IsUntil G a b T := by
    intro k
    induction k with
    | zero =>
      intro U hk hU _ hc
      exfalso
      have h0 : ∀ s, ¬ U s := fun s hs => by obtain ⟨e, he⟩ := hU s hs; exact cnt_zero (by omega) s (hG.slot s e he) hs
      cases hc with
      | refl => exact hab rfl
      | step s x _ h1 _ => exact h0 s h1
    | succ k ih =>
      intro U hk hU hup hc
      by_cases hex : ∃ s, U s
      · obtain ⟨s, c, d, x, hs, hgs, hall⟩ := first_ex hG.slot (k + 1) U hk hU hex
        by_cases hb : Cx G (Beyond G x) a b
        · -- what is beyond x is fewer
          have hd := cntT_drop (T := U) (hG.slot s _ hgs) hs
          have hsub : ∀ t, Beyond G x t ∧ U t → U t ∧ t ≠ s := fun t ⟨⟨_, _, y, h1, h2⟩, h3⟩ => ⟨h3, by rintro rfl; rw [hgs] at h1; simp at h1; omega⟩
          refine ih (fun t => Beyond G x t ∧ U t) (by have := cnt_le_of S hsub; omega) (fun t ht => hU t ht.2) ?_ ?_
          · rintro t c' d' y u ⟨⟨_, _, y', h1, h2⟩, h3⟩ h4 h5
            refine ⟨?_, hup t c' d' y u h3 h4 h5⟩
            rw [h4] at h1; simp only [Option.some.injEq, Prod.mk.injEq] at h1
            obtain ⟨_, _, v, h6, h7⟩ := h5
            exact ⟨_, _, v, h6, by unfold bef at h7; omega⟩
          · exact hb.mono fun t f ht hg => ⟨ht, by
              obtain ⟨_, _, y, h1, h2⟩ := ht
              by_cases e : t = s
              · rw [e]; exact hs
              · exact hup s c d x t hs hgs ⟨_, _, y, h1, by unfold bef; omega⟩⟩
        · refine ⟨x, hc.mono fun t f ht hg => ?_, hb⟩
          by_cases e : t = s
          · subst e; exact ⟨_, _, _, hgs, Int.le_refl _⟩
          · obtain ⟨_, _, y, h1, h2⟩ := hall t ht e
            exact ⟨_, _, y, h1, by unfold bef at h2; omega⟩
      · exfalso
        cases hc with
        | refl => exact hab rfl
        | step s x _ h1 _ => exact hex ⟨s, h1⟩
  refine key _ (fun t => ∃ e, G t = some e) (Nat.le_refl _) (fun t h => h) (fun _ _ _ _ _ _ _ ⟨_, _, _, h, _⟩ => ⟨_, h⟩) (h.mono fun t f _ hg => ⟨f, hg⟩)
theorem until_exB {G : EMap} {S V : Nat} (hG : GW S V G) {x y : Int} (h : untilB V G x y = true) : ∃ T, IsUntil G x.toNat y.toNat T := by
  unfold untilB connG at h
  simp only [Bool.and_eq_true, decide_eq_true_eq] at h
  obtain ⟨h1, ⟨h2, h3⟩, h4⟩ := h
  obtain ⟨a, rfl, _⟩ := inV_nat h2
  obtain ⟨b, rfl, _⟩ := inV_nat h3
  exact until_ex hG (by omega) h4

/-- A forest that was made since the call began; its blocks are not told. -/
def FX (W wr : World) (pf S V : Nat) (G : EMap) : Prop := ∃ L, FO W wr pf S V G L
theorem FX.fr {W wr : World} {pf S V : Nat} {G : EMap} (h : FX W wr pf S V G) : Fr [] W wr := by obtain ⟨L, h⟩ := h; exact h.fr
theorem FX.exp {W wr : World} {pf S V : Nat} {G : EMap} (h : FX W wr pf S V G) : Calls Try.prog 18 #[fptr pf] wr fun e w' => e = .returned (.tuple #[.int .i64 ((fstG G).getD 0 : Nat), .bool (fstG G).isSome]) ∧ FX W w' pf S V (popG G) := by
  obtain ⟨L, h⟩ := h
  refine (fo_exp h).mono ?_
  rintro e w' ⟨rfl, L', h1, _⟩
  exact ⟨rfl, L', h1⟩
theorem FX.conn {W wr : World} {pf S V : Nat} {G : EMap} (h : FX W wr pf S V G) (x y : Int) : Calls Try.prog 17 #[fptr pf, .int .i64 x, .int .i64 y] wr fun e w' => e = .returned (.bool (connG V G x y)) ∧ FX W w' pf S V G := by
  obtain ⟨L, h⟩ := h
  refine (fo_conn h x y).mono ?_
  rintro e w' ⟨rfl, L', h1, _⟩
  exact ⟨rfl, L', h1⟩
end Go.Proofs.Ythkkelkgfkehlaa

/- ForestUntil: the walk. -/
namespace Go.Proofs.Ythkkelkgfkehlaa
open Go.RowKit Classical
set_option maxRecDepth 10000
set_option maxHeartbeats 1600000

section
variable {W wr w' : World} {pf S V tb : Nat} {G G' : EMap} {f : Nat → Bool} {L : List Nat}
theorem LK.moved (_hO : FO W wr pf S V G L) (hB : Blk wr tb 4 (bRow S f)) (ht : W.heap.size ≤ tb) (hn : tb ∉ L) (hm : FM W wr w' pf S V G' L) : LK W w' pf S V G' tb f := by
  obtain ⟨L', h1, h2, h3⟩ := hm
  exact ⟨L', h1, h2.blk hB hn, ht, fun e => (h3 tb e).elim hn (fun e => by have := hB.lt; omega)⟩
theorem LK.conn (h : LK W wr pf S V G tb f) (x y : Int) : Calls Try.prog 17 #[fptr pf, .int .i64 x, .int .i64 y] wr fun e w' => e = .returned (.bool (connG V G x y)) ∧ LK W w' pf S V G tb f := by
  obtain ⟨L, h1, h2, h3, h4⟩ := h
  refine (fo_conn h1 x y).mono ?_
  rintro e w' ⟨rfl, hm⟩
  exact ⟨rfl, LK.moved h1 h2 h3 h4 hm⟩
theorem LK.until (h : LK W wr pf S V G tb f) (x y : Int) : Calls Try.prog 16 #[fptr pf, .int .i64 x, .int .i64 y] wr fun e w' => e = .returned (.tuple #[.int .i64 (untilV V G x y), .bool (untilB V G x y)]) ∧ LK W w' pf S V G tb f := by
  obtain ⟨L, h1, h2, h3, h4⟩ := h
  refine (fo_until h1 x y).mono ?_
  rintro e w' ⟨rfl, hm⟩
  exact ⟨rfl, LK.moved h1 h2 h3 h4 hm⟩
theorem LK.size (h : LK W wr pf S V G tb f) (x : Int) : Calls Try.prog 22 #[fptr pf, .int .i64 x] wr fun e w' => e = .returned (.int .i64 (sizeG V G x)) ∧ LK W w' pf S V G tb f := by
  obtain ⟨L, h1, h2, h3, h4⟩ := h
  refine (fo_size h1 x).mono ?_
  rintro e w' ⟨rfl, hm⟩
  exact ⟨rfl, LK.moved h1 h2 h3 h4 hm⟩
theorem LK.exp (h : LK W wr pf S V G tb f) : Calls Try.prog 18 #[fptr pf] wr fun e w' => e = .returned (.tuple #[.int .i64 ((fstG G).getD 0 : Nat), .bool (fstG G).isSome]) ∧ LK W w' pf S V (popG G) tb f := by
  obtain ⟨L, h1, h2, h3, h4⟩ := h
  refine (fo_exp h1).mono ?_
  rintro e w' ⟨rfl, hm⟩
  exact ⟨rfl, LK.moved h1 h2 h3 h4 hm⟩
theorem LK.gw (h : LK W wr pf S V G tb f) : GW S V G := by obtain ⟨L, h1, _⟩ := h; exact h1.f.gw.1
end

theorem walk_forestUntil (W : World) (n : Int) (_ : (Lit.int .i64 n).wf = true) (a : Option Addr) (len cap : Nat) (z : Nat → Int × Int × Int) (hz : EdgesF W a len z) (x : Int) (_ : (Lit.int .i64 x).wf = true) (y : Int) (_ : (Lit.int .i64 y).wf = true) :
    Calls Try.prog 4 #[.int .i64 n, .slice a len cap, .int .i64 x, .int .i64 y] W fun e w' => e = .returned (.bool true) ∧ Below W.heap.size W w' := by
  have HS := Lib.hid (small_w36 W n a len cap hz.1)
  have HWk := Lib.hid (fun w => works_w w)
  cases hsm : smallF n len with
  | false =>
    rw [hsm] at HS
    clear hz hsm
    go_enter Try.func4, Try.ntmps4
    go_wp2_with fail
    refine HS.out.mono ?_
    rintro _ w1 ⟨rfl, rfl⟩
    go_wp2_with fail
    refine (HWk.out _).mono ?_
    rintro _ w2 ⟨rfl, hf⟩
    have HF := Lib.hid hf; clear hf
    go_wp2_with fail
    go_ret
    exact ⟨rfl, HF.out.below (by simp)⟩
  | true =>
    rw [hsm] at HS
    obtain ⟨n, rfl, hn, hl⟩ := small_true hsm
    have HG1 := Lib.hid (grown_w36 W W (Fr.refl _ _) n hn a len cap hl z hz false)
    have HZ := Lib.hid hz
    clear hz hsm
    go_enter Try.func4, Try.ntmps4
    go_wp2_with fail
    refine HS.out.mono ?_
    rintro _ w0 ⟨rfl, rfl⟩
    go_wp2_with fail
    refine HG1.out.mono ?_
    rintro _ w1 ⟨pf, tb, rfl, L, hO, hF, hQ, hB, ht, hnL⟩
    have hlk : LK w0 w1 pf len n (EG len n z fun _ => True) tb (fun t => okE n (z t)) := ⟨L, hO, hB, ht, hnL⟩
    have HGW := Lib.hid hlk.gw
    have A1 := Lib.hid (hlk.until x y)
    clear hO hF hQ hB ht hnL HG1 HS hlk
    go_wp2_with fail
    refine A1.out.mono ?_
    rintro _ w2 ⟨rfl, hlk⟩
    have H2 := Lib.hid hlk
    have HUT := Lib.hid (fun h => until_true (z := z) HGW.out (fun x y h => until_exB HGW.out h) (x := x) (y := y) h)
    clear hlk A1
    cases hok : untilB n (EG len n z fun _ => True) x y with
    | false =>
      have hv : untilV n (EG len n z fun _ => True) x y = 0 := by unfold untilV; rw [hok]; rfl
      rw [hv]
      by_cases hxy : x = y
      · have d1 : (x != y) = false := by simp [hxy]
        clear hok hv
        go_wp2_with fail
        refine (HWk.out _).mono ?_
        rintro _ w5 ⟨rfl, hf⟩
        have HF := Lib.hid (H2.out.fr.trans' hf); clear hf
        go_wp2_with fail
        go_ret
        exact ⟨rfl, HF.out.below (by simp)⟩
      · have d1 : (x != y) = true := by simp [hxy]
        have hc : connG n (EG len n z fun _ => True) x y = false := by
          unfold untilB at hok
          simpa [hxy] using hok
        have A2 := LK.conn H2.out x y
        rw [hc] at A2
        have A2 := Lib.hid A2
        clear hok hv hc hxy
        go_wp2_with fail
        refine A2.out.mono ?_
        rintro _ w3 ⟨rfl, h3⟩
        have H3 := Lib.hid h3; clear h3
        go_wp2_with fail
        refine (HWk.out _).mono ?_
        rintro _ w5 ⟨rfl, hf⟩
        have HF := Lib.hid (H3.out.fr.trans' hf); clear hf
        go_wp2_with fail
        go_ret
        exact ⟨rfl, HF.out.below (by simp)⟩
    | true =>
      obtain ⟨hxi, hyi, hun⟩ := HUT.out hok
      have hxy : x ≠ y := by rintro rfl; unfold untilB at hok; simp at hok
      have d1 : (x != y) = true := by simp [hxy]
      have hc : connG n (EG len n z fun _ => True) x y = true := by
        unfold untilB at hok
        simpa [hxy] using hok
      have A2 := LK.conn H2.out x y
      rw [hc] at A2
      have A2 := Lib.hid A2
      have HU := Lib.hid (And.intro hxi (And.intro hyi hun))
      clear hok hc hxy hxi hyi hun HUT
      generalize untilV n (EG len n z fun _ => True) x y = T at *
      go_wp2_with fail
      refine A2.out.mono ?_
      rintro _ w3 ⟨rfl, h3⟩
      have H3 := Lib.hid h3; clear h3 A2 H2
      go_wp2_with fail
      go_loopw [13, 14, 15] (fun e u x wr => ∃ i : Nat, i ≤ len ∧ x = .int .i64 i ∧ e = .int .i64 (cntT i fun t => okE n (z t) = true ∧ (z t).2.2 < T : Nat) ∧ u = .int .i64 (cntT i fun t => okE n (z t) = true ∧ (z t).2.2 ≤ T : Nat) ∧ Hid (LK w0 wr pf len n (EG len n z fun _ => True) tb (fun t => okE n (z t)))) (fun _ _ x _ => len - (intOf x).toNat)
      case atStart => exact ⟨0, Nat.zero_le _, rfl, rfl, rfl, H3⟩
      case round =>
        clear H3
        obtain ⟨i, hi, rfl, rfl, rfl, H⟩ := hrel
        by_cases hlt : i < len
        · have hlt' : (i : Int) < len := by omega
          have hw1 : IntKind.i64.wrap ((i : Int) + 1) = ((i + 1 : Nat) : Int) := by rw [show (i : Int) + 1 = ((i + 1 : Nat) : Int) by omega]; exact IntWalk.i64_in _ (by omega)
          have t0 := H.out.blk.cell i
          rw [bRow_at _ hlt] at t0
          obtain ⟨b, off, rfl, _, _, _, q2, _⟩ := (HZ.out.fr H.out.fr).2 i hlt
          have c1 := cntT_succ i fun t => okE n (z t) = true ∧ (z t).2.2 < T
          have c2 := cntT_succ i fun t => okE n (z t) = true ∧ (z t).2.2 ≤ T
          have b1 := cntT_le i fun t => okE n (z t) = true ∧ (z t).2.2 < T
          have b2 := cntT_le i fun t => okE n (z t) = true ∧ (z t).2.2 ≤ T
          have C1 := Lib.hid c1
          have C2 := Lib.hid c2
          clear c1 c2
          generalize (cntT i fun t => okE n (z t) = true ∧ (z t).2.2 < T) = e1 at *
          generalize (cntT i fun t => okE n (z t) = true ∧ (z t).2.2 ≤ T) = e2 at *
          have hw2 : IntKind.i64.wrap ((e1 : Int) + 1) = ((e1 + 1 : Nat) : Int) := by rw [show (e1 : Int) + 1 = ((e1 + 1 : Nat) : Int) by omega]; exact IntWalk.i64_in _ (by omega)
          have hw3 : IntKind.i64.wrap ((e2 : Int) + 1) = ((e2 + 1 : Nat) : Int) := by rw [show (e2 : Int) + 1 = ((e2 + 1 : Nat) : Int) by omega]; exact IntWalk.i64_in _ (by omega)
          cases ho : okE n (z i) with
          | false =>
            rw [ho] at t0
            have D1 := C1.out; rw [if_neg (by simp [ho])] at D1
            have D2 := C2.out; rw [if_neg (by simp [ho])] at D2
            have HD := Lib.hid (And.intro D1 D2)
            clear ho D1 D2
            go_wp2_with fail
            go_roundw
            case rel => exact ⟨i + 1, by omega, rfl, by rw [HD.out.1]; rfl, by rw [HD.out.2]; rfl, H⟩
            case measure => simp [intOf]; omega
          | true =>
            rw [ho] at t0
            generalize hxi : (z i).2.2 = xi at *
            by_cases h1 : xi < T
            · have D1 := C1.out; rw [if_pos ⟨ho, h1⟩] at D1
              have D2 := C2.out; rw [if_pos ⟨ho, by omega⟩] at D2
              have HD := Lib.hid (And.intro D1 D2)
              have d2 : decide (xi ≤ T) = true := decide_eq_true (by omega)
              clear ho D1 D2 hxi
              go_wp2_with fail
              go_roundw
              case rel => exact ⟨i + 1, by omega, rfl, by rw [HD.out.1]; rfl, by rw [HD.out.2]; rfl, H⟩
              case measure => simp [intOf]; omega
            · have d1' : decide (xi < T) = false := decide_eq_false h1
              have D1 := C1.out; rw [if_neg (fun h => h1 h.2)] at D1
              by_cases h2 : xi ≤ T
              · have D2 := C2.out; rw [if_pos ⟨ho, by omega⟩] at D2
                have HD := Lib.hid (And.intro D1 D2)
                clear ho D1 D2 hxi
                go_wp2_with fail
                go_roundw
                case rel => exact ⟨i + 1, by omega, rfl, by rw [HD.out.1]; rfl, by rw [HD.out.2]; rfl, H⟩
                case measure => simp [intOf]; omega
              · have d2 : decide (xi ≤ T) = false := decide_eq_false h2
                have D2 := C2.out; rw [if_neg (fun h => h2 h.2)] at D2
                have HD := Lib.hid (And.intro D1 D2)
                clear ho D1 D2 hxi
                go_wp2_with fail
                go_roundw
                case rel => exact ⟨i + 1, by omega, rfl, by rw [HD.out.1]; rfl, by rw [HD.out.2]; rfl, H⟩
                case measure => simp [intOf]; omega
        · obtain rfl : i = len := by omega
          have HEU := Lib.hid (until_some HU.out.2.2)
          have hE1 : ∃ e1, e1 = cntT i fun t => okE n (z t) = true ∧ (z t).2.2 < T := ⟨_, rfl⟩
          obtain ⟨e1, hE1⟩ := hE1
          have hE2 : ∃ e2, e2 = cntT i fun t => okE n (z t) = true ∧ (z t).2.2 ≤ T := ⟨_, rfl⟩
          obtain ⟨e2, hE2⟩ := hE2
          rw [← hE1, ← hE2]
          have hb1 : e1 ≤ i := by rw [hE1]; exact cntT_le _ _
          have hb2 : e2 ≤ i := by rw [hE2]; exact cntT_le _ _
          have h12 : e1 < e2 := by rw [hE1, hE2]; exact HEU.out
          have HE := Lib.hid (And.intro hE1 hE2); clear hE1 hE2
          have HP0 : Hid (∃ P : Nat → Prop, FX w0 wr pf i n (EG i n z P) ∧ (∀ t, t < i → okE n (z t) = true → ¬ P t → (z t).2.2 < T) ∧ (cntT i fun t => okE n (z t) = true ∧ ¬ P t) = 0) := Lib.hid ⟨fun _ => True, by obtain ⟨L, h1, _⟩ := H.out; exact ⟨L, h1⟩, fun t _ _ h => absurd trivial h, by rw [cntT_congr (T' := fun _ => False) (fun t => by simp), cntT_none]⟩
          clear H
          go_wp2_with fail
          go_loopw [16] (fun x wr => ∃ k : Nat, k ≤ e1 ∧ x = .int .i64 k ∧ Hid (∃ P : Nat → Prop, FX w0 wr pf i n (EG i n z P) ∧ (∀ t, t < i → okE n (z t) = true → ¬ P t → (z t).2.2 < T) ∧ (cntT i fun t => okE n (z t) = true ∧ ¬ P t) = k)) (fun x _ => e1 - (intOf x).toNat)
          case atStart => exact ⟨0, Nat.zero_le _, rfl, HP0⟩
          case round =>
            clear HP0
            obtain ⟨k, hk, rfl, HP⟩ := hrel
            by_cases hlt : k < e1
            · have hlt' : (k : Int) < e1 := by omega
              have hw1 : IntKind.i64.wrap ((k : Int) + 1) = ((k + 1 : Nat) : Int) := by rw [show (k : Int) + 1 = ((k + 1 : Nat) : Int) by omega]; exact IntWalk.i64_in _ (by omega)
              obtain ⟨P, h1, h2, h3⟩ := HP.out
              obtain ⟨m, p1, p2, p3, p4, p5, p6, p7, p8, p9⟩ := pop_next (S := i) (V := n) (z := z) (P := P) (D := fun t => (z t).2.2 < T) (fun t u _ _ hu hb => by unfold bef at hb; omega) h2 (by rw [h3, ← HE.out.1]; exact hlt)
              have A3 := h1.exp
              rw [p6] at A3
              have A3 := Lib.hid A3
              have HN := Lib.hid (And.intro p8 (show (cntT i fun t => okE n (z t) = true ∧ ¬ (P t ∧ t ≠ m)) = k + 1 by rw [p9, h3]))
              clear h1 h2 h3 p1 p2 p3 p4 p5 p6 p7 p8 p9 HP
              go_wp2_with fail
              refine A3.out.mono ?_
              rintro _ w5 ⟨rfl, h5⟩
              have H5 := Lib.hid h5; clear h5 A3
              go_wp2_with fail
              go_roundw
              case rel => exact ⟨k + 1, by omega, rfl, Lib.hid ⟨_, H5.out, HN.out.1, HN.out.2⟩⟩
              case measure => simp [intOf]; omega
            · obtain rfl : k = e1 := by omega
              obtain ⟨P, h1, h2, h3⟩ := HP.out
              have hd := pop_done (D := fun t => (z t).2.2 < T) h2 (by rw [h3, ← HE.out.1])
              have hcx : connG n (EG i n z P) x y = true := by
                rw [connG_iff ⟨HU.out.1, HU.out.2.1⟩, hd]
                exact decide_eq_true (until_early HU.out.2.2)
              have A3 := FX.conn h1 x y
              rw [hcx] at A3
              have A3 := Lib.hid A3
              have HP2 := Lib.hid (And.intro (fun t ht ho hp => Int.le_of_lt (h2 t ht ho hp)) h3)
              clear h1 h2 h3 hd hcx HP
              have d3 : ((e2 : Int) == (k : Int)) = false := by simp; omega
              go_wp2_with fail
              refine A3.out.mono ?_
              rintro _ w5 ⟨rfl, h5⟩
              have HP0 : Hid (∃ P : Nat → Prop, FX w0 w5 pf i n (EG i n z P) ∧ (∀ t, t < i → okE n (z t) = true → ¬ P t → (z t).2.2 ≤ T) ∧ (cntT i fun t => okE n (z t) = true ∧ ¬ P t) = k) := Lib.hid ⟨P, h5, HP2.out.1, HP2.out.2⟩
              clear h5 A3 HP2
              go_wp2_with fail
              go_loopw [17] (fun x wr => ∃ q : Nat, q ≤ e2 ∧ x = .int .i64 q ∧ Hid (∃ P : Nat → Prop, FX w0 wr pf i n (EG i n z P) ∧ (∀ t, t < i → okE n (z t) = true → ¬ P t → (z t).2.2 ≤ T) ∧ (cntT i fun t => okE n (z t) = true ∧ ¬ P t) = q)) (fun x _ => e2 - (intOf x).toNat)
              case atStart => exact ⟨k, by omega, rfl, HP0⟩
              case round =>
                clear HP0
                obtain ⟨q, hk, rfl, HP⟩ := hrel
                by_cases hlt : q < e2
                · have hlt' : (q : Int) < e2 := by omega
                  have hw1 : IntKind.i64.wrap ((q : Int) + 1) = ((q + 1 : Nat) : Int) := by rw [show (q : Int) + 1 = ((q + 1 : Nat) : Int) by omega]; exact IntWalk.i64_in _ (by omega)
                  obtain ⟨P, h1, h2, h3⟩ := HP.out
                  obtain ⟨m, p1, p2, p3, p4, p5, p6, p7, p8, p9⟩ := pop_next (S := i) (V := n) (z := z) (P := P) (D := fun t => (z t).2.2 ≤ T) (fun t u _ _ hu hb => by unfold bef at hb; omega) h2 (by rw [h3, ← HE.out.2]; exact hlt)
                  have A3 := h1.exp
                  rw [p6] at A3
                  have A3 := Lib.hid A3
                  have HN := Lib.hid (And.intro p8 (show (cntT i fun t => okE n (z t) = true ∧ ¬ (P t ∧ t ≠ m)) = q + 1 by rw [p9, h3]))
                  clear h1 h2 h3 p1 p2 p3 p4 p5 p6 p7 p8 p9 HP
                  go_wp2_with fail
                  refine A3.out.mono ?_
                  rintro _ w5 ⟨rfl, h5⟩
                  have H5 := Lib.hid h5; clear h5 A3
                  go_wp2_with fail
                  go_roundw
                  case rel => exact ⟨q + 1, by omega, rfl, Lib.hid ⟨_, H5.out, HN.out.1, HN.out.2⟩⟩
                  case measure => simp [intOf]; omega
                · obtain rfl : q = e2 := by omega
                  obtain ⟨P, h1, h2, h3⟩ := HP.out
                  have hd := pop_done (D := fun t => (z t).2.2 ≤ T) h2 (by rw [h3, ← HE.out.2])
                  have hcx : connG n (EG i n z P) x y = false := by
                    rw [connG_iff ⟨HU.out.1, HU.out.2.1⟩, hd]
                    exact decide_eq_false (until_upto HU.out.2.2)
                  have A3 := FX.conn h1 x y
                  rw [hcx] at A3
                  have A3 := Lib.hid A3
                  clear h1 h2 h3 hd hcx HP
                  go_wp2_with fail
                  refine A3.out.mono ?_
                  rintro _ w6 ⟨rfl, h6⟩
                  have H6 := Lib.hid h6; clear h6 A3
                  go_wp2_with fail
                  refine (HWk.out _).mono ?_
                  rintro _ w7 ⟨rfl, hf⟩
                  have HF := Lib.hid (H6.out.fr.trans' hf); clear hf
                  go_wp2_with fail
                  go_ret
                  exact ⟨rfl, HF.out.below (by simp)⟩
end Go.Proofs.Ythkkelkgfkehlaa

namespace Go.Proofs.Ythkkelkgfkehlaa
open Go.RowKit Classical
set_option maxRecDepth 10000
set_option maxHeartbeats 1600000

section
variable {S V : Nat} {z : Nat → Int × Int × Int} {P : Nat → Prop} {m : Nat}
theorem tree_pop (h1 : m < S) (h2 : okE V (z m) = true) (h3 : P m) (hf : ∀ t, t < S → okE V (z t) = true → P t → ¬ bef (z t).2.2 t (z m).2.2 m) :
    treeL S (EG S V z fun t => P t ∧ t ≠ m) = (treeL S (EG S V z P)).filter fun t => decide (t ≠ m) := by
  have hd := del_first (G := EG S V z P) (eg_at ⟨h3, h1, h2⟩) (fun t a b x h => by
    obtain ⟨⟨p1, p2, p3⟩, _, _, rfl⟩ := eg_some.1 h
    exact hf t p2 p3 p1)
  rw [eg_pop] at hd
  unfold treeL
  rw [List.filter_filter]
  refine List.filter_congr fun t _ => ?_
  rw [← Bool.decide_and]
  exact decide_eq_decide.2 ((hd t).trans ⟨fun h => ⟨h.2, h.1⟩, fun h => ⟨h.2, h.1⟩⟩)
theorem len_eg : lenG S (EG S V z P) + cntT S (fun t => okE V (z t) = true ∧ ¬ P t) = cntT S fun t => okE V (z t) = true := by
  have e : lenG S (EG S V z P) = cntT S fun t => okE V (z t) = true ∧ P t := by
    unfold lenG
    refine Nat.le_antisymm (cnt_le_on S fun t ht h => ?_) (cnt_le_on S fun t ht h => ?_)
    · unfold EG at h
      by_cases hp : P t ∧ t < S ∧ okE V (z t) = true
      · exact ⟨hp.2.2, hp.1⟩
      · rw [if_neg hp] at h; cases h
    · rw [eg_at ⟨h.2, ht, h.1⟩]; rfl
  rw [e]
  refine (cnt_split S (fun t => ⟨fun h => ?_, fun h => ?_⟩) (fun t h => h.2.2 h.1.2)).symm
  · by_cases hp : P t
    · exact .inl ⟨h, hp⟩
    · exact .inr ⟨h, hp⟩
  · exact h.elim (fun h => h.1) (fun h => h.1)
theorem pop_none (h : cntT S (fun t => okE V (z t) = true ∧ ¬ P t) = cntT S fun t => okE V (z t) = true) : EG S V z P = fun _ => none := by
  have h' : cntT S (fun t => okE V (z t) = true ∧ ¬ P t) = cntT S fun t => okE V (z t) = true ∧ True := by
    rw [h]; exact cntT_congr fun t => by simp
  rw [pop_done (D := fun _ => True) (fun _ _ _ _ => trivial) h']
  exact EG_none fun t h => h trivial
end
theorem treeL_le (S : Nat) (G : EMap) : (treeL S G).length ≤ S := cntT_le S (isTree G)
noncomputable def pB (P : Nat → Prop) (t : Nat) : Bool := decide (P t)
theorem pB_iff {P : Nat → Prop} {t : Nat} : pB P t = true ↔ P t := by unfold pB; exact decide_eq_true_iff
theorem comp_none (V S : Nat) : compG V (fun _ => none) = V := by
  have h := comp_tree (GW.no S V)
  have : cntT S (isTree fun _ => none) = 0 := by
    rw [cntT_congr (T' := fun _ => False) (fun t => ⟨fun ⟨_, _, _, e, _⟩ => (by cases e), False.elim⟩), cntT_none]
  omega
section
variable {W wr w' : World} {pf S V tb : Nat} {G G' : EMap} {f : Nat → Bool} {L : List Nat}
theorem LK.edges (h : LK W wr pf S V G tb f) : Calls Try.prog 20 #[fptr pf] wr fun e w' => ∃ v, e = .returned v ∧ RowN w' v (treeL S G) ∧ (∀ q, v.ownBlock = some q → wr.heap.size ≤ q) ∧ LKm W w' pf S V G tb f wr.heap.size ∧ Fr [] wr w' := by
  obtain ⟨L, h1, h2, h3, h4, h5, h6⟩ := h.now
  refine (fo_edges h1).mono ?_
  rintro e w' ⟨v, rfl, r1, r2, r3, r4⟩
  exact ⟨v, rfl, r1, r2, ⟨L, r3, r4.blk h2 (by simp), h3, h4, h5, h6⟩, r4⟩
theorem LK.len (h : LK W wr pf S V G tb f) : Calls Try.prog 25 #[fptr pf] wr fun e w' => e = .returned (.int .i64 (lenG S G)) ∧ LK W w' pf S V G tb f ∧ Fr [] wr w' := by
  obtain ⟨L, h1, h2, h3, h4⟩ := h
  refine (fo_len h1).mono ?_
  rintro e w' ⟨rfl, r3, r4⟩
  exact ⟨rfl, ⟨L, r3, r4.blk h2 (by simp), h3, h4⟩, r4⟩
theorem LK.count (h : LK W wr pf S V G tb f) : Calls Try.prog 21 #[fptr pf] wr fun e w' => e = .returned (.int .i64 (compG V G)) ∧ LK W w' pf S V G tb f ∧ Fr [] wr w' := by
  obtain ⟨L, h1, h2, h3, h4⟩ := h
  refine (fo_count h1).mono ?_
  rintro e w' ⟨rfl, r3, r4⟩
  exact ⟨rfl, ⟨L, r3, r4.blk h2 (by simp), h3, h4⟩, r4⟩
/-- Expire, with a row that was made. -/
theorem LKm.exp {m : Nat} (h : LKm W wr pf S V G tb f m) {v : Value} {p : List Nat} (hv : RowN wr v p) (hd : ∀ q, v.ownBlock = some q → m ≤ q) : Calls Try.prog 18 #[fptr pf] wr fun e w' => e = .returned (.tuple #[.int .i64 ((fstG G).getD 0 : Nat), .bool (fstG G).isSome]) ∧ LK W w' pf S V (popG G) tb f ∧ RowN w' v p := by
  obtain ⟨L, h1, h2, h3, h4, h5, h6⟩ := h
  refine (fo_exp h1).mono ?_
  rintro e w' ⟨rfl, hm⟩
  obtain ⟨L', m1, m2, m3⟩ := id hm
  exact ⟨rfl, LK.moved h1 h2 h3 h4 hm, hv.fr m2 (fun q hq hq' => by have := hd q hq; have := h5 q hq'; omega)⟩
/-- A cell of the row of what is there is set. -/
theorem LK.set (h : LK W wr pf S V G tb f) (i : Nat) (x : Bool) : LK W (wr.setCell ⟨tb, i, none⟩ (.bool x)) pf S V G tb (updT f i x) := by
  obtain ⟨L, h1, h2, h3, h4⟩ := h
  have hf : Fr [tb] wr (wr.setCell ⟨tb, i, none⟩ (.bool x)) := (Fr.refl _ _).setCell _ _ (.inl (by simp))
  refine ⟨L, h1.keep hf (fun q hq hm => by simp at hm; subst hm; exact h4 hq) (fun q hq => by simp at hq; omega), ?_, h3, h4⟩
  have := h2.set i (.bool x)
  rwa [bRow_set] at this
end
end Go.Proofs.Ythkkelkgfkehlaa
