/- The document's forest: Tree. -/
import Derived.Test.YthkkelkgfkehlaaGreatB14
import Derived.Test.YthkkelkgfkehlaaGreatB2
import Derived.Deep.RegionHeld3
/- forest: edges expire one after another (plain law); late edges. -/
namespace Go.Proofs.YthkkelkgfkehlaaGreat
open Classical

section
variable {S V : Nat} {z : Nat → Int × Int × Int} {P : Nat → Prop} {D : Nat → Prop} {t m k : Nat}
theorem eg_some {a b : Nat} {x : Int} : EG S V z P t = some (a, b, x) ↔ (P t ∧ t < S ∧ okE V (z t) = true) ∧ a = zA z t ∧ b = zB z t ∧ x = (z t).2.2 := by
  unfold EG zA zB
  by_cases h : P t ∧ t < S ∧ okE V (z t) = true
  · rw [if_pos h]
    simp only [Option.some.injEq, Prod.mk.injEq, h, and_self, true_and]
    constructor
    · rintro ⟨e1, e2, e3⟩; exact ⟨e1.symm, e2.symm, e3.symm⟩
    · rintro ⟨e1, e2, e3⟩; exact ⟨e1.symm, e2.symm, e3.symm⟩
  · rw [if_neg h]
    constructor
    · intro e; cases e
    · intro e; exact absurd e.1 h
theorem eg_at (h : P t ∧ t < S ∧ okE V (z t) = true) : EG S V z P t = some (zA z t, zB z t, (z t).2.2) := eg_some.2 ⟨h, rfl, rfl, rfl⟩
theorem eg_slot {e : Nat × Nat × Int} (h : EG S V z P t = some e) : t < S := by obtain ⟨a, b, x⟩ := e; exact (eg_some.1 h).1.2.1
theorem eg_pop (m : Nat) : updG (EG S V z P) m none = EG S V z (fun t => P t ∧ t ≠ m) := by
  funext t
  by_cases e : t = m
  · subst e; rw [updG_same]; unfold EG; rw [if_neg (fun h => h.1.2 rfl)]
  · rw [updG_other e]
    unfold EG
    simp [e]

theorem cnt_lt_of {P Q : Nat → Prop} {n m : Nat} (h : ∀ s, P s → Q s) (hm : m < n) (hq : Q m) (hp : ¬ P m) : cntT n P < cntT n Q := by
  have h1 := cntT_drop (S := n) (T := Q) hm hq
  have h2 := cnt_le_of n (P := P) (Q := fun t => Q t ∧ t ≠ m) (fun s hs => ⟨h s hs, by rintro rfl; exact hp hs⟩)
  omega
theorem cntT_succ (n : Nat) (P : Nat → Prop) : cntT (n + 1) P = cntT n P + if P n then 1 else 0 := by
  unfold cntT
  rw [List.range_succ, List.filter_append, List.length_append]
  congr 1
  by_cases h : P n
  · simp [h]
  · simp [h]
theorem cntT_zero (P : Nat → Prop) : cntT 0 P = 0 := rfl

theorem cnt_le_on {P Q : Nat → Prop} : ∀ n, (∀ s, s < n → P s → Q s) → cntT n P ≤ cntT n Q
  | 0, _ => Nat.le_refl _
  | n + 1, h => by
    have ih := cnt_le_on n fun s hs => h s (by omega)
    rw [cntT_succ, cntT_succ]
    by_cases h1 : P n
    · rw [if_pos h1, if_pos (h n (by omega) h1)]; omega
    · rw [if_neg h1]; omega
/-- One pop, while not all edges of a first part are gone. -/
theorem pop_next (hD : ∀ t u, okE V (z t) = true → okE V (z u) = true → D u → bef (z t).2.2 t (z u).2.2 u → D t) (h1 : ∀ t, t < S → okE V (z t) = true → ¬ P t → D t)
    (hk : cntT S (fun t => okE V (z t) = true ∧ ¬ P t) < cntT S fun t => okE V (z t) = true ∧ D t) :
    ∃ m, m < S ∧ okE V (z m) = true ∧ P m ∧ D m ∧ fstG (EG S V z P) = some m ∧ popG (EG S V z P) = EG S V z (fun t => P t ∧ t ≠ m) ∧ (∀ t, t < S → okE V (z t) = true → P t → ¬ bef (z t).2.2 t (z m).2.2 m) ∧
      (∀ t, t < S → okE V (z t) = true → ¬ (P t ∧ t ≠ m) → D t) ∧ cntT S (fun t => okE V (z t) = true ∧ ¬ (P t ∧ t ≠ m)) = cntT S (fun t => okE V (z t) = true ∧ ¬ P t) + 1 := by
  have hex : ∃ t, t < S ∧ okE V (z t) = true ∧ P t ∧ D t := by
    apply Classical.byContradiction
    intro hn
    have : cntT S (fun t => okE V (z t) = true ∧ D t) ≤ cntT S (fun t => okE V (z t) = true ∧ ¬ P t) := by
      exact cnt_le_on S fun t ht h => ⟨h.1, fun hp => hn ⟨t, ht, h.1, hp, h.2⟩⟩
    omega
  obtain ⟨t, ht, hot, hpt, hdt⟩ := hex
  obtain ⟨m, a, b, x, ⟨e0, hm0⟩, hgm, hall⟩ := first_ex (G := EG S V z P) (S := S) (fun s e h => eg_slot h) (cntT S fun s => ∃ e, EG S V z P s = some e) (fun s => ∃ e, EG S V z P s = some e) (Nat.le_refl _) (fun s h => h) ⟨t, _, eg_at ⟨hpt, ht, hot⟩⟩
  obtain ⟨⟨hpm, hms, hom⟩, rfl, rfl, rfl⟩ := eg_some.1 hgm
  have hfirst : ∀ t, t < S → okE V (z t) = true → P t → ¬ bef (z t).2.2 t (z m).2.2 m := by
    intro t ht ho hp hb
    by_cases e : t = m
    · subst e; exact bef_irr _ _ hb
    · obtain ⟨_, _, y, h2, h3⟩ := hall t ⟨_, eg_at ⟨hp, ht, ho⟩⟩ e
      obtain ⟨_, _, _, rfl⟩ := eg_some.1 h2
      exact bef_irr _ _ (bef_trans hb h3)
  have hfst : IsFst (EG S V z P) m := ⟨_, _, _, hgm, fun t c d y h hb => by
    obtain ⟨⟨h2, h3, h4⟩, _, _, rfl⟩ := eg_some.1 h
    exact hfirst t h3 h4 h2 hb⟩
  have hdm : D m := by
    by_cases e : m = t
    · subst e; exact hdt
    · have hnb := hfirst t ht hot hpt
      exact hD m t hom hot hdt (bef_tri (fun h => e h.symm) hnb)
  have hfG := fstG_eq hfst
  refine ⟨m, hms, hom, hpm, hdm, hfG, ?_, hfirst, fun t ht ho hn => ?_, ?_⟩
  · unfold popG; rw [hfG]; exact eg_pop m
  · by_cases e : t = m
    · subst e; exact hdm
    · exact h1 t ht ho fun hp => hn ⟨hp, e⟩
  · have := cntT_one (S := S) (T := fun t => okE V (z t) = true ∧ ¬ (P t ∧ t ≠ m)) (T' := fun t => okE V (z t) = true ∧ ¬ P t) (m := m) hms ⟨hom, fun h => h.2 rfl⟩ (fun h => h.2 hpm) (fun x hx => by simp [hx])
    omega
/-- All edges of the first part are gone, and no others. -/
theorem pop_done (h1 : ∀ t, t < S → okE V (z t) = true → ¬ P t → D t) (hk : cntT S (fun t => okE V (z t) = true ∧ ¬ P t) = cntT S fun t => okE V (z t) = true ∧ D t) : EG S V z P = EG S V z fun t => ¬ D t := by
  have key : ∀ t, t < S → okE V (z t) = true → (P t ↔ ¬ D t) := by
    intro t ht ho
    constructor
    · intro hp hd
      have : cntT S (fun t => okE V (z t) = true ∧ (¬ P t ∧ t < S)) < cntT S (fun t => okE V (z t) = true ∧ D t) := cnt_lt_of (fun s hs => ⟨hs.1, h1 s hs.2.2 hs.1 hs.2.1⟩) ht ⟨ho, hd⟩ (fun h => h.2.1 hp)
      have e : cntT S (fun t => okE V (z t) = true ∧ (¬ P t ∧ t < S)) = cntT S (fun t => okE V (z t) = true ∧ ¬ P t) := by
        unfold cntT
        congr 1
        exact List.filter_congr fun t ht => by simp [List.mem_range.1 ht]
      omega
    · intro hd
      exact Classical.byContradiction fun hp => hd (h1 t ht ho hp)
  funext t
  unfold EG
  by_cases h : t < S ∧ okE V (z t) = true
  · simp only [h, and_true, key t h.1 h.2]
  · rw [if_neg (fun e => h e.2), if_neg (fun e => h e.2)]

/-- What the law's 'late' reaches. -/
noncomputable def lateB (S V : Nat) (z : Nat → Int × Int × Int) (i k : Nat) : Bool := okE V (z k) && (decide (bef (z i).2.2 i (z k).2.2 k) && treeG (EG S V z fun _ => True) k)
theorem late_ok {i : Nat} (_hi : i < S) (h : lateB S V z i k = true) : okE V (z k) = true := by
  unfold lateB at h; simp only [Bool.and_eq_true] at h; exact h.1
theorem late_tree {i : Nat} (hi : i < S) (ho : okE V (z i) = true) : rch V S z (lateB S V z i) (zA z i) (zB z i) = !treeG (EG S V z fun _ => True) i := by
  have hin := okE_in ho
  have hgi := eg_at (P := fun _ => True) (S := S) (V := V) (z := z) (t := i) ⟨trivial, hi, ho⟩
  have hS : ∀ s e, EG S V z (fun _ => True) s = some e → s < S := fun s e h => eg_slot h
  have h1 := rd_cx (use := lateB S V z i) (A := zA z) (B := zB z) (len := S) (n := V) (G := EG S V z fun _ => True) (U := fun t => isTree (EG S V z fun _ => True) t ∧ Aft (EG S V z fun _ => True) i (z i).2.2 t) (p := zA z i) hin.2.2.1
    (fun t ht hu => by have := okE_in (late_ok hi hu); exact ⟨this.2.2.1, this.2.2.2.1⟩)
    (fun t ht hu => by
      have ho' := late_ok hi hu
      have hgt := eg_at (P := fun _ => True) (S := S) (V := V) (z := z) (t := t) ⟨trivial, ht, ho'⟩
      unfold lateB at hu
      simp only [Bool.and_eq_true, decide_eq_true_eq] at hu
      have ht' : isTree (EG S V z fun _ => True) t := by
        have := of_decide_eq_true hu.2.2
        rw [Int.toNat_natCast] at this; exact this.2
      exact ⟨⟨ht', _, _, _, hgt, hu.2.1⟩, _, hgt⟩)
    (fun t a b x hu hg => by
      obtain ⟨⟨_, h3, h4⟩, rfl, rfl, rfl⟩ := eg_some.1 hg
      refine ⟨h3, ?_, rfl, rfl⟩
      obtain ⟨hT, _, _, y, h5, h6⟩ := hu
      obtain ⟨_, _, _, rfl⟩ := eg_some.1 h5
      unfold lateB treeG
      rw [h4, decide_eq_true h6, Int.toNat_natCast, decide_eq_true ⟨by omega, hT⟩]; rfl) (zB z i)
  have h2 : Cx (EG S V z fun _ => True) (fun t => isTree (EG S V z fun _ => True) t ∧ Aft (EG S V z fun _ => True) i (z i).2.2 t) (zA z i) (zB z i) ↔ Cx (EG S V z fun _ => True) (Aft (EG S V z fun _ => True) i (z i).2.2) (zA z i) (zB z i) :=
    ⟨fun h => h.mono fun _ _ h _ => h.2, fun h => (kru hS (upw_aft _ i _) h).mono fun _ _ h _ => ⟨h.2, h.1⟩⟩
  have h3 : isTree (EG S V z fun _ => True) i ↔ ¬ Cx (EG S V z fun _ => True) (Aft (EG S V z fun _ => True) i (z i).2.2) (zA z i) (zB z i) := by
    constructor
    · rintro ⟨a, b, x, h, hn⟩
      rw [hgi] at h; simp only [Option.some.injEq, Prod.mk.injEq] at h
      obtain ⟨rfl, rfl, rfl⟩ := h
      exact hn
    · intro hn; exact ⟨_, _, _, hgi, hn⟩
  have h4 : treeG (EG S V z fun _ => True) i = true ↔ isTree (EG S V z fun _ => True) i := by
    unfold treeG; rw [Int.toNat_natCast, decide_eq_true_iff]; exact ⟨fun h => h.2, fun h => ⟨by omega, h⟩⟩
  unfold rch
  cases hr : rdR (lateB S V z i) (zA z) (zB z) S V (updT (fun _ => false) (zA z i) true) (zB z i) with
  | true =>
    have := h2.1 (h1.1 hr)
    cases ht : treeG (EG S V z fun _ => True) i with
    | false => rfl
    | true => exact absurd this (h3.1 (h4.1 ht))
  | false =>
    cases ht : treeG (EG S V z fun _ => True) i with
    | true => rfl
    | false =>
      exfalso
      have hnt : ¬ isTree (EG S V z fun _ => True) i := fun h => by rw [h4.2 h] at ht; cases ht
      have hc := Classical.byContradiction fun hc => hnt (h3.2 hc)
      have := h1.2 (h2.2 hc)
      rw [hr] at this; cases this
end
end Go.Proofs.YthkkelkgfkehlaaGreat

/- The document's forest: rows of its edges; what some of them reach. -/
namespace Go.Proofs.YthkkelkgfkehlaaGreat
open Go.RowKit Classical
set_option maxRecDepth 10000
set_option maxHeartbeats 1600000

/-- An edge of the document's forest: its slot, its ends, its time. -/
abbrev RE := Nat × Nat × Nat × Int
def reC (e : RE) : List Value := [.int .i64 e.1, .int .i64 e.2.1, .int .i64 e.2.2.1, .int .i64 e.2.2.2]
def rowC (l : List RE) : List Value := l.flatMap reC
theorem rowC_snoc (l : List RE) (e : RE) : rowC (l ++ [e]) = rowC l ++ reC e := by simp [rowC]
theorem rowC_at : ∀ {l : List RE} {i : Nat} (hi : i < l.length) (j : Nat), j < 4 → (rowC l)[i * 4 + j]? = (reC l[i])[j]?
  | e :: l, 0, _, j, hj => by
    show (reC e ++ rowC l)[0 * 4 + j]? = (reC e)[j]?
    rw [List.getElem?_append_left (by simp [reC]; omega)]; congr 1; omega
  | e :: l, i + 1, hi, j, hj => by
    show (reC e ++ rowC l)[(i + 1) * 4 + j]? = _
    rw [List.getElem?_append_right (by simp [reC]; omega)]
    have := rowC_at (l := l) (i := i) (by simpa using hi) j hj
    rw [show (i + 1) * 4 + j - (reC e).length = i * 4 + j by simp [reC]; omega, this]
    simp
def RowE (w : World) (v : Value) (l : List RE) : Prop := w.ownsRow 0 69 4 v l.length (rowC l)
theorem RowE.fr {w w' : World} {v : Value} {l : List RE} {S : List Nat} (h : RowE w v l) (hf : Fr S w w') (hs : ∀ q, v.ownBlock = some q → q ∉ S) : RowE w' v l :=
  ownsRow_same h (fun q hq => hf.keep q (ownsRow_lt h hq) (hs q hq))
theorem RowE.slice {w : World} {v : Value} {l : List RE} (h : RowE w v l) : ∃ a cap, v = .slice a l.length cap := ownsRow_slice h
theorem RowE.at {w : World} {v : Value} {l : List RE} (h : RowE w v l) {i : Nat} (hi : i < l.length) : ∃ b cap, v = .slice (some ⟨b, 0, none⟩) l.length cap ∧ b < w.heap.size ∧
    w.cell? ⟨b, i * 4, none⟩ = some (.int .i64 l[i].1) ∧ w.cell? ⟨b, i * 4 + 1, none⟩ = some (.int .i64 l[i].2.1) ∧ w.cell? ⟨b, i * 4 + 2, none⟩ = some (.int .i64 l[i].2.2.1) ∧ w.cell? ⟨b, i * 4 + 3, none⟩ = some (.int .i64 l[i].2.2.2) := by
  obtain ⟨h1, h2⟩ := h
  rcases h2 with ⟨rfl, h0⟩ | ⟨g, cap, cur, rfl, _, hh, hn, hm, hsz, hxs⟩
  · omega
  · have key : ∀ j, j < 4 → w.cell? ⟨g, i * 4 + j, none⟩ = (reC l[i])[j]? := by
      intro j hj
      rw [← rowC_at hi j hj, ← hxs, List.getElem?_take, if_pos (by omega)]
      simp [World.cell?, hh]
    exact ⟨g, cap, rfl, (Array.getElem?_eq_some_iff.1 hh).1, key 0 (by omega), key 1 (by omega), key 2 (by omega), key 3 (by omega)⟩

/-- The ends are vertices. -/
def REok (n : Nat) (l : List RE) : Prop := ∀ e ∈ l, e.2.1 < n ∧ e.2.2.1 < n
def lA (l : List RE) (i : Nat) : Nat := (l.getD i (0, 0, 0, 0)).2.1
def lB (l : List RE) (i : Nat) : Nat := (l.getD i (0, 0, 0, 0)).2.2.1
noncomputable def rchL (n : Nat) (l : List RE) (p : Nat) : Nat → Bool := rdR (fun _ => true) (lA l) (lB l) l.length n (updT (fun _ => false) p true)

theorem reached_r {w : World} {v : Value} {l : List RE} (h : RowE w v l) (n : Nat) (hn : n ≤ 4096) (hl : l.length ≤ 16384) (hok : REok n l) (p : Nat) (hp : p < n) :
    Calls Tryz.prog 65 #[.int .i64 n, v, .int .i64 p] w fun e w' => ∃ sb, e = .returned (.slice (some ⟨sb, 0, none⟩) n n) ∧ Blk w' sb 4 (bRow n (rchL n l p)) ∧ w.heap.size ≤ sb ∧ Fr [] w w' := by
  obtain ⟨av, cv, rfl⟩ := h.slice
  have hmk := fun w' => run_makeB n w' (by omega)
  have hpn : (p : Int) < n := by omega
  have hb0 := Blk.new w (bRow n fun _ => false) 4
  have q0 := hb0.cell p
  have q1 := hb0.frozen p
  rw [bRow_at _ hp] at q0
  have hb1 : Blk (w.alloc (.cells ((bRow n fun _ => false).set p (.bool true)).toArray 4)) w.heap.size 4 (bRow n (updT (fun _ => false) p true)) := Eq.mp (congrArg (Blk _ _ _) (bRow_set (fun _ => false) p true)) (Blk.new w ((bRow n fun _ => false).set p (.bool true)) 4)
  have HU := Lib.hid h
  have HB1 := Lib.hid hb1
  clear hb0 hb1 h
  go_enter Tryz.func65, Tryz.ntmps65
  go_wp2_with fail
  clear hmk q0 q1
  have hf1 : Fr [] w (w.alloc (.cells ((bRow n fun _ => false).set p (.bool true)).toArray 4)) := (Fr.refl _ _).alloc _
  have H1 := Lib.hid (And.intro HB1.out hf1)
  clear hf1 HB1
  generalize w.alloc (.cells ((bRow n fun _ => false).set p (.bool true)).toArray 4) = w1 at *
  go_loopw [8] (fun x wr => ∃ r : Nat, r ≤ n ∧ x = .int .i64 r ∧ Hid (Blk wr w.heap.size 4 (bRow n (rdR (fun _ => true) (lA l) (lB l) l.length r (updT (fun _ => false) p true))) ∧ Fr [] w wr)) (fun x _ => n - (intOf x).toNat)
  case atStart => exact ⟨0, Nat.zero_le _, rfl, H1⟩
  case round =>
    clear H1
    obtain ⟨r, hr, rfl, HR⟩ := hrel
    by_cases hlt : r < n
    · have hlt' : (r : Int) < n := by omega
      have hw1 : IntKind.i64.wrap ((r : Int) + 1) = ((r + 1 : Nat) : Int) := by rw [show (r : Int) + 1 = ((r + 1 : Nat) : Int) by omega]; exact IntWalk.i64_in _ (by omega)
      have HE := Lib.hid (show rdR (fun _ => true) (lA l) (lB l) l.length (r + 1) (updT (fun _ => false) p true) = rdF (fun _ => true) (lA l) (lB l) l.length (rdR (fun _ => true) (lA l) (lB l) l.length r (updT (fun _ => false) p true)) from rfl)
      generalize rdR (fun _ => true) (lA l) (lB l) l.length r (updT (fun _ => false) p true) = f at *
      go_wp2_with fail
      go_loopw [9] (fun x wr => ∃ k : Nat, k ≤ l.length ∧ x = .int .i64 k ∧ Hid (Blk wr w.heap.size 4 (bRow n (rdF (fun _ => true) (lA l) (lB l) k f)) ∧ Fr [] w wr)) (fun x _ => l.length - (intOf x).toNat)
      case atStart => exact ⟨0, Nat.zero_le _, rfl, HR⟩
      case round =>
        clear HR
        obtain ⟨k, hk, rfl, HR⟩ := hrel
        by_cases hlt : k < l.length
        · have hlt' : (k : Int) < l.length := by omega
          have hw2 : IntKind.i64.wrap ((k : Int) + 1) = ((k + 1 : Nat) : Int) := by rw [show (k : Int) + 1 = ((k + 1 : Nat) : Int) by omega]; exact IntWalk.i64_in _ (by omega)
          have hEF : rdF (fun _ => true) (lA l) (lB l) (k + 1) f = if true && (rdF (fun _ => true) (lA l) (lB l) k f (lA l k) || rdF (fun _ => true) (lA l) (lB l) k f (lB l k)) then updT (updT (rdF (fun _ => true) (lA l) (lB l) k f) (lA l k) true) (lB l k) true else rdF (fun _ => true) (lA l) (lB l) k f := rfl
          have HEF := Lib.hid hEF; clear hEF
          generalize hfe : rdF (fun _ => true) (lA l) (lB l) (k + 1) f = f'' at *
          have HFE := Lib.hid hfe; clear hfe
          generalize rdF (fun _ => true) (lA l) (lB l) k f = f' at *
          obtain ⟨b, cap, ev, hb, _, q0, q1, _⟩ := (HU.out.fr HR.out.2 (by simp)).at hlt
          simp only [Value.slice.injEq, true_and] at ev
          obtain ⟨rfl, rfl⟩ := ev
          have hbw : b < w.heap.size := ownsRow_lt HU.out rfl
          have hab := hok l[k] (List.getElem_mem hlt)
          have eA : l[k].2.1 = lA l k := by simp [lA, hlt]
          have eB : l[k].2.2.1 = lB l k := by simp [lB, hlt]
          rw [eA, eB] at hab
          rw [eA] at q0
          rw [eB] at q1
          obtain ⟨hA, hB⟩ := hab
          clear eA eB
          have t0 := HR.out.1.cell (lA l k)
          have t1 := HR.out.1.cell (lB l k)
          have t2 := HR.out.1.frozen (lA l k)
          have t3 := HR.out.1.frozen (lB l k)
          rw [bRow_at _ hA] at t0
          rw [bRow_at _ hB] at t1
          have hset := (HR.out.1.set (lA l k) (.bool true))
          have s3 := hset.frozen (lB l k)
          have s0 := hset.cell (lB l k)
          rw [bRow_set] at hset s0
          rw [bRow_at _ hB] at s0
          have hset2 := hset.set (lB l k) (.bool true)
          rw [bRow_set] at hset2
          have hf2 : Fr [] w ((wr.setCell ⟨w.heap.size, lA l k, none⟩ (.bool true)).setCell ⟨w.heap.size, lB l k, none⟩ (.bool true)) := (HR.out.2.setCell _ _ (.inr (Nat.le_refl _))).setCell _ _ (.inr (Nat.le_refl _))
          have p0 : (wr.setCell ⟨w.heap.size, lA l k, none⟩ (.bool true)).cell? ⟨b, k * 4 + 2, none⟩ = some (.int .i64 (lB l k)) := by
            exact ((Fr.refl [w.heap.size] wr).setCell ⟨w.heap.size, lA l k, none⟩ (.bool true) (.inl (by simp))).cell q1 (by simp; omega)
          have HS := Lib.hid (And.intro hset2 hf2)
          clear hset hset2 hf2
          have hA' : ((lA l k : Nat) : Int) < n := by omega
          have hB' : ((lB l k : Nat) : Int) < n := by omega
          generalize lA l k = za at *
          generalize lB l k = zb at *
          cases hfa : f' za with
          | true =>
            rw [hfa] at t0
            have HF := Lib.hid (show f'' = updT (updT f' za true) zb true by rw [HEF.out, hfa]; rfl)
            clear hfa
            go_wp2_with fail
            go_roundw
            case rel => exact ⟨k + 1, by omega, rfl, Lib.hid (by rw [HFE.out, HF.out]; exact HS.out)⟩
            case measure => simp [intOf]; omega
          | false =>
            rw [hfa] at t0
            cases hfb : f' zb with
            | true =>
              rw [hfb] at t1
              have HF := Lib.hid (show f'' = updT (updT f' za true) zb true by rw [HEF.out, hfa, hfb]; rfl)
              clear hfa hfb
              go_wp2_with fail
              go_roundw
              case rel => exact ⟨k + 1, by omega, rfl, Lib.hid (by rw [HFE.out, HF.out]; exact HS.out)⟩
              case measure => simp [intOf]; omega
            | false =>
              rw [hfb] at t1
              have HF := Lib.hid (show f'' = f' by rw [HEF.out, hfa, hfb]; rfl)
              clear hfa hfb
              go_wp2_with fail
              go_roundw
              case rel => exact ⟨k + 1, by omega, rfl, Lib.hid (by rw [HFE.out, HF.out]; exact HR.out)⟩
              case measure => simp [intOf]; omega
        · obtain rfl : k = l.length := by omega
          go_wp2_with fail
          go_roundw
          case rel => exact ⟨r + 1, by omega, rfl, Lib.hid (by rw [HE.out]; exact HR.out)⟩
          case measure => simp [intOf]; omega
    · obtain rfl : r = n := by omega
      go_wp2_with fail
      go_ret
      exact ⟨w.heap.size, rfl, HR.out.1, Nat.le_refl _, HR.out.2⟩
end Go.Proofs.YthkkelkgfkehlaaGreat

/- The document's forest: its state; has, Len, Connected, Size. -/
namespace Go.Proofs.YthkkelkgfkehlaaGreat
open Go.RowKit Classical
set_option maxRecDepth 10000
set_option maxHeartbeats 1600000

structure RA (w : World) (pr V S : Nat) (v : Value) (l : List RE) : Prop where
  hd : Blk w pr 62 [.bool true, .int .i64 V, .int .i64 S, v]
  row : RowE w v l
  ne : v.ownBlock ≠ some pr
  ok : REok V l
  leV : V ≤ 4096
  leS : S ≤ 16384
  len : l.length ≤ S

/-- A list of edges says what a map of edges says. -/
structure Reps (G : EMap) (l : List RE) : Prop where
  iff : ∀ s a b x, G s = some (a, b, x) ↔ (s, a, b, x) ∈ l
  one : (l.map fun e => e.1).Nodup
def GL (l : List RE) : EMap := fun i => (l[i]?).map fun e => (e.2.1, e.2.2.1, e.2.2.2)
theorem cx_sub {G : EMap} {l : List RE} (U : Nat → Prop) (h : ∀ s a b x, G s = some (a, b, x) ∧ U s ↔ (s, a, b, x) ∈ l) {p q : Nat} : Cx (GL l) (fun _ => True) p q ↔ Cx G U p q := by
  constructor
  · intro hc
    refine hc.bind fun i c d x _ hg => ?_
    unfold GL at hg
    cases hi : l[i]? with
    | none => rw [hi] at hg; cases hg
    | some e =>
      rw [hi] at hg
      obtain ⟨s, a, b, y⟩ := e
      simp only [Option.map_some, Option.some.injEq, Prod.mk.injEq] at hg
      obtain ⟨rfl, rfl, rfl⟩ := hg
      have := (h s a b y).2 (List.mem_of_getElem? hi)
      exact Cx.edge this.2 this.1
  · intro hc
    refine hc.bind fun s c d x hu hg => ?_
    obtain ⟨i, hi, he⟩ := List.mem_iff_getElem.1 ((h s c d x).1 ⟨hg, hu⟩)
    exact Cx.edge (s := i) trivial (by unfold GL; rw [List.getElem?_eq_getElem hi, he]; rfl)
theorem cx_GL {G : EMap} {l : List RE} (h : Reps G l) {p q : Nat} : Cx (GL l) (fun _ => True) p q ↔ Cx G (fun _ => True) p q :=
  cx_sub (fun _ => True) fun s a b x => by rw [h.iff]; simp
theorem rchL_iff {n : Nat} {l : List RE} (hok : REok n l) {p : Nat} (hp : p < n) (q : Nat) : rchL n l p q = true ↔ Cx (GL l) (fun _ => True) p q := by
  refine rd_cx hp (fun t ht _ => ?_) (fun t ht _ => ⟨trivial, ?_⟩) (fun t a b x _ hg => ?_) q
  · have := hok l[t] (List.getElem_mem ht)
    simpa [lA, lB, ht] using this
  · exact ⟨l[t].2.2.2, by simp [GL, lA, lB, ht]⟩
  · unfold GL at hg
    by_cases ht : t < l.length
    · rw [List.getElem?_eq_getElem ht] at hg
      simp only [Option.map_some, Option.some.injEq, Prod.mk.injEq] at hg
      exact ⟨ht, rfl, by simp [lA, ht, hg.1], by simp [lB, ht, hg.2.1]⟩
    · rw [List.getElem?_eq_none (by omega)] at hg; cases hg

noncomputable def connL (n : Nat) (l : List RE) (a b : Int) : Bool := inV n a && inV n b && rchL n l a.toNat b.toNat
noncomputable def sizeL (n : Nat) (l : List RE) (a : Int) : Nat := if inV n a then cntT n (fun u => rchL n l a.toNat u = true) else 0
theorem connL_eq {n : Nat} {G : EMap} {l : List RE} (hok : REok n l) (h : Reps G l) (a b : Int) : connL n l a b = connG n G a b := by
  unfold connL connG
  cases ha : inV n a with
  | false => rfl
  | true =>
    obtain ⟨a, rfl, ha'⟩ := inV_nat ha
    congr 1
    rw [Int.toNat_natCast]
    exact Bool.eq_iff_iff.2 (((rchL_iff hok ha' _).trans (cx_GL h)).trans decide_eq_true_iff.symm)
theorem sizeL_eq {n : Nat} {G : EMap} {l : List RE} (hok : REok n l) (h : Reps G l) (a : Int) : (sizeL n l a : Int) = sizeG n G a := by
  unfold sizeL sizeG
  cases ha : inV n a with
  | false => rfl
  | true =>
    obtain ⟨a, rfl, ha'⟩ := inV_nat ha
    rw [if_pos rfl, if_pos rfl]
    unfold cxs
    congr 1
    exact cntT_congr fun u => by rw [Int.toNat_natCast]; exact (rchL_iff hok ha' _).trans (cx_GL h)

section
variable {w w' : World} {pr V S : Nat} {v : Value} {l : List RE}
theorem RA.fr {X : List Nat} (h : RA w pr V S v l) (hf : Fr X w w') (h1 : pr ∉ X) (h2 : ∀ q, v.ownBlock = some q → q ∉ X) : RA w' pr V S v l :=
  ⟨hf.blk h.hd h1, h.row.fr hf h2, h.ne, h.ok, h.leV, h.leS, h.len⟩
theorem RA.fr0 (h : RA w pr V S v l) (hf : Fr [] w w') : RA w' pr V S v l := h.fr hf (by simp) (by simp)
theorem rvalid (h : RA w pr V S v l) : Calls Tryz.prog 30 #[fptr pr] w fun e w' => e = .returned (.bool true) ∧ w' = w := by
  have c0 := h.hd.cell 0
  simp only [List.getElem?_cons_zero] at c0
  clear h
  go_enter Tryz.func30, Tryz.ntmps30
  go_wp2
  go_ret
  exact ⟨rfl, rfl⟩
theorem rhas (h : RA w pr V S v l) (a : Int) : Calls Tryz.prog 31 #[fptr pr, .int .i64 a] w fun e w' => e = .returned (.bool (inV V a)) ∧ w' = w := by
  have c1 := h.hd.cell 1
  simp only [List.getElem?_cons_zero, List.getElem?_cons_succ] at c1
  have hV := Lib.hid (rvalid h)
  clear h
  by_cases h1 : 0 ≤ a
  · by_cases h2 : a < V
    · have e : inV V a = true := by simp [inV, h1, h2]
      rw [e]; clear e
      go_enter Tryz.func31, Tryz.ntmps31
      go_wp2_with fail
      refine hV.out.mono ?_
      rintro _ w1 ⟨rfl, rfl⟩
      go_wp2
      go_ret
      exact ⟨rfl, rfl⟩
    · have e : inV V a = false := by simp [inV, h2]
      rw [e]; clear e
      have t2 : decide (a < V) = false := decide_eq_false h2
      go_enter Tryz.func31, Tryz.ntmps31
      go_wp2_with fail
      refine hV.out.mono ?_
      rintro _ w1 ⟨rfl, rfl⟩
      go_wp2
      go_ret
      exact ⟨rfl, rfl⟩
  · have e : inV V a = false := by simp [inV, h1]
    rw [e]; clear e
    go_enter Tryz.func31, Tryz.ntmps31
    go_wp2_with fail
    refine hV.out.mono ?_
    rintro _ w1 ⟨rfl, rfl⟩
    go_wp2
    go_ret
    exact ⟨rfl, rfl⟩
theorem rlen (h : RA w pr V S v l) : Calls Tryz.prog 43 #[fptr pr] w fun e w' => e = .returned (.int .i64 l.length) ∧ Fr [] w w' := by
  have c3 := h.hd.cell 3
  simp only [List.getElem?_cons_zero, List.getElem?_cons_succ] at c3
  have hV := Lib.hid (rvalid h)
  obtain ⟨av, cv, rfl⟩ := h.row.slice
  clear h
  go_enter Tryz.func43, Tryz.ntmps43
  go_wp2_with fail
  refine hV.out.mono ?_
  rintro _ w1 ⟨rfl, rfl⟩
  go_wp2
  go_ret
  exact ⟨rfl, Fr.refl _ _⟩
theorem rconn (h : RA w pr V S v l) (a b : Int) : Calls Tryz.prog 39 #[fptr pr, .int .i64 a, .int .i64 b] w fun e w' => e = .returned (.bool (connL V l a b)) ∧ Fr [] w w' := by
  have c1 := h.hd.cell 1
  have c3 := h.hd.cell 3
  simp only [List.getElem?_cons_zero, List.getElem?_cons_succ] at c1 c3
  have HA := rhas h a
  have HB := rhas h b
  have hS := h.leS
  have hV := h.leV
  have H := Lib.hid h
  cases ha : inV V a with
  | false =>
    have e : connL V l a b = false := by simp [connL, ha]
    rw [e]
    rw [ha] at HA
    have HA := Lib.hid HA
    clear h e HB
    go_enter Tryz.func39, Tryz.ntmps39
    go_wp2_with fail
    refine HA.out.mono ?_
    rintro _ w1 ⟨rfl, rfl⟩
    go_wp2
    go_ret
    exact ⟨rfl, Fr.refl _ _⟩
  | true =>
    rw [ha] at HA
    cases hb : inV V b with
    | false =>
      have e : connL V l a b = false := by simp [connL, hb]
      rw [e]
      rw [hb] at HB
      have HA := Lib.hid HA
      have HB := Lib.hid HB
      clear h e
      go_enter Tryz.func39, Tryz.ntmps39
      go_wp2_with fail
      refine HA.out.mono ?_
      rintro _ w1 ⟨rfl, rfl⟩
      go_wp2_with fail
      refine HB.out.mono ?_
      rintro _ w1 ⟨rfl, rfl⟩
      go_wp2
      go_ret
      exact ⟨rfl, Fr.refl _ _⟩
    | true =>
      rw [hb] at HB
      have HA := Lib.hid HA
      have HB := Lib.hid HB
      obtain ⟨a, rfl, ha'⟩ := inV_nat ha
      obtain ⟨b, rfl, hb'⟩ := inV_nat hb
      have e : connL V l a b = rchL V l a b := by simp [connL, ha, hb]
      rw [e]
      have hbn : (b : Int) < V := by omega
      have HRr := Lib.hid (fun (w' : World) (hf : Fr [] w w') => reached_r (h.fr0 hf).row V h.leV (Nat.le_trans h.len h.leS) h.ok a ha')
      obtain ⟨r, hr⟩ : ∃ r, r = rchL V l a b := ⟨_, rfl⟩
      rw [← hr]
      have HE := Lib.hid hr
      clear h e hr
      go_enter Tryz.func39, Tryz.ntmps39
      go_wp2_with fail
      refine HA.out.mono ?_
      rintro _ w ⟨rfl, rfl⟩
      go_wp2_with fail
      refine HB.out.mono ?_
      rintro _ w ⟨rfl, rfl⟩
      have HQ := Lib.hid (HRr.out w.drew ((Fr.refl [] w).drew))
      clear HRr
      go_wp2_with fail
      go_region_held3 (fun w' => w'.cell? ⟨pr, 1, none⟩ = some (.int .i64 V) ∧ w'.cell? ⟨pr, 3, none⟩ = some v)
        (first
          | go_keep
          | exact ⟨hF4.cell (by simp_all) (by simp), hF4.cell (by simp_all) (by simp)⟩)
        (first
          | (go_at_call 65; refine HQ.out.mono ?_; rintro e w4 ⟨sb, rfl, hB4, hs4, hF4⟩))
      have q0 := hB4.cell b
      rw [bRow_at _ hb', ← HE.out] at q0
      have H4 := Lib.hid (((Fr.refl [] w).drew).trans' hF4)
      clear hB4 hs4 hF4 HQ
      go_wp2_with fail
      go_ret
      exact ⟨rfl, H4.out⟩
theorem rsize (h : RA w pr V S v l) (a : Int) : Calls Tryz.prog 40 #[fptr pr, .int .i64 a] w fun e w' => e = .returned (.int .i64 (sizeL V l a : Nat)) ∧ Fr [] w w' := by
  have c1 := h.hd.cell 1
  have c3 := h.hd.cell 3
  simp only [List.getElem?_cons_zero, List.getElem?_cons_succ] at c1 c3
  have HA := rhas h a
  have hS := h.leS
  have hV := h.leV
  cases ha : inV V a with
  | false =>
    have e : sizeL V l a = 0 := by simp [sizeL, ha]
    rw [e]
    rw [ha] at HA
    have HA := Lib.hid HA
    clear h e
    go_enter Tryz.func40, Tryz.ntmps40
    go_wp2_with fail
    refine HA.out.mono ?_
    rintro _ w1 ⟨rfl, rfl⟩
    go_wp2
    go_ret
    exact ⟨rfl, Fr.refl _ _⟩
  | true =>
    rw [ha] at HA
    have HA := Lib.hid HA
    obtain ⟨a, rfl, ha'⟩ := inV_nat ha
    have e : sizeL V l a = cntT V fun u => rchL V l a u = true := by simp [sizeL, ha]
    rw [e]
    have HRr := Lib.hid (fun (w' : World) (hf : Fr [] w w') => reached_r (h.fr0 hf).row V h.leV (Nat.le_trans h.len h.leS) h.ok a ha')
    clear h e
    generalize rchL V l a = f at *
    go_enter Tryz.func40, Tryz.ntmps40
    go_wp2_with fail
    refine HA.out.mono ?_
    rintro _ w ⟨rfl, rfl⟩
    have HQ := Lib.hid (HRr.out w.drew ((Fr.refl [] w).drew))
    clear HRr
    go_wp2_with fail
    go_region_held3 (fun w' => w'.cell? ⟨pr, 1, none⟩ = some (.int .i64 V) ∧ w'.cell? ⟨pr, 3, none⟩ = some v)
      (first
        | go_keep
        | exact ⟨hF4.cell (by simp_all) (by simp), hF4.cell (by simp_all) (by simp)⟩)
      (first
        | (go_at_call 65; refine HQ.out.mono ?_; rintro e w4 ⟨sb, rfl, hB4, hs4, hF4⟩))
    have H4 := Lib.hid (And.intro hB4 (((Fr.refl [] w).drew).trans' hF4))
    clear hB4 hs4 hF4 HQ
    go_wp2_with fail
    go_loopw [5, 7] (fun x y wr => ∃ u : Nat, u ≤ V ∧ y = .int .i64 u ∧ x = .int .i64 (cntT u fun u => f u = true : Nat) ∧ wr = w4) (fun _ y _ => V - (intOf y).toNat)
    case atStart => exact ⟨0, Nat.zero_le _, rfl, rfl, rfl⟩
    case round =>
      obtain ⟨u, hu, rfl, rfl, rfl⟩ := hrel
      by_cases hlt : u < V
      · have hlt' : (u : Int) < V := by omega
        have hw2 : IntKind.i64.wrap ((u : Int) + 1) = ((u + 1 : Nat) : Int) := by rw [show (u : Int) + 1 = ((u + 1 : Nat) : Int) by omega]; exact IntWalk.i64_in _ (by omega)
        have c1 := cntT_succ u fun u => f u = true
        have b1 := cntT_le u fun u => f u = true
        have q2 := H4.out.1.cell u
        rw [bRow_at _ hlt] at q2
        have C1 := Lib.hid c1
        clear c1
        generalize (cntT u fun u => f u = true) = e1 at *
        have hw3 : IntKind.i64.wrap ((e1 : Int) + 1) = ((e1 + 1 : Nat) : Int) := by rw [show (e1 : Int) + 1 = ((e1 + 1 : Nat) : Int) by omega]; exact IntWalk.i64_in _ (by omega)
        cases hfu : f u with
        | true =>
          rw [hfu] at q2
          have D1 := C1.out; rw [if_pos hfu] at D1
          have HD := Lib.hid D1; clear D1 hfu
          go_wp2_with fail
          go_roundw
          case rel => exact ⟨u + 1, by omega, rfl, by rw [HD.out]; rfl, trivial⟩
          case measure => simp [intOf]; omega
        | false =>
          rw [hfu] at q2
          have D1 := C1.out; rw [if_neg (by simp [hfu])] at D1
          have HD := Lib.hid D1; clear D1 hfu
          go_wp2_with fail
          go_roundw
          case rel => exact ⟨u + 1, by omega, rfl, by rw [HD.out]; rfl, trivial⟩
          case measure => simp [intOf]; omega
      · obtain rfl : u = V := by omega
        go_wp2_with fail
        go_ret
        exact ⟨rfl, H4.out.2⟩
/-- No smaller vertex is reached. -/
noncomputable def leastB (f : Nat → Bool) (u : Nat) : Bool := decide (∀ q, q < u → f q = false)
theorem leastB_succ (f : Nat → Bool) (u : Nat) : leastB f (u + 1) = (leastB f u && !f u) := by
  unfold leastB
  cases hf : f u with
  | true =>
    rw [decide_eq_false (fun h => by have := h u (by omega); rw [hf] at this; cases this)]; simp
  | false =>
    simp only [Bool.not_false, Bool.and_true]
    refine decide_eq_decide.2 ⟨fun h q hq => h q (by omega), fun h q hq => ?_⟩
    by_cases e : q = u
    · rw [e]; exact hf
    · exact h q (by omega)
noncomputable def compL (n : Nat) (l : List RE) : Nat := cntT n fun v => leastB (rchL n l v) v = true
theorem compL_eq {n : Nat} {G : EMap} {l : List RE} (hok : REok n l) (h : Reps G l) : compL n l = compG n G := by
  unfold compL compG
  refine Nat.le_antisymm (cnt_le_on n fun v hv hl => ?_) (cnt_le_on n fun v hv hl => ?_)
  · intro u hu hc
    have := of_decide_eq_true hl u hu
    rw [(rchL_iff hok hv u).2 ((cx_GL h).2 hc)] at this; cases this
  · refine decide_eq_true fun u hu => ?_
    cases hc : rchL n l v u with
    | false => rfl
    | true => exact absurd ((cx_GL h).1 ((rchL_iff hok hv u).1 hc)) (hl u hu)
theorem rcount (h : RA w pr V S v l) : Calls Tryz.prog 41 #[fptr pr] w fun e w' => e = .returned (.int .i64 (compL V l : Nat)) ∧ Fr [] w w' := by
  have hv := Lib.hid (rvalid h)
  have hV := h.leV
  have HRr := Lib.hid (fun (w' : World) (hf : Fr [] w w') (p : Nat) (hp : p < V) => reached_r (h.fr0 hf).row V h.leV (Nat.le_trans h.len h.leS) h.ok p hp)
  have H := Lib.hid h
  clear h
  unfold compL
  generalize rchL V l = f at *
  go_enter Tryz.func41, Tryz.ntmps41
  go_wp2_with fail
  refine hv.out.mono ?_
  rintro _ w ⟨rfl, rfl⟩
  go_wp2_with fail
  go_loopw [3, 4] (fun x y wr => ∃ p : Nat, p ≤ V ∧ y = .int .i64 p ∧ x = .int .i64 (cntT p fun p => leastB (f p) p = true : Nat) ∧ Hid (Fr [] w wr)) (fun _ y _ => V - (intOf y).toNat)
  case atStart => exact ⟨0, Nat.zero_le _, rfl, rfl, Lib.hid (Fr.refl _ _)⟩
  case round =>
    obtain ⟨p, hp, rfl, rfl, HF⟩ := hrel
    have c1 := (H.out.fr0 HF.out).hd.cell 1
    have c3 := (H.out.fr0 HF.out).hd.cell 3
    simp only [List.getElem?_cons_zero, List.getElem?_cons_succ] at c1 c3
    by_cases hlt : p < V
    · have hlt' : (p : Int) < V := by omega
      have hw1 : IntKind.i64.wrap ((p : Int) + 1) = ((p + 1 : Nat) : Int) := by rw [show (p : Int) + 1 = ((p + 1 : Nat) : Int) by omega]; exact IntWalk.i64_in _ (by omega)
      have HQ := Lib.hid (HRr.out wr.drew (HF.out.drew) p hlt)
      have e1 := cntT_succ p fun p => leastB (f p) p = true
      have b1 := cntT_le p fun p => leastB (f p) p = true
      have C1 := Lib.hid e1
      clear e1
      generalize (cntT p fun p => leastB (f p) p = true) = n1 at *
      have hw3 : IntKind.i64.wrap ((n1 : Int) + 1) = ((n1 + 1 : Nat) : Int) := by rw [show (n1 : Int) + 1 = ((n1 + 1 : Nat) : Int) by omega]; exact IntWalk.i64_in _ (by omega)
      rename World => wo
      go_wp2_with fail
      go_region_held3 (fun w' => w'.cell? ⟨pr, 1, none⟩ = some (.int .i64 V) ∧ w'.cell? ⟨pr, 3, none⟩ = some v)
        (first
          | go_keep
          | exact ⟨hF4.cell (by simp_all) (by simp), hF4.cell (by simp_all) (by simp)⟩)
        (first
          | (go_at_call 65; refine HQ.out.mono ?_; rintro e w4 ⟨sb, rfl, hB4, hs4, hF4⟩))
      have H4 := Lib.hid (And.intro hB4 (HF.out.trans' (((Fr.refl [] wo).drew).trans' hF4)))
      clear hB4 hs4 hF4 HQ c1 c3
      go_wp2_with fail
      go_loopw [6, 7] (fun x y wr => ∃ u : Nat, u ≤ p ∧ y = .int .i64 u ∧ x = .bool (leastB (f p) u) ∧ wr = w4) (fun _ y _ => p - (intOf y).toNat)
      case atStart => exact ⟨0, Nat.zero_le _, rfl, by rw [show leastB (f p) 0 = true from decide_eq_true (fun q hq => absurd hq (Nat.not_lt_zero _))], rfl⟩
      case round =>
        obtain ⟨u, hu, rfl, rfl, rfl⟩ := hrel
        by_cases hlt2 : u < p
        · have hlt2' : (u : Int) < p := by omega
          have huV : (u : Int) < V := by omega
          have hw2 : IntKind.i64.wrap ((u : Int) + 1) = ((u + 1 : Nat) : Int) := by rw [show (u : Int) + 1 = ((u + 1 : Nat) : Int) by omega]; exact IntWalk.i64_in _ (by omega)
          have q2 := H4.out.1.cell u
          rw [bRow_at _ (by omega)] at q2
          have hls := leastB_succ (f p) u
          cases hl1 : leastB (f p) u with
          | true =>
            rw [hl1] at hls
            have HLs := Lib.hid hls; clear hls hl1
            go_wp2_with fail
            go_roundw
            case rel => exact ⟨u + 1, by omega, rfl, by rw [HLs.out]; simp, trivial⟩
            case measure => simp [intOf]; omega
          | false =>
            rw [hl1] at hls
            have HLs := Lib.hid hls; clear hls hl1
            go_wp2_with fail
            go_roundw
            case rel => exact ⟨u + 1, by omega, rfl, by rw [HLs.out]; simp, trivial⟩
            case measure => simp [intOf]; omega
        · obtain rfl : u = p := by omega
          cases hlb : leastB (f u) u with
          | true =>
            have D1 := C1.out; rw [if_pos hlb] at D1
            have HD := Lib.hid D1; clear D1 hlb
            go_wp2_with fail
            go_roundw
            case rel => exact ⟨u + 1, by omega, rfl, by rw [HD.out]; rfl, Lib.hid H4.out.2⟩
            case measure => simp [intOf]; omega
          | false =>
            have D1 := C1.out; rw [if_neg (by simp [hlb])] at D1
            have HD := Lib.hid D1; clear D1 hlb
            go_wp2_with fail
            go_roundw
            case rel => exact ⟨u + 1, by omega, rfl, by rw [HD.out]; rfl, Lib.hid H4.out.2⟩
            case measure => simp [intOf]; omega
    · obtain rfl : p = V := by omega
      go_wp2_with fail
      go_ret
      exact ⟨rfl, HF.out⟩
end
end Go.Proofs.YthkkelkgfkehlaaGreat

/- The document's forest: Before, after, Tree. -/
namespace Go.Proofs.YthkkelkgfkehlaaGreat
open Go.RowKit Classical
set_option maxRecDepth 10000
set_option maxHeartbeats 1600000

noncomputable def befE (e e' : RE) : Bool := decide (bef e.2.2.2 e.1 e'.2.2.2 e'.1)
abbrev aggE (e : RE) : Value := .agg #[.int .i64 e.1, .int .i64 e.2.1, .int .i64 e.2.2.1, .int .i64 e.2.2.2]
theorem rbefore (e e' : RE) (w : World) : Calls Tryz.prog 33 #[aggE e, aggE e'] w fun r w' => r = .returned (.bool (befE e e')) ∧ Fr [] w w' := by
  obtain ⟨s, a, b, x⟩ := e
  obtain ⟨s', a', b', x'⟩ := e'
  have hf : Fr [] w ((w.alloc (.cells #[.int .i64 s, .int .i64 a, .int .i64 b, .int .i64 x] 69)).alloc (.cells #[.int .i64 s', .int .i64 a', .int .i64 b', .int .i64 x'] 69)) := ((Fr.refl _ _).alloc _).alloc _
  have HF := Lib.hid hf; clear hf
  by_cases h1 : x < x'
  · have e : befE (s, a, b, x) (s', a', b', x') = true := decide_eq_true (.inl h1)
    rw [e]; clear e
    go_enter Tryz.func33, Tryz.ntmps33
    go_wp2
    go_ret
    exact ⟨rfl, HF.out⟩
  · by_cases h2 : x = x'
    · subst h2
      by_cases h3 : s < s'
      · have e : befE (s, a, b, x) (s', a', b', x) = true := decide_eq_true (.inr ⟨rfl, h3⟩)
        rw [e]; clear e
        have h3' : (s : Int) < s' := by omega
        go_enter Tryz.func33, Tryz.ntmps33
        go_wp2
        go_ret
        exact ⟨rfl, HF.out⟩
      · have e : befE (s, a, b, x) (s', a', b', x) = false := decide_eq_false (by unfold bef; simp; omega)
        rw [e]; clear e
        have h3' : ¬ (s : Int) < s' := by omega
        go_enter Tryz.func33, Tryz.ntmps33
        go_wp2
        go_ret
        exact ⟨rfl, HF.out⟩
    · have e : befE (s, a, b, x) (s', a', b', x') = false := decide_eq_false (by unfold bef; simp; omega)
      rw [e]; clear e
      have d1 : (x == x') = false := by simp [h2]
      go_enter Tryz.func33, Tryz.ntmps33
      go_wp2
      go_ret
      exact ⟨rfl, HF.out⟩

theorem Tryz.info69 : (Tryz.prog.info? 69).map (fun i => (i.zero, i.size, i.bytes)) = some (some (.agg #[.int .i64 0, .int .i64 0, .int .i64 0, .int .i64 0]), 4, 32) := by kernel_rfl
/-- 'append(l, x)': one edge; x lies in a block of its own. -/
theorem wpList_appE {w : World} {ops : Array Oper} {rest : List Oper} {o : Oper} {a : Act} {Q : Exit → Act → World → Prop} (hgd : o.guard = none) (s x : Operand)
    (ho : o.op = .call { callee := .builtin .append, args := #[s, x], argTypes := #[60, 60] })
    (v : Value) (l : List RE) (hs : a.eval s = v) (hown : RowE w v l)
    (b : Nat) (e : RE) (hx : a.eval x = .slice (some ⟨b, 0, none⟩) 1 1) (hb : Blk w b 69 (reC e)) (hn : l.length + 1 ≤ 4294967296)
    (h : ∀ g cap w', RowE w' (.slice (some ⟨g, 0, none⟩) (l.length + 1) cap) (l ++ [e]) → w.grownBy w' v.ownBlock → (v.ownBlock = some g ∨ w.heap.size ≤ g) →
      wpList Tryz.prog ops Q rest (a.put o.dst (.slice (some ⟨g, 0, none⟩) (l.length + 1) cap)) w') : wpList Tryz.prog ops Q (o :: rest) a w := by
  obtain ⟨i0, hi, hz0, hz1, hz2⟩ := info_parts Tryz.info69
  refine wpList_app hgd s x 60 ho 69 i0 (.agg #[.int .i64 0, .int .i64 0, .int .i64 0, .int .i64 0]) 4 32 Tryz.underlying60 hi hz0 hz1 hz2 rfl (by decide) v l.length (rowC l) hs hown ⟨b, 0, none⟩ 1 1 (reC e) hx rfl ?_ ?_ (by decide) (by unfold maxLen; omega) (by omega) (fun g cap w' h1 h2 h3 => h g cap w' (by unfold RowE; rw [List.length_append, rowC_snoc]; exact h1) h2 h3)
  · intro j y hj
    have := hb.cell j
    rw [hj] at this
    cases j with
    | zero => simpa [Addr.add] using this
    | succ j => simpa [Addr.add] using this
  · intro u hu
    simp [reC] at hu
    rcases hu with rfl | rfl | rfl | rfl <;> rfl

noncomputable def afterL (l : List RE) (e : RE) : List RE := l.filter fun e' => befE e e'
section
variable {w w' : World} {pr V S : Nat} {v : Value} {l : List RE}
theorem rafter (h : RA w pr V S v l) (e : RE) : Calls Tryz.prog 66 #[fptr pr, aggE e] w fun r w' => ∃ u, r = .returned u ∧ RowE w' u (afterL l e) ∧ (∀ q, u.ownBlock = some q → w.heap.size ≤ q) ∧ Fr [] w w' := by
  have hV := h.leV
  have hS := h.leS
  have hl := h.len
  obtain ⟨av, cv, rfl⟩ := h.row.slice
  have H := Lib.hid h
  have hbx := Blk.new w (reC e) 69
  have hf0 : Fr [] w (w.alloc (.cells (reC e).toArray 69)) := (Fr.refl _ _).alloc _
  have HX := Lib.hid (And.intro hbx hf0)
  clear h hbx hf0
  go_enter Tryz.func66, Tryz.ntmps66
  go_wp2_with fail
  have hW1 : w.heap.size < (w.alloc (.cells (reC e).toArray 69)).heap.size := by simp
  have HW1 := Lib.hid hW1; clear hW1
  have e0 : w.alloc (.cells #[.int .i64 e.1, .int .i64 e.2.1, .int .i64 e.2.2.1, .int .i64 e.2.2.2] 69) = w.alloc (.cells (reC e).toArray 69) := rfl
  rw [e0]; clear e0
  generalize w.alloc (.cells (reC e).toArray 69) = w1 at *
  go_loopw [5, 6] (fun u y wr => ∃ k : Nat, k ≤ l.length ∧ y = .int .i64 k ∧ Hid (Fr [] w1 wr ∧ ∀ q, u.ownBlock = some q → w1.heap.size ≤ q) ∧ RowE wr u (afterL (l.take k) e)) (fun _ y _ => l.length - (intOf y).toNat)
  case atStart => exact ⟨0, Nat.zero_le _, rfl, Lib.hid ⟨Fr.refl _ _, fun q e => by cases e⟩, ⟨rfl, .inl ⟨rfl, rfl⟩⟩⟩
  case round =>
    obtain ⟨k, hk, rfl, HK, hown⟩ := hrel
    have hfl : (afterL (l.take k) e).length ≤ (l.take k).length := List.length_filter_le _ _
    have htk := List.length_take_le k l
    have hRA := H.out.fr0 (HX.out.2.trans' HK.out.1)
    have c3 := hRA.hd.cell 3
    simp only [List.getElem?_cons_zero, List.getElem?_cons_succ] at c3
    by_cases hlt : k < l.length
    · have hlt' : (k : Int) < l.length := by omega
      have hw1 : IntKind.i64.wrap ((k : Int) + 1) = ((k + 1 : Nat) : Int) := by rw [show (k : Int) + 1 = ((k + 1 : Nat) : Int) by omega]; exact IntWalk.i64_in _ (by omega)
      obtain ⟨a8, c8, rfl⟩ := hown.slice
      obtain ⟨b, cap, ev, hb, q0, q1, q2, q3⟩ := hRA.row.at hlt
      simp only [Value.slice.injEq, true_and] at ev
      obtain ⟨rfl, rfl⟩ := ev
      have hst : afterL (l.take (k + 1)) e = afterL (l.take k) e ++ if befE e l[k] then [l[k]] else [] := by
        unfold afterL
        rw [List.take_add_one, List.getElem?_eq_getElem hlt, List.filter_append]
        congr 1
        by_cases e' : befE e l[k] = true <;> simp [e']
      have hXb := HK.out.1.blk HX.out.1 (by simp)
      have x0 := hXb.cell 0
      have x1 := hXb.cell 1
      have x2 := hXb.cell 2
      have x3 := hXb.cell 3
      simp only [reC, List.getElem?_cons_zero, List.getElem?_cons_succ] at x0 x1 x2 x3
      obtain ⟨e', he'⟩ : ∃ e', e' = l[k] := ⟨_, rfl⟩
      rw [← he'] at hst q0 q1 q2 q3
      have HBf := Lib.hid (fun (w' : World) => rbefore e e' w')
      have HST := Lib.hid hst
      have HO := Lib.hid hown
      clear hst hown he' hRA
      obtain ⟨bf, hbf⟩ : ∃ bf, bf = befE e e' := ⟨_, rfl⟩
      have HBF := Lib.hid hbf; clear hbf
      go_wp2_with fail
      refine region_cw (fun w' => Fr [] wr w') (by kernel_rfl) (by kernel_rfl) ((Fr.refl [] wr).drew) ?_
      refine cw_val (by kernel_rfl) (aggE e) (fun w' hw' => ?_) ?_
      · have x0 := hw'.cell x0 (by simp)
        have x1 := hw'.cell x1 (by simp)
        have x2 := hw'.cell x2 (by simp)
        have x3 := hw'.cell x3 (by simp)
        go_simp
        first | exact hw' | exact ⟨rfl, hw'⟩ | skip
      iterate 3 (refine cw_pure (by kernel_rfl) (fun KK hK => ?_); go_simp; refine hK.out _ ?_; clear hK KK)
      refine cw_val (by kernel_rfl) (.slice (some ⟨b, 0, none⟩) l.length cv) (fun w' hw' => ?_) ?_
      · have c3 := hw'.cell c3 (by simp)
        go_simp
        first | exact hw' | exact ⟨rfl, hw'⟩ | skip
      iterate 2 (refine cw_pure (by kernel_rfl) (fun KK hK => ?_); go_simp; refine hK.out _ ?_; clear hK KK)
      refine cw_val (by kernel_rfl) (aggE e') (fun w' hw' => ?_) ?_
      · have q0 := hw'.cell q0 (by simp)
        have q1 := hw'.cell q1 (by simp)
        have q2 := hw'.cell q2 (by simp)
        have q3 := hw'.cell q3 (by simp)
        go_simp
        first | exact hw' | exact ⟨rfl, hw'⟩ | skip
      refine cw_val (by kernel_rfl) (.bool bf) (fun w' hw' => ?_) ?_
      · go_simp
        refine (HBf.out w').mono ?_
        rintro _ w6 ⟨rfl, h1⟩
        exact ⟨by rw [HBF.out], hw'.trans' h1⟩
      refine cw_nil ?_
      intro w5 hf5
      have c3 := hf5.cell c3 (by simp)
      have q0 := hf5.cell q0 (by simp)
      have q1 := hf5.cell q1 (by simp)
      have q2 := hf5.cell q2 (by simp)
      have q3 := hf5.cell q3 (by simp)
      have HO5 := Lib.hid (HO.out.fr hf5 (by simp))
      have HF5 := Lib.hid hf5
      have hs5 := hf5.size
      have hs1 := HK.out.1.size
      clear hf5 HO x0 x1 x2 x3
      cases bf with
      | false =>
        have HST' := Lib.hid (show afterL (l.take (k + 1)) e = afterL (l.take k) e by rw [HST.out, ← HBF.out]; simp)
        go_wp2_with fail
        go_roundw
        case rel => exact ⟨k + 1, by omega, rfl, Lib.hid ⟨HK.out.1.trans' HF5.out, HK.out.2⟩, by rw [HST'.out]; exact HO5.out⟩
        case measure => simp [intOf]; omega
      | true =>
        have HST' := Lib.hid (show afterL (l.take (k + 1)) e = afterL (l.take k) e ++ [e'] by rw [HST.out, ← HBF.out]; simp)
        generalize afterL (l.take k) e = us at *
        have hbn := Blk.new w5 (reC e') 69
        have HBn := Lib.hid hbn; clear hbn
        have HO6 := Lib.hid (HO5.out.fr ((Fr.refl [] w5).alloc (.cells (reC e').toArray 69)) (by simp))
        go_wp2_with (first | (at_builtin; refine wpList_appE rfl _ _ rfl (.slice a8 us.length c8) us rfl HO6.out w5.heap.size e' rfl HBn.out (by omega) ?_; intro g' cap' w6 hown6 hgrow6 hg6; have hF6 : Fr (Value.slice a8 us.length c8).ownBlock.toList w5 w6 := ((Fr.refl _ _).alloc _).grown hgrow6 (fun q e => .inl (by simp [e]))) | fail)
        go_roundw
        case rel =>
          have hb : ∀ q ∈ (Value.slice a8 us.length c8).ownBlock.toList, w1.heap.size ≤ q := fun q hq => HK.out.2 q (by simpa using hq)
          refine ⟨k + 1, by omega, rfl, Lib.hid ⟨(HK.out.1.trans' HF5.out).trans hF6 (fun q hq => .inr (hb q hq)), fun q e => ?_⟩, ?_⟩
          · simp only [Value.ownBlock, Option.some.injEq] at e
            subst e
            simp only [World.size_alloc] at hg6
            rcases hg6 with e | e
            · exact HK.out.2 _ e
            · omega
          · rw [HST'.out]; exact hown6
        case measure => simp [intOf]; omega
    · obtain rfl : k = l.length := by omega
      rw [List.take_of_length_le (Nat.le_refl _)] at hown
      obtain ⟨a8, c8, rfl⟩ := hown.slice
      have HO := Lib.hid hown; clear hown
      have hw0 := HX.out.2.size
      go_wp2_with fail
      go_ret
      refine ⟨_, rfl, HO.out, fun q hq => ?_, HX.out.2.trans' HK.out.1⟩
      have := HK.out.2 q hq
      omega
end
end Go.Proofs.YthkkelkgfkehlaaGreat

namespace Go.Proofs.YthkkelkgfkehlaaGreat
open Go.RowKit Classical
set_option maxRecDepth 10000
set_option maxHeartbeats 1600000

noncomputable def treeR (V : Nat) (l : List RE) (s : Int) : Bool := match l.find? fun e => decide ((e.1 : Int) = s) with
  | some e => !rchL V (afterL l e) e.2.1 e.2.2.1
  | none => false
theorem after_ok {n : Nat} {l : List RE} (h : REok n l) (e : RE) : REok n (afterL l e) := fun x hx => h x (List.mem_filter.1 hx).1
theorem treeR_eq {V : Nat} {G : EMap} {l : List RE} (hok : REok V l) (h : Reps G l) (s : Int) : treeR V l s = treeG G s := by
  unfold treeR
  cases hf : l.find? fun e => decide ((e.1 : Int) = s) with
  | none =>
    have hn := List.find?_eq_none.1 hf
    unfold treeG
    refine (decide_eq_false ?_).symm
    rintro ⟨h0, a, b, x, hg, _⟩
    have := hn _ ((h.iff _ _ _ _).1 hg)
    simp at this; omega
  | some e =>
    obtain ⟨t, a, b, x⟩ := e
    have hm := List.mem_of_find?_eq_some hf
    have he := List.find?_some hf
    simp only [decide_eq_true_eq] at he
    subst he
    have hg := (h.iff _ _ _ _).2 hm
    have ho := hok _ hm
    have h1 := rchL_iff (after_ok hok (t, a, b, x)) ho.1 b
    have h2 : Cx (GL (afterL l (t, a, b, x))) (fun _ => True) a b ↔ Cx G (Aft G t x) a b := by
      refine cx_sub (Aft G t x) fun s c d y => ?_
      unfold afterL
      rw [List.mem_filter, ← h.iff]
      refine and_congr_right fun hs => ?_
      unfold befE
      rw [decide_eq_true_iff]
      constructor
      · rintro ⟨_, _, y', e1, e2⟩
        rw [hs] at e1; simp only [Option.some.injEq, Prod.mk.injEq] at e1
        obtain ⟨_, _, rfl⟩ := e1
        exact e2
      · intro e2; exact ⟨c, d, y, hs, e2⟩
    have h3 : treeG G (t : Int) = true ↔ ¬ Cx G (Aft G t x) a b := by
      unfold treeG
      rw [decide_eq_true_iff, Int.toNat_natCast]
      constructor
      · rintro ⟨_, a', b', x', e1, e2⟩
        rw [hg] at e1; simp only [Option.some.injEq, Prod.mk.injEq] at e1
        obtain ⟨rfl, rfl, rfl⟩ := e1
        exact e2
      · intro hn; exact ⟨by omega, a, b, x, hg, hn⟩
    show (!rchL V (afterL l (t, a, b, x)) a b) = treeG G t
    cases hr : rchL V (afterL l (t, a, b, x)) a b with
    | true =>
      have := h2.1 (h1.1 hr)
      cases ht : treeG G (t : Int) with
      | false => rfl
      | true => exact absurd this (h3.1 ht)
    | false =>
      cases ht : treeG G (t : Int) with
      | true => rfl
      | false =>
        have hc : Cx G (Aft G t x) a b := Classical.byContradiction fun hc => by
          rw [h3.2 hc] at ht; cases ht
        rw [h1.2 (h2.2 hc)] at hr; cases hr

section
variable {w w' : World} {pr V S : Nat} {v : Value} {l : List RE}
theorem rtree (h : RA w pr V S v l) (s : Int) : Calls Tryz.prog 44 #[fptr pr, .int .i64 s] w fun e w' => e = .returned (.bool (treeR V l s)) ∧ Fr [] w w' := by
  have hV := h.leV
  have hS := h.leS
  have hl := h.len
  obtain ⟨av, cv, rfl⟩ := h.row.slice
  have H := Lib.hid h
  have Hv := Lib.hid (rvalid h)
  obtain ⟨tr, htr⟩ : ∃ tr, tr = treeR V l s := ⟨_, rfl⟩
  rw [← htr]
  have HTR := Lib.hid htr
  clear h htr
  go_enter Tryz.func44, Tryz.ntmps44
  go_wp2_with fail
  refine Hv.out.mono ?_
  rintro _ w ⟨rfl, rfl⟩
  go_wp2_with fail
  go_loopw [5] (fun y wr => ∃ k : Nat, k ≤ l.length ∧ y = .int .i64 k ∧ Hid (Fr [] w wr) ∧ Hid (∀ e ∈ l.take k, (e.1 : Int) ≠ s)) (fun y _ => l.length - (intOf y).toNat)
  case atStart => exact ⟨0, Nat.zero_le _, rfl, Lib.hid (Fr.refl _ _), Lib.hid (by simp)⟩
  case round =>
    obtain ⟨k, hk, rfl, HF, HN⟩ := hrel
    have hRA := H.out.fr0 HF.out
    have c3 := hRA.hd.cell 3
    have c1 := hRA.hd.cell 1
    simp only [List.getElem?_cons_zero, List.getElem?_cons_succ] at c1 c3
    by_cases hlt : k < l.length
    · have hlt' : (k : Int) < l.length := by omega
      have hw1 : IntKind.i64.wrap ((k : Int) + 1) = ((k + 1 : Nat) : Int) := by rw [show (k : Int) + 1 = ((k + 1 : Nat) : Int) by omega]; exact IntWalk.i64_in _ (by omega)
      obtain ⟨b, cap, ev, hb, q0, q1, q2, q3⟩ := hRA.row.at hlt
      simp only [Value.slice.injEq, true_and] at ev
      obtain ⟨rfl, rfl⟩ := ev
      obtain ⟨e, he⟩ : ∃ e, e = l[k] := ⟨_, rfl⟩
      rw [← he] at q0 q1 q2 q3
      have HRA := Lib.hid hRA; clear hRA
      by_cases hs : (e.1 : Int) = s
      · have hfind : l.find? (fun e => decide ((e.1 : Int) = s)) = some e := by
          rw [List.find?_eq_some_iff_append]
          refine ⟨by simpa using hs, l.take k, l.drop (k + 1), ?_, fun x hx => by simpa using HN.out x hx⟩
          rw [he, List.getElem_cons_drop, List.take_append_drop]
        have ht : treeR V l s = !rchL V (afterL l e) e.2.1 e.2.2.1 := by unfold treeR; rw [hfind]
        have hem : e ∈ l := List.mem_of_find?_eq_some hfind
        have ho := H.out.ok e hem
        have HT := Lib.hid ht
        have HP := Lib.hid (show Calls Tryz.prog 66 #[fptr pr, aggE e] wr.drew (fun r wA => ∃ u, r = .returned u ∧ Fr [] wr wA ∧
            Calls Tryz.prog 65 #[.int .i64 V, u, .int .i64 e.2.1] wA (fun r wB => ∃ sb, r = .returned (.slice (some ⟨sb, 0, none⟩) V V) ∧ Blk wB sb 4 (bRow V (rchL V (afterL l e) e.2.1)) ∧ Fr [] wr wB)) by
          refine (rafter (HRA.out.fr0 (Fr.refl [] wr).drew) e).mono ?_
          rintro _ wA ⟨u, rfl, hu, _, hf⟩
          have hfA : Fr [] wr wA := ((Fr.refl [] wr).drew).trans' hf
          refine ⟨u, rfl, hfA, ?_⟩
          refine (reached_r hu V hV (Nat.le_trans (List.length_filter_le _ _) (Nat.le_trans hl hS)) (after_ok H.out.ok e) e.2.1 ho.1).mono ?_
          rintro _ wB ⟨sb, rfl, hB, _, hf2⟩
          exact ⟨sb, rfl, hB, hfA.trans' hf2⟩)
        have hbV : (e.2.2.1 : Int) < V := by have := ho.2; omega
        have HO := Lib.hid ho
        clear ht hem ho hfind he
        obtain ⟨s0, ea, eb, ex⟩ := e
        simp only at q0 q1 q2 q3 hs hbV
        subst hs
        go_wp2_with fail
        go_region_held3 (fun w' => w'.cell? ⟨pr, 1, none⟩ = some (.int .i64 V) ∧ w'.cell? ⟨pr, 3, none⟩ = some (.slice (some ⟨b, 0, none⟩) l.length cv) ∧ w'.cell? ⟨b, k * 4, none⟩ = some (.int .i64 s0) ∧ w'.cell? ⟨b, k * 4 + 1, none⟩ = some (.int .i64 ea) ∧ w'.cell? ⟨b, k * 4 + 2, none⟩ = some (.int .i64 eb) ∧ w'.cell? ⟨b, k * 4 + 3, none⟩ = some (.int .i64 ex))
          (first
            | go_keep
            | exact ⟨hfB.cell c1 (by simp), hfB.cell c3 (by simp), hfB.cell q0 (by simp), hfB.cell q1 (by simp), hfB.cell q2 (by simp), hfB.cell q3 (by simp)⟩
            | exact ⟨hfA.cell c1 (by simp), hfA.cell c3 (by simp), hfA.cell q0 (by simp), hfA.cell q1 (by simp), hfA.cell q2 (by simp), hfA.cell q3 (by simp)⟩)
          (first
            | (go_at_call 66; with_reducible refine HP.out.mono ?_; rintro r wA ⟨u, rfl, hfA, hcA⟩)
            | (go_at_call 65; with_reducible refine hcA.mono ?_; rintro r wB ⟨sb, rfl, hB, hfB⟩))
        have t0 := hB.cell eb
        rw [bRow_at _ HO.out.2] at t0
        have c3 := hfB.cell c3 (by simp)
        have q2 := hfB.cell q2 (by simp)
        have HF5 := Lib.hid (HF.out.trans' hfB)
        clear hB hfB hfA hcA HP
        go_wp2_with fail
        go_ret
        exact ⟨by rw [HTR.out, HT.out]; rfl, HF5.out⟩
      · have d1 : ((e.1 : Int) == s) = false := by simp [hs]
        have HN' := Lib.hid (show ∀ e ∈ l.take (k + 1), (e.1 : Int) ≠ s by
          rw [List.take_add_one, List.getElem?_eq_getElem hlt, ← he]
          intro x hx
          rcases List.mem_append.1 hx with hx | hx
          · exact HN.out x hx
          · simp at hx; subst hx; exact hs)
        clear he
        go_wp2_with fail
        go_roundw
        case rel => exact ⟨k + 1, by omega, rfl, HF, HN'⟩
        case measure => simp [intOf]; omega
    · obtain rfl : k = l.length := by omega
      have ht : treeR V l s = false := by
        unfold treeR
        rw [List.find?_eq_none.2 (fun x hx => by simpa using HN.out x (by rw [List.take_of_length_le (Nat.le_refl _)]; exact hx))]
      have HT := Lib.hid ht
      clear ht
      go_wp2_with fail
      go_ret
      exact ⟨by rw [HTR.out, HT.out]; rfl, HF.out⟩
end
end Go.Proofs.YthkkelkgfkehlaaGreat
