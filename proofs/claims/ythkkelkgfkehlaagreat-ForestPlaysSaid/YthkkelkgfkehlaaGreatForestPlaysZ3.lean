/- lct: Copy. -/
import Derived.Test.YthkkelkgfkehlaaGreatForestPlaysZ1
import Derived.Test.YthkkelkgfkehlaaGreatForestPlaysZ2
import Derived.Test.YthkkelkgfkehlaaGreatB9
import Derived.Deep.RegionHeld3
import Derived.Shelf.SlGeneric
import Derived.Ground.SlgnProg
import Derived.Shelf.SlicesE.Clone
import Derived.Test.YthkkelkgfkehlaaGreatB8
/- The document's forest: Add. -/
namespace Go.Proofs.YthkkelkgfkehlaaGreat
open Go.RowKit Classical
set_option maxRecDepth 10000
set_option maxHeartbeats 1600000

/-- The document's list after Add. -/
noncomputable def addL (S V : Nat) (G : EMap) (l : List RE) (s a b x : Int) : List RE := if addCode S V G s a b = 0 then l ++ [(s.toNat, a.toNat, b.toNat, x)] else l

section
variable {w : World} {pr V S : Nat} {v : Value} {l : List RE} {G : EMap}
theorem radd_range (h : RA w pr V S v l) (s a b x : Int) (hn : ¬ (inV S s = true ∧ inV V a = true ∧ inV V b = true)) :
    Calls Tryz.prog 8 #[fptr pr, .int .i64 s, .int .i64 a, .int .i64 b, .int .i64 x] w fun r w' => r = .returned (.int .i64 3) ∧ w' = w := by
  have c2 := h.hd.cell 2
  simp only [List.getElem?_cons_zero, List.getElem?_cons_succ] at c2
  have HV := Lib.hid (rvalid h)
  have HA := Lib.hid (rhas h a)
  have HB := Lib.hid (rhas h b)
  clear h
  by_cases h1 : s < 0
  · clear hn
    go_enter Tryz.func8, Tryz.ntmps8
    go_wp2_with (go_at_call 30; refine HV.out.mono ?_; rintro e w' ⟨rfl, rfl⟩)
    go_ret
    exact ⟨rfl, rfl⟩
  · by_cases h2 : (S : Int) ≤ s
    · clear hn
      go_enter Tryz.func8, Tryz.ntmps8
      go_wp2_with (go_at_call 30; refine HV.out.mono ?_; rintro e w' ⟨rfl, rfl⟩)
      go_ret
      exact ⟨rfl, rfl⟩
    · have hs : inV S s = true := by unfold inV; simp; omega
      have hn2 : ¬ (inV V a = true ∧ inV V b = true) := fun e => hn ⟨hs, e⟩
      clear hn hs
      cases ha : inV V a with
      | false =>
        rw [ha] at HA
        clear hn2 ha HB
        go_enter Tryz.func8, Tryz.ntmps8
        go_wp2_with (first | (go_at_call 30; refine HV.out.mono ?_; rintro e w' ⟨rfl, rfl⟩) | (go_at_call 31; refine HA.out.mono ?_; rintro e w' ⟨rfl, rfl⟩))
        go_ret
        exact ⟨rfl, rfl⟩
      | true =>
        have hb : inV V b = false := by
          cases e : inV V b with
          | false => rfl
          | true => exact absurd ⟨ha, e⟩ hn2
        rw [ha] at HA
        rw [hb] at HB
        clear hn2 ha hb
        go_enter Tryz.func8, Tryz.ntmps8
        go_wp2_with fail
        refine HV.out.mono ?_
        rintro _ w ⟨rfl, rfl⟩
        go_wp2_with fail
        refine HA.out.mono ?_
        rintro _ w ⟨rfl, rfl⟩
        go_wp2_with fail
        refine HB.out.mono ?_
        rintro _ w ⟨rfl, rfl⟩
        go_wp2_with fail
        go_ret
        exact ⟨rfl, rfl⟩
theorem radd_loop (h : RA w pr V S v l) (s a : Nat) (x : Int) (hs : s < S) (ha : a < V) :
    Calls Tryz.prog 8 #[fptr pr, .int .i64 s, .int .i64 a, .int .i64 a, .int .i64 x] w fun r w' => r = .returned (.int .i64 9) ∧ w' = w := by
  have c2 := h.hd.cell 2
  simp only [List.getElem?_cons_zero, List.getElem?_cons_succ] at c2
  have HV := Lib.hid (rvalid h)
  have HA := rhas h a
  rw [inV_lt ha] at HA
  have HA := Lib.hid HA
  have d1 : decide ((s : Int) < 0) = false := decide_eq_false (by omega)
  have d2 : decide ((S : Int) ≤ s) = false := decide_eq_false (by omega)
  have d3 : decide (S ≤ s) = false := decide_eq_false (by omega)
  clear h
  go_enter Tryz.func8, Tryz.ntmps8
  go_wp2_with fail
  refine HV.out.mono ?_
  rintro _ w ⟨rfl, rfl⟩
  go_wp2_with fail
  refine HA.out.mono ?_
  rintro _ w ⟨rfl, rfl⟩
  go_wp2_with fail
  refine HA.out.mono ?_
  rintro _ w ⟨rfl, rfl⟩
  go_wp2_with fail
  go_ret
  exact ⟨rfl, rfl⟩
/-- What Add does where the numbers are right. -/
def AddR (w : World) (pr V S : Nat) (v : Value) (l : List RE) (s a b : Nat) (x : Int) (r : Ending) (w' : World) : Prop :=
  (r = .returned (.int .i64 6) ∧ (∃ e ∈ l, e.1 = s) ∧ Fr [] w w') ∨
  (r = .returned (.int .i64 0) ∧ (∀ e ∈ l, e.1 ≠ s) ∧ ∃ v', RA w' pr V S v' (l ++ [(s, a, b, x)]) ∧ Fr (pr :: v.ownBlock.toList) w w' ∧ ∀ q, v'.ownBlock = some q → v.ownBlock = some q ∨ w.heap.size ≤ q)
theorem radd_row (h : RA w pr V S v l) (s a b : Nat) (x : Int) (hs : s < S) (ha : a < V) (hb : b < V) (hab : a ≠ b) (hl1 : (∀ e ∈ l, e.1 ≠ s) → l.length + 1 ≤ S) :
    Calls Tryz.prog 8 #[fptr pr, .int .i64 s, .int .i64 a, .int .i64 b, .int .i64 x] w (AddR w pr V S v l s a b x) := by
  have hV := h.leV
  have hS := h.leS
  have hl := h.len
  obtain ⟨av, cv, rfl⟩ := h.row.slice
  have c2 := h.hd.cell 2
  simp only [List.getElem?_cons_zero, List.getElem?_cons_succ] at c2
  have H := Lib.hid h
  have HV := Lib.hid (rvalid h)
  have HA := rhas h a
  rw [inV_lt ha] at HA
  have HA := Lib.hid HA
  have HB := rhas h b
  rw [inV_lt hb] at HB
  have HB := Lib.hid HB
  have HL1 := Lib.hid hl1
  have HAB := Lib.hid (And.intro ha (And.intro hb hab))
  have d1 : decide ((s : Int) < 0) = false := decide_eq_false (by omega)
  have d2 : decide ((S : Int) ≤ s) = false := decide_eq_false (by omega)
  have d3 : decide (S ≤ s) = false := decide_eq_false (by omega)
  have d4 : ((a : Int) == b) = false := by simp; omega
  clear h hl1 ha hb hab
  go_enter Tryz.func8, Tryz.ntmps8
  go_wp2_with fail
  refine HV.out.mono ?_
  rintro _ w ⟨rfl, rfl⟩
  go_wp2_with fail
  refine HA.out.mono ?_
  rintro _ w ⟨rfl, rfl⟩
  go_wp2_with fail
  refine HB.out.mono ?_
  rintro _ w ⟨rfl, rfl⟩
  go_wp2_with fail
  clear d1 d2 d3 d4 c2
  go_loopw [11] (fun y wr => ∃ k : Nat, k ≤ l.length ∧ y = .int .i64 k ∧ w = wr ∧ Hid (∀ e ∈ l.take k, e.1 ≠ s)) (fun y _ => l.length - (intOf y).toNat)
  case atStart => exact ⟨0, Nat.zero_le _, rfl, rfl, Lib.hid (by simp)⟩
  case round =>
    obtain ⟨k, hk, rfl, rfl, HN⟩ := hrel
    have hRA := H.out
    have c3 := hRA.hd.cell 3
    have z3 := hRA.hd.frozen 3
    simp only [List.getElem?_cons_zero, List.getElem?_cons_succ] at c3
    by_cases hlt : k < l.length
    · have hlt' : (k : Int) < l.length := by omega
      have hw1 : IntKind.i64.wrap ((k : Int) + 1) = ((k + 1 : Nat) : Int) := by rw [show (k : Int) + 1 = ((k + 1 : Nat) : Int) by omega]; exact IntWalk.i64_in _ (by omega)
      obtain ⟨b, cap, ev, hb, q0, q1, q2, q3⟩ := hRA.row.at hlt
      simp only [Value.slice.injEq, true_and] at ev
      obtain ⟨rfl, rfl⟩ := ev
      obtain ⟨e, he⟩ : ∃ e, e = l[k] := ⟨_, rfl⟩
      rw [← he] at q0
      have HM := Lib.hid (show e ∈ l by rw [he]; exact List.getElem_mem _)
      clear hRA q1 q2 q3
      by_cases hse : e.1 = s
      · have HX := Lib.hid (⟨e, HM.out, hse⟩ : ∃ e ∈ l, e.1 = s)
        rw [hse] at q0
        clear hse he
        go_wp2_with fail
        go_ret
        exact .inl ⟨rfl, HX.out, Fr.refl _ _⟩
      · have d1 : ((e.1 : Int) == s) = false := by simp; omega
        have HN' := Lib.hid (show ∀ e ∈ l.take (k + 1), e.1 ≠ s by
          rw [List.take_add_one, List.getElem?_eq_getElem hlt, ← he]
          intro x hx
          rcases List.mem_append.1 hx with hx | hx
          · exact HN.out x hx
          · simp at hx; subst hx; exact hse)
        clear he hse
        go_wp2_with fail
        go_roundw
        case rel => exact ⟨k + 1, by omega, rfl, trivial, HN'⟩
        case measure => simp [intOf]; omega
    · obtain rfl : k = l.length := by omega
      have hnew : ∀ e ∈ l, e.1 ≠ s := by have := HN.out; rwa [List.take_of_length_le (Nat.le_refl _)] at this
      have hle := HL1.out hnew
      have HNew := Lib.hid hnew
      have hne := hRA.ne
      have hprlt := hRA.hd.lt
      have hprn : ∀ q, (Value.slice av l.length cv).ownBlock = some q → pr ≠ q := fun q hq e => hne (by rw [hq, e])
      have HPN := Lib.hid hprn
      have HO6 := Lib.hid (hRA.row.fr ((Fr.refl [] w).alloc (.cells (reC (s, a, b, x)).toArray 69)) (by simp))
      have HBn := Lib.hid (Blk.new w (reC (s, a, b, x)) 69)
      have HD := Lib.hid (hRA.hd.alloc (.cells (reC (s, a, b, x)).toArray 69))
      clear hnew hne hRA HL1 hprn z3
      go_wp2_with (first | (at_builtin; refine wpList_appE rfl _ _ rfl (.slice av l.length cv) l rfl HO6.out w.heap.size (s, a, b, x) rfl HBn.out (by omega) ?_; intro g' cap' w6 hown6 hgrow6 hg6; have hF6 : Fr (Value.slice av l.length cv).ownBlock.toList (w.alloc (.cells (reC (s, a, b, x)).toArray 69)) w6 := (Fr.refl _ _).grown hgrow6 (fun q e => .inl (by simp [e])); have hd6 := hF6.blk HD.out (fun hm => HPN.out _ (by simpa using hm) rfl); have c36 := hd6.cell 3; have z36 := hd6.frozen 3; simp only [List.getElem?_cons_zero, List.getElem?_cons_succ] at c36) | fail)
      go_ret
      have hne' : pr ≠ g' := fun e => by
        rcases hg6 with h6 | h6
        · exact HPN.out _ h6 e
        · simp only [World.size_alloc] at h6; omega
      refine .inr ⟨rfl, HNew.out, .slice (some ⟨g', 0, none⟩) (l.length + 1) cap', ⟨hd6.set 3 _, ?_, ?_, ?_, hV, hS, ?_⟩, ?_, ?_⟩
      · have := ownsRow_other hown6 ⟨pr, 3, none⟩ (.slice (some ⟨g', 0, none⟩) (l.length + 1) cap') (fun e => hne' (by simp [Value.ownBlock] at e; exact e.symm))
        unfold RowE
        rw [List.length_append]
        have h9 : RowE (w6.setCell ⟨pr, 3, none⟩ (.slice (some ⟨g', 0, none⟩) (l.length + 1) cap')) (.slice (some ⟨g', 0, none⟩) (l.length + 1) cap') (l ++ [(s, a, b, x)]) := this
        unfold RowE at h9
        rw [List.length_append] at h9
        exact h9
      · intro e; simp [Value.ownBlock] at e; exact hne' e.symm
      · intro e he
        rcases List.mem_append.1 he with he | he
        · exact H.out.ok e he
        · simp at he; subst he; exact ⟨HAB.out.1, HAB.out.2.1⟩
      · simp; omega
      · exact ((((Fr.refl _ w).alloc _).trans hF6 (fun q hq => .inl (List.mem_cons_of_mem _ hq)))).setCell _ _ (.inl (by simp))
      · intro q hq
        simp only [Value.ownBlock, Option.some.injEq] at hq
        subst hq
        rcases hg6 with h6 | h6
        · exact .inl h6
        · simp only [World.size_alloc] at h6; exact .inr (by omega)
end
end Go.Proofs.YthkkelkgfkehlaaGreat

/- The document's list of edges: an edge more, an edge less (plain laws). -/
namespace Go.Proofs.YthkkelkgfkehlaaGreat
open Classical
set_option maxRecDepth 10000

section
variable {G : EMap} {l : List RE}
theorem reps_free {s : Nat} (h : Reps G l) : G s = none ↔ ∀ e ∈ l, e.1 ≠ s := by
  constructor
  · rintro hn ⟨t, a, b, x⟩ he rfl
    have := (h.iff t a b x).2 he
    rw [hn] at this; cases this
  · intro hn
    cases hg : G s with
    | none => rfl
    | some e =>
      obtain ⟨a, b, x⟩ := e
      exact absurd rfl (hn _ ((h.iff s a b x).1 hg))
theorem reps_add {s : Nat} (h : Reps G l) (hs : ∀ e ∈ l, e.1 ≠ s) (a b : Nat) (x : Int) : Reps (updG G s (some (a, b, x))) (l ++ [(s, a, b, x)]) := by
  refine ⟨fun t c d y => ?_, ?_⟩
  · rw [List.mem_append, List.mem_singleton]
    by_cases ht : t = s
    · subst ht
      rw [updG_same]
      constructor
      · intro e; cases e; exact .inr rfl
      · rintro (e | e)
        · exact absurd rfl (hs _ e)
        · cases e; rfl
    · rw [updG_other ht, h.iff]
      constructor
      · exact .inl
      · rintro (e | e)
        · exact e
        · cases e; exact absurd rfl ht
  · rw [List.map_append, List.nodup_append]
    refine ⟨h.one, by simp, fun x hx y hy e => ?_⟩
    simp at hy
    obtain ⟨e', he', rfl⟩ := List.mem_map.1 hx
    exact hs _ he' (e.trans hy)
theorem mem_erase {f : Nat} (hf : f < l.length) (h1 : (l.map fun e => e.1).Nodup) (e : RE) : e ∈ l.eraseIdx f ↔ e ∈ l ∧ e.1 ≠ l[f].1 := by
  have key : ∀ i j, (hi : i < l.length) → (hj : j < l.length) → l[i].1 = l[j].1 → i = j := by
    intro i j hi hj e
    have hp := List.pairwise_iff_getElem.1 h1
    rcases Nat.lt_trichotomy i j with hij | hij | hij
    · exact absurd (by rw [List.getElem_map, List.getElem_map]; exact e) (hp i j (by simpa using hi) (by simpa using hj) hij)
    · exact hij
    · exact absurd (by rw [List.getElem_map, List.getElem_map]; exact e.symm) (hp j i (by simpa using hj) (by simpa using hi) hij)
  rw [List.mem_eraseIdx_iff_getElem]
  constructor
  · rintro ⟨i, hi, hif, rfl⟩
    exact ⟨List.getElem_mem hi, fun e => hif (key i f hi hf e)⟩
  · rintro ⟨hm, hne⟩
    obtain ⟨i, hi, rfl⟩ := List.mem_iff_getElem.1 hm
    exact ⟨i, hi, fun e => hne (by subst e; rfl), rfl⟩
theorem reps_pop (h : Reps G l) {f : Nat} (hf : f < l.length) (hm : ∀ j, (hj : j < l.length) → ¬ bef l[j].2.2.2 l[j].1 l[f].2.2.2 l[f].1) : fstG G = some l[f].1 ∧ Reps (popG G) (l.eraseIdx f) := by
  have hg : G l[f].1 = some (l[f].2.1, l[f].2.2.1, l[f].2.2.2) := (h.iff _ _ _ _).2 (List.getElem_mem hf)
  have e : fstG G = some l[f].1 := fstG_eq ⟨_, _, _, hg, fun t c d z ht => by
    obtain ⟨j, hj, he⟩ := List.mem_iff_getElem.1 ((h.iff t c d z).1 ht)
    have := hm j hj
    rw [he] at this
    exact this⟩
  refine ⟨e, fun t c d y => ?_, ?_⟩
  · unfold popG
    rw [e, mem_erase hf h.one]
    show updG G l[f].1 none t = _ ↔ _
    by_cases ht : t = l[f].1
    · subst ht; rw [updG_same]; simp
    · rw [updG_other ht, h.iff]; simp [ht]
  · exact List.Pairwise.sublist ((List.eraseIdx_sublist l f).map _) h.one
end
end Go.Proofs.YthkkelkgfkehlaaGreat

/- The document's forest: Expire. -/
namespace Go.Proofs.YthkkelkgfkehlaaGreat
open Go.RowKit Classical
set_option maxRecDepth 10000
set_option maxHeartbeats 1600000

def d0 : RE := (0, 0, 0, 0)
/-- None of the first k edges is before edge f. -/
def LeastL (l : List RE) (f k : Nat) : Prop := ∀ j, j < k → befE (l.getD j d0) (l.getD f d0) = false
theorem bef_of {e e' : RE} : befE e e' = true ↔ (e.2.2.2 < e'.2.2.2 ∨ e.2.2.2 = e'.2.2.2 ∧ e.1 < e'.1) := by
  show decide (bef _ _ _ _) = true ↔ bef _ _ _ _; exact decide_eq_true_iff
theorem bef_no {e e' : RE} : befE e e' = false ↔ ¬ (e.2.2.2 < e'.2.2.2 ∨ e.2.2.2 = e'.2.2.2 ∧ e.1 < e'.1) := by
  show decide (bef _ _ _ _) = false ↔ ¬ bef _ _ _ _; exact decide_eq_false_iff_not
theorem least_new {l : List RE} {f k : Nat} (h : LeastL l f k) (hb : befE (l.getD k d0) (l.getD f d0) = true) : LeastL l k (k + 1) := by
  intro j hj
  have h2 := bef_of.1 hb
  by_cases e : j = k
  · subst e; rw [bef_no]; omega
  · have h1 := bef_no.1 (h j (by omega))
    rw [bef_no]; omega
theorem least_old {l : List RE} {f k : Nat} (h : LeastL l f k) (hb : befE (l.getD k d0) (l.getD f d0) = false) : LeastL l f (k + 1) := by
  intro j hj
  by_cases e : j = k
  · subst e; exact hb
  · exact h j (by omega)
theorem least_one (l : List RE) : LeastL l 0 1 := by
  intro j hj
  obtain rfl : j = 0 := by omega
  rw [bef_no]; omega

def remL (l : List RE) (f k : Nat) : List RE := (l.take k).eraseIdx f
theorem remL_same (l : List RE) (f : Nat) : remL l f (f + 1) = remL l f f := by
  unfold remL
  rw [List.take_add_one]
  rw [List.eraseIdx_of_length_le (l := l.take f) (by simp; omega)]
  by_cases h : f < l.length
  · rw [List.eraseIdx_append_of_length_le (by simp; omega)]
    simp [Nat.min_eq_left (Nat.le_of_lt h), h]
  · rw [List.getElem?_eq_none (by omega)]; simp; omega
theorem remL_step {l : List RE} {f k : Nat} (hk : k < l.length) (hne : k ≠ f) : remL l f (k + 1) = remL l f k ++ [l[k]] := by
  unfold remL
  rw [List.take_add_one, List.getElem?_eq_getElem hk]
  rcases Nat.lt_or_ge f k with h | h
  · rw [List.eraseIdx_append_of_lt_length (by simp; omega)]; rfl
  · rw [List.eraseIdx_of_length_le (l := l.take k) (by simp; omega), List.eraseIdx_of_length_le (by simp; omega)]; rfl
theorem remL_all (l : List RE) (f : Nat) : remL l f l.length = l.eraseIdx f := by
  unfold remL; rw [List.take_of_length_le (Nat.le_refl _)]
theorem remL_le (l : List RE) (f k : Nat) : (remL l f k).length ≤ l.length := by
  unfold remL
  have h1 := (List.eraseIdx_sublist (l.take k) f).length_le
  have h2 := List.length_take_le k l
  rw [List.length_take] at h1
  omega

section
variable {w w' : World} {pr V S : Nat} {v : Value} {l : List RE}
/-- What Expire does where there are edges. -/
def ExpR (w : World) (pr V S : Nat) (l : List RE) (r : Ending) (w' : World) : Prop :=
  ∃ f, f < l.length ∧ LeastL l f l.length ∧ r = .returned (.tuple #[.int .i64 (l.getD f d0).1, .bool true]) ∧ ∃ v', RA w' pr V S v' (l.eraseIdx f) ∧ Fr [pr] w w' ∧ ∀ q, v'.ownBlock = some q → w.heap.size ≤ q
theorem rexp_none (h : RA w pr V S v []) : Calls Tryz.prog 10 #[fptr pr] w fun r w' => r = .returned (.tuple #[.int .i64 0, .bool false]) ∧ w' = w := by
  obtain ⟨av, cv, rfl⟩ := h.row.slice
  have c3 := h.hd.cell 3
  simp only [List.getElem?_cons_zero, List.getElem?_cons_succ, List.length_nil] at c3
  have Hv := Lib.hid (rvalid h)
  clear h
  go_enter Tryz.func10, Tryz.ntmps10
  go_wp2_with fail
  refine Hv.out.mono ?_
  rintro _ w ⟨rfl, rfl⟩
  go_wp2_with fail
  go_ret2
  exact ⟨rfl, rfl⟩
theorem RowE.atD {w : World} {v : Value} {l : List RE} (h : RowE w v l) {i : Nat} (hi : i < l.length) : ∃ b cap, v = .slice (some ⟨b, 0, none⟩) l.length cap ∧ b < w.heap.size ∧
    w.cell? ⟨b, i * 4, none⟩ = some (.int .i64 (l.getD i d0).1) ∧ w.cell? ⟨b, i * 4 + 1, none⟩ = some (.int .i64 (l.getD i d0).2.1) ∧ w.cell? ⟨b, i * 4 + 2, none⟩ = some (.int .i64 (l.getD i d0).2.2.1) ∧ w.cell? ⟨b, i * 4 + 3, none⟩ = some (.int .i64 (l.getD i d0).2.2.2) := by
  have e : l.getD i d0 = l[i] := by simp [hi]
  rw [e]; exact h.at hi
theorem rexp_some (h : RA w pr V S v l) (hpos : 0 < l.length) : Calls Tryz.prog 10 #[fptr pr] w (ExpR w pr V S l) := by
  have hV := h.leV
  have hS := h.leS
  have hl := h.len
  obtain ⟨av, cv, rfl⟩ := h.row.slice
  have c3 := h.hd.cell 3
  simp only [List.getElem?_cons_zero, List.getElem?_cons_succ] at c3
  have H := Lib.hid h
  have Hv := Lib.hid (rvalid h)
  have d1 : ((l.length : Int) == 0) = false := beq_eq_false_iff_ne.2 (by omega)
  clear h
  go_enter Tryz.func10, Tryz.ntmps10
  go_wp2_with fail
  refine Hv.out.mono ?_
  rintro _ w ⟨rfl, rfl⟩
  go_wp2_with fail
  clear d1 c3 Hv
  go_loopw [4, 5] (fun x y wr => ∃ f k : Nat, f < k ∧ k ≤ l.length ∧ x = .int .i64 f ∧ y = .int .i64 k ∧ Hid (Fr [] w wr) ∧ Hid (LeastL l f k)) (fun _ y _ => l.length - (intOf y).toNat)
  case atStart => exact ⟨0, 1, by omega, by omega, rfl, rfl, Lib.hid (Fr.refl _ _), Lib.hid (least_one l)⟩
  case round =>
    obtain ⟨f, k, hfk, hk, rfl, rfl, HF, HM⟩ := hrel
    have hRA := H.out.fr0 HF.out
    have c3 := hRA.hd.cell 3
    simp only [List.getElem?_cons_zero, List.getElem?_cons_succ] at c3
    have hfl' : (f : Int) < l.length := by omega
    by_cases hlt : k < l.length
    · have hlt' : (k : Int) < l.length := by omega
      have hw1 : IntKind.i64.wrap ((k : Int) + 1) = ((k + 1 : Nat) : Int) := by rw [show (k : Int) + 1 = ((k + 1 : Nat) : Int) by omega]; exact IntWalk.i64_in _ (by omega)
      obtain ⟨b, cap, ev, hb, q0, q1, q2, q3⟩ := hRA.row.atD hlt
      simp only [Value.slice.injEq, true_and] at ev
      obtain ⟨rfl, rfl⟩ := ev
      obtain ⟨b', cap', ev, hb', p0, p1, p2, p3⟩ := hRA.row.atD (show f < l.length by omega)
      simp only [Value.slice.injEq, true_and, Option.some.injEq, Addr.mk.injEq, and_true] at ev
      obtain ⟨rfl, rfl⟩ := ev
      have HLN := Lib.hid (fun hb => least_new HM.out hb)
      have HLO := Lib.hid (fun hb => least_old HM.out hb)
      obtain ⟨e', he'⟩ : ∃ e, e = l.getD k d0 := ⟨_, rfl⟩
      obtain ⟨e, he⟩ : ∃ e, e = l.getD f d0 := ⟨_, rfl⟩
      rw [← he'] at q0 q1 q2 q3 HLN HLO
      rw [← he] at p0 p1 p2 p3 HLN HLO
      have HBf := Lib.hid (fun (w' : World) => rbefore e' e w')
      obtain ⟨bf, hbf⟩ : ∃ bf, bf = befE e' e := ⟨_, rfl⟩
      have HBF := Lib.hid hbf; clear hbf he he' hRA
      go_wp2_with fail
      refine region_cw (fun w' => Fr [] wr w') (by kernel_rfl) (by kernel_rfl) ((Fr.refl [] wr).drew) ?_
      iterate 3 (refine cw_pure (by kernel_rfl) (fun KK hK => ?_); go_simp; refine hK.out _ ?_; clear hK KK)
      refine cw_val (by kernel_rfl) (.slice (some ⟨b, 0, none⟩) l.length cv) (fun w' hw' => ?_) ?_
      · have c3 := hw'.cell c3 (by simp)
        go_simp
        first | exact hw' | exact ⟨rfl, hw'⟩ | skip
      iterate 2 (refine cw_pure (by kernel_rfl) (fun KK hK => ?_); go_simp; refine hK.out _ ?_; clear hK KK)
      refine cw_val (by kernel_rfl) (aggE e') (fun w' hw' => ?_) ?_
      · have q0 := hw'.cell q0 (by simp)
        have q1 := hw'.cell q1 (by simp)
        have q2 := hw'.cell q2 (by simp)
        have q3 := hw'.cell q3 (by simp)
        go_simp
        first | exact hw' | exact ⟨rfl, hw'⟩ | skip
      iterate 3 (refine cw_pure (by kernel_rfl) (fun KK hK => ?_); go_simp; refine hK.out _ ?_; clear hK KK)
      refine cw_val (by kernel_rfl) (.slice (some ⟨b, 0, none⟩) l.length cv) (fun w' hw' => ?_) ?_
      · have c3 := hw'.cell c3 (by simp)
        go_simp
        first | exact hw' | exact ⟨rfl, hw'⟩ | skip
      iterate 2 (refine cw_pure (by kernel_rfl) (fun KK hK => ?_); go_simp; refine hK.out _ ?_; clear hK KK)
      refine cw_val (by kernel_rfl) (aggE e) (fun w' hw' => ?_) ?_
      · have p0 := hw'.cell p0 (by simp)
        have p1 := hw'.cell p1 (by simp)
        have p2 := hw'.cell p2 (by simp)
        have p3 := hw'.cell p3 (by simp)
        go_simp
        first | exact hw' | exact ⟨rfl, hw'⟩ | skip
      refine cw_val (by kernel_rfl) (.bool bf) (fun w' hw' => ?_) ?_
      · go_simp
        refine (HBf.out w').mono ?_
        rintro _ w6 ⟨rfl, h1⟩
        exact ⟨by rw [HBF.out], hw'.trans' h1⟩
      refine cw_nil ?_
      intro w5 hf5
      have HF5 := Lib.hid (HF.out.trans' hf5)
      clear hf5 c3 q0 q1 q2 q3 p0 p1 p2 p3
      cases bf with
      | false =>
        go_wp2_with fail
        go_roundw
        case rel => exact ⟨f, k + 1, by omega, by omega, rfl, rfl, HF5, Lib.hid (HLO.out HBF.out.symm)⟩
        case measure => simp [intOf]; omega
      | true =>
        go_wp2_with fail
        go_roundw
        case rel => exact ⟨k, k + 1, by omega, by omega, rfl, rfl, HF5, Lib.hid (HLN.out HBF.out.symm)⟩
        case measure => simp [intOf]; omega
    · obtain rfl : k = l.length := by omega
      obtain ⟨b', cap', ev, hb', p0, p1, p2, p3⟩ := hRA.row.atD hfk
      simp only [Value.slice.injEq, true_and] at ev
      obtain ⟨rfl, rfl⟩ := ev
      obtain ⟨s0, hs0⟩ : ∃ s0, s0 = (l.getD f d0).1 := ⟨_, rfl⟩
      rw [← hs0] at p0
      have HS0 := Lib.hid hs0
      clear hs0 p1 p2 p3 hRA hlt
      go_wp2_with fail
      clear p0 c3
      rename World => wo
      go_loopw [7, 8] (fun u y wr => ∃ k : Nat, k ≤ l.length ∧ y = .int .i64 k ∧ Hid (Fr [] wo wr ∧ ∀ q, u.ownBlock = some q → wo.heap.size ≤ q) ∧ RowE wr u (remL l f k)) (fun _ y _ => l.length - (intOf y).toNat)
      case atStart => exact ⟨0, Nat.zero_le _, rfl, Lib.hid ⟨Fr.refl _ _, fun q e => by cases e⟩, by unfold remL; simp; exact ⟨rfl, .inl ⟨rfl, rfl⟩⟩⟩
      case round =>
        obtain ⟨k, hk, rfl, HK, hown⟩ := hrel
        have hrl := remL_le l f k
        have hRA := H.out.fr0 (HF.out.trans' HK.out.1)
        have c3 := hRA.hd.cell 3
        simp only [List.getElem?_cons_zero, List.getElem?_cons_succ] at c3
        by_cases hlt : k < l.length
        · have hlt' : (k : Int) < l.length := by omega
          have hw1 : IntKind.i64.wrap ((k : Int) + 1) = ((k + 1 : Nat) : Int) := by rw [show (k : Int) + 1 = ((k + 1 : Nat) : Int) by omega]; exact IntWalk.i64_in _ (by omega)
          obtain ⟨a8, c8, rfl⟩ := hown.slice
          obtain ⟨b, cap, ev, hb, q0, q1, q2, q3⟩ := hRA.row.at hlt
          simp only [Value.slice.injEq, true_and, Option.some.injEq, Addr.mk.injEq, and_true] at ev
          obtain ⟨rfl, rfl⟩ := ev
          by_cases hkf : k = f
          · subst hkf
            have HST := Lib.hid (remL_same l k)
            clear q0 q1 q2 q3 hRA
            generalize remL l k k = us at *
            have HO := Lib.hid hown; clear hown
            go_wp2_with fail
            go_roundw
            case rel => exact ⟨k + 1, by omega, rfl, HK, by rw [HST.out]; exact HO.out⟩
            case measure => simp [intOf]; omega
          · have HST := Lib.hid (remL_step hlt hkf)
            have d1 : ((k : Int) == f) = false := by simp; omega
            have d2 : ((k : Int) != f) = true := by simp; omega
            obtain ⟨e', he'⟩ : ∃ e', e' = l[k] := ⟨_, rfl⟩
            rw [← he'] at HST q0 q1 q2 q3
            clear he' hkf hRA
            generalize remL l f k = us at *
            have HBn := Lib.hid (Blk.new wr (reC e') 69)
            have HO6 := Lib.hid (hown.fr ((Fr.refl [] wr).alloc (.cells (reC e').toArray 69)) (by simp))
            clear hown
            go_wp2_with (first | (at_builtin; refine wpList_appE rfl _ _ rfl (.slice a8 us.length c8) us rfl HO6.out wr.heap.size e' rfl HBn.out (by omega) ?_; intro g' cap' w6 hown6 hgrow6 hg6; have hF6 : Fr (Value.slice a8 us.length c8).ownBlock.toList wr w6 := ((Fr.refl _ _).alloc _).grown hgrow6 (fun q e => .inl (by simp [e]))) | fail)
            go_roundw
            case rel =>
              have hb : ∀ q ∈ (Value.slice a8 us.length c8).ownBlock.toList, wo.heap.size ≤ q := fun q hq => HK.out.2 q (by simpa using hq)
              have hs1 := HK.out.1.size
              refine ⟨k + 1, by omega, rfl, Lib.hid ⟨HK.out.1.trans hF6 (fun q hq => .inr (hb q hq)), fun q e => ?_⟩, ?_⟩
              · simp only [Value.ownBlock, Option.some.injEq] at e
                subst e
                simp only [World.size_alloc] at hg6
                rcases hg6 with e | e
                · exact HK.out.2 _ e
                · omega
              · rw [HST.out]; exact hown6
            case measure => simp [intOf]; omega
        · obtain rfl : k = l.length := by omega
          rw [remL_all] at hown hrl
          obtain ⟨a8, c8, rfl⟩ := hown.slice
          have hpr := H.out.hd.lt
          have hsz := HF.out.size
          have z3 := hRA.hd.frozen 3
          have HO := Lib.hid hown
          have HD := Lib.hid hRA.hd
          have HFK := Lib.hid hfk
          clear hown hRA hfk
          go_wp2_with fail
          go_ret2
          have hne : ∀ q, (Value.slice a8 (l.eraseIdx f).length c8).ownBlock = some q → q ≠ pr := fun q hq => by
            have := HK.out.2 q hq; omega
          refine ⟨f, HFK.out, HM.out, (by rw [← HS0.out]; rfl), .slice a8 (l.eraseIdx f).length c8, ⟨HD.out.set 3 _, ?_, ?_, ?_, hV, hS, by omega⟩, (((HF.out.trans' HK.out.1).mono (by simp)).setCell _ _ (.inl (by simp))), fun q hq => ?_⟩
          · exact ownsRow_other HO.out ⟨pr, 3, none⟩ _ (fun e => hne _ e rfl)
          · intro e; exact hne _ e rfl
          · intro e he; exact H.out.ok e ((List.eraseIdx_sublist l f).mem he)
          · have := HK.out.2 q hq; omega
end
end Go.Proofs.YthkkelkgfkehlaaGreat

/- The document's forest: Edges, Copy. -/
namespace Go.Proofs.YthkkelkgfkehlaaGreat
open Go.RowKit Classical
set_option maxRecDepth 10000
set_option maxHeartbeats 1600000

theorem treeL_succ (k : Nat) (G : EMap) : treeL (k + 1) G = treeL k G ++ if treeG G (k : Int) then [k] else [] := by
  unfold treeL treeG
  rw [List.range_succ, List.filter_append]
  congr 1
  by_cases h : isTree G k <;> simp [h]
theorem treeL_leG (k : Nat) (G : EMap) : (treeL k G).length ≤ k := by
  have := List.length_filter_le (fun s => decide (isTree G s)) (List.range k)
  rw [List.length_range] at this
  exact this

section
variable {w w' : World} {pr V S : Nat} {v : Value} {l : List RE} {G : EMap}
theorem redges (h : RA w pr V S v l) (hr : Reps G l) : Calls Tryz.prog 16 #[fptr pr] w fun r w' => ∃ u, r = .returned u ∧ RowN w' u (treeL S G) ∧ (∀ q, u.ownBlock = some q → w.heap.size ≤ q) ∧ Fr [] w w' := by
  have hS := h.leS
  have H := Lib.hid h
  have Hv := Lib.hid (rvalid h)
  have HTr := Lib.hid (fun (w' : World) (hf : Fr [] w w') (s : Int) => rtree (h.fr0 hf) s)
  have HTE := Lib.hid (fun s => treeR_eq h.ok hr s)
  clear h hr
  go_enter Tryz.func16, Tryz.ntmps16
  go_wp2_with fail
  refine Hv.out.mono ?_
  rintro _ w ⟨rfl, rfl⟩
  go_wp2_with fail
  clear Hv
  go_loopw [3, 4] (fun u y wr => ∃ k : Nat, k ≤ S ∧ y = .int .i64 k ∧ Hid (Fr [] w wr ∧ ∀ q, u.ownBlock = some q → w.heap.size ≤ q) ∧ RowN wr u (treeL k G)) (fun _ y _ => S - (intOf y).toNat)
  case atStart => exact ⟨0, Nat.zero_le _, rfl, Lib.hid ⟨Fr.refl _ _, fun q e => by cases e⟩, ⟨rfl, .inl ⟨rfl, rfl⟩⟩⟩
  case round =>
    obtain ⟨k, hk, rfl, HK, hown⟩ := hrel
    have hfl := treeL_leG k G
    have hRA := H.out.fr0 HK.out.1
    have c2 := hRA.hd.cell 2
    simp only [List.getElem?_cons_zero, List.getElem?_cons_succ] at c2
    obtain ⟨a8, c8, rfl⟩ := hown.slice
    clear hRA
    by_cases hlt : k < S
    · have hlt' : (k : Int) < S := by omega
      have hw1 : IntKind.i64.wrap ((k : Int) + 1) = ((k + 1 : Nat) : Int) := by rw [show (k : Int) + 1 = ((k + 1 : Nat) : Int) by omega]; exact IntWalk.i64_in _ (by omega)
      have HST := Lib.hid (treeL_succ k G)
      have HQ := HTr.out wr HK.out.1 (k : Int)
      rw [HTE.out] at HQ
      have HQ := Lib.hid HQ
      have HO := Lib.hid hown
      clear hown
      generalize htb : treeG G (k : Int) = tb at *
      clear htb
      generalize treeL k G = us at *
      rename World => wo
      go_wp2_with fail
      refine HQ.out.mono ?_
      rintro _ w5 ⟨rfl, hF5⟩
      have HO5 := Lib.hid (HO.out.fr hF5 (by simp))
      have HF5 := Lib.hid (HK.out.1.trans' hF5)
      have hs5 := hF5.size
      have hs0 := HK.out.1.size
      clear hF5 HQ HO
      cases tb with
      | false =>
        go_wp2_with fail
        go_roundw
        case rel => exact ⟨k + 1, by omega, rfl, Lib.hid ⟨HF5.out, HK.out.2⟩, by rw [HST.out]; simpa using HO5.out⟩
        case measure => simp [intOf]; omega
      | true =>
        have hown2 : (w5.alloc (.cells #[.int .i64 k] 3)).ownsRow 0 3 1 (.slice a8 us.length c8) us.length (encT us) := ownsRow_same HO5.out (fun q hq => Below.heap_alloc _ _ _ (ownsRow_lt HO5.out hq))
        have HO2 := Lib.hid hown2; clear hown2
        go_wp2_with (first | (at_builtin; refine wpList_app1 rfl _ _ 40 rfl 3 (.int .i64 0) 8 Tryz.underlying40 Tryz.info3 rfl (.slice a8 us.length c8) us.length _ rfl HO2.out w5.heap.size (.int .i64 k) rfl (cell_new1 _ _ _ _ rfl) rfl (by omega) (by decide) ?_; intro g' cap' w6 hown6 hgrow6 hg6; have hF6 : Fr (Value.slice a8 us.length c8).ownBlock.toList w5 w6 := ((Fr.refl _ _).alloc _).grown hgrow6 (fun q e => .inl (by simp [e]))) | fail)
        go_roundw
        case rel =>
          have hb : ∀ q ∈ (Value.slice a8 us.length c8).ownBlock.toList, w.heap.size ≤ q := fun q hq => HK.out.2 q (by simpa using hq)
          refine ⟨k + 1, by omega, rfl, Lib.hid ⟨HF5.out.trans hF6 (fun q hq => .inr (hb q hq)), fun q e => ?_⟩, ?_⟩
          · simp only [Value.ownBlock, Option.some.injEq] at e
            subst e
            simp only [World.size_alloc] at hg6
            rcases hg6 with e | e
            · exact HK.out.2 _ e
            · omega
          · rw [HST.out]
            unfold RowN
            simp only [if_true, List.length_append, List.length_cons, List.length_nil]
            simpa [encT] using hown6
        case measure => simp [intOf]; omega
    · obtain rfl : k = S := by omega
      have HO := Lib.hid hown; clear hown
      go_wp2_with fail
      go_ret
      exact ⟨_, rfl, HO.out, HK.out.2, HK.out.1⟩

theorem rowC_one (l : List RE) : ∀ u ∈ rowC l, u.oneCell' = true := by
  intro u hu
  obtain ⟨e, _, he⟩ := List.mem_flatMap.1 hu
  simp [reC] at he
  rcases he with rfl | rfl | rfl | rfl <;> rfl
theorem rcopy36 (h : RA w pr V S v l) : Calls Tryz.prog 12 #[fptr pr] w fun r w' => ∃ pr', r = .returned (fptr pr') ∧ ∃ v', RA w' pr' V S v' l ∧ Fr [] w w' ∧ w.heap.size ≤ pr' ∧ ∀ q, v'.ownBlock = some q → w.heap.size ≤ q := by
  have hV := h.leV
  have hS := h.leS
  have hl := h.len
  obtain ⟨av, cv, rfl⟩ := h.row.slice
  have c1 := h.hd.cell 1
  have c2 := h.hd.cell 2
  have c3 := h.hd.cell 3
  simp only [List.getElem?_cons_zero, List.getElem?_cons_succ] at c1 c2 c3
  have Hv := Lib.hid (rvalid h)
  have H := Lib.hid h
  have HC : Hid (∀ w' : World, Fr [] w w' → w'.cell? ⟨pr, 1, none⟩ = some (.int .i64 V) ∧ w'.cell? ⟨pr, 2, none⟩ = some (.int .i64 S) ∧ w'.cell? ⟨pr, 3, none⟩ = some (.slice av l.length cv)) :=
    Lib.hid (fun w' hf => ⟨hf.cell c1 (by simp), hf.cell c2 (by simp), hf.cell c3 (by simp)⟩)
  have HRL : Hid (∀ w' : World, Fr [] w w' → RowE w' (.slice av l.length cv) l) := Lib.hid (fun w' hf => h.row.fr hf (by simp))
  clear h
  go_enter Tryz.func12, Tryz.ntmps12
  go_wp2_with fail
  refine Hv.out.mono ?_
  rintro _ w ⟨rfl, rfl⟩
  go_wp2_with fail
  clear Hv
  go_region_held3 (fun w' => w'.cell? ⟨pr, 1, none⟩ = some (.int .i64 V) ∧ w'.cell? ⟨pr, 2, none⟩ = some (.int .i64 S) ∧ w'.cell? ⟨pr, 3, none⟩ = some (.slice av l.length cv))
    (first
      | go_keep
      | (exact HC.out _ hfr4)
      | (exact HC.out _ (hfr4.alloc _))
      | (exact HC.out _ ((Fr.refl [] w).alloc _))
      | (exact HC.out _ (((Fr.refl [] w).alloc _).drew)))
    (first
      | (refine step_app_mt (by rfl) _ _ _ (by rfl) 69 (.agg #[.int .i64 0, .int .i64 0, .int .i64 0, .int .i64 0]) 4 32 Tryz.underlying60 Tryz.info69 rfl (by decide) _ (by rfl)
          (by first | (refine (Blk.new _ [] _).drew; done) | exact Blk.new _ [] _)
          (.slice av l.length cv) l.length (rowC l) (by rfl)
          (HRL.out _ (by first | exact ((Fr.refl [] w).alloc _).drew | exact (Fr.refl [] w).alloc _))
          (rowC_one _) (by unfold maxLen; omega) (by omega) ?_; intro v4 w4 hown4 hF4 hq4
         obtain ⟨av4, cv4, rfl⟩ := ownsRow_slice hown4
         have hfr4 : Fr [] w w4 := (by first | (refine ((((Fr.refl [] w).alloc _).drew)).trans hF4 ?_; intro b hb; simp at hb; subst hb; exact .inr (by simp)))))
  go_wp2
  go_ret
  have k4 : ∀ q, (Value.slice av4 l.length cv4).ownBlock = some q → w.heap.size ≤ q ∧ q < w4.heap.size := fun q hq => by
    have h1 := hq4 q hq
    have h2 := ownsRow_lt hown4 hq
    simp only [World.size_alloc, World.size_drew] at h1
    omega
  have hb := Blk.new w4 [.bool true, .int .i64 V, .int .i64 S, .slice av4 l.length cv4] 62
  have hrow : RowE w4 (.slice av4 l.length cv4) l := hown4
  exact ⟨w4.heap.size, rfl, .slice av4 l.length cv4, ⟨hb, hrow.fr ((Fr.refl [] w4).alloc _) (by simp), fun e => Nat.lt_irrefl _ (k4 _ e).2, H.out.ok, hV, hS, hl⟩, hfr4.alloc _, hfr4.size, fun q hq => (k4 q hq).1⟩

/-- Add and Expire, in the words of the forest. -/
theorem radd_all (h : RA w pr V S v l) (hr : Reps G l) (hS : ∀ s e, G s = some e → s < S) (s a b x : Int) :
    Calls Tryz.prog 8 #[fptr pr, .int .i64 s, .int .i64 a, .int .i64 b, .int .i64 x] w fun r w' => r = .returned (.int .i64 (addCode S V G s a b)) ∧
      ∃ v' l', RA w' pr V S v' l' ∧ Reps (addG S V G s a b x) l' ∧ Fr (pr :: v.ownBlock.toList) w w' ∧ ∀ q, v'.ownBlock = some q → v.ownBlock = some q ∨ w.heap.size ≤ q := by
  by_cases h1 : inV S s = true ∧ inV V a = true ∧ inV V b = true
  · obtain ⟨s, rfl, hs⟩ := inV_nat h1.1
    obtain ⟨a, rfl, ha⟩ := inV_nat h1.2.1
    obtain ⟨b, rfl, hb⟩ := inV_nat h1.2.2
    by_cases hab : a = b
    · subst hab
      have e1 : addCode S V G s a a = 9 := by unfold addCode; rw [if_pos h1, if_pos rfl]
      have e2 : addG S V G s a a x = G := by unfold addG; rw [e1, if_neg (by omega)]
      rw [e1, e2]
      refine (radd_loop h s a x hs ha).mono ?_
      rintro _ w' ⟨rfl, rfl⟩
      exact ⟨rfl, v, l, h, hr, Fr.refl _ _, fun q hq => .inl hq⟩
    · have hl1 : (∀ e ∈ l, e.1 ≠ s) → l.length + 1 ≤ S := fun hn => by
        have h2 := reps_add hr hn a b x
        have h3 := len_reps (S := S) (fun t e ht => by
          by_cases e1 : t = s
          · rw [e1]; exact hs
          · rw [updG_other e1] at ht; exact hS t e ht) h2
        have h4 := cntT_le S fun t => (updG G s (some (a, b, x)) t).isSome = true
        unfold lenG at h3
        rw [List.length_append] at h3
        simp at h3
        omega
      refine (radd_row h s a b x hs ha hb hab hl1).mono ?_
      rintro _ w' (⟨rfl, hx, hf⟩ | ⟨rfl, hn, v', k1, k2, k3⟩)
      · have hg : (G s).isSome = true := by
          obtain ⟨⟨t, c, d, y⟩, he, rfl⟩ := hx
          rw [(hr.iff t c d y).2 he]; rfl
        have e1 : addCode S V G s a b = 6 := by unfold addCode; rw [if_pos h1, if_neg (by omega), Int.toNat_natCast, if_pos hg]
        have e2 : addG S V G s a b x = G := by unfold addG; rw [e1, if_neg (by omega)]
        rw [e1, e2]
        exact ⟨rfl, v, l, h.fr0 hf, hr, hf.mono (by simp), fun q hq => .inl hq⟩
      · have hg := (reps_free hr).2 hn
        have e1 : addCode S V G s a b = 0 := by unfold addCode; rw [if_pos h1, if_neg (by omega), Int.toNat_natCast, hg]; rfl
        have e2 : addG S V G s a b x = updG G s (some (a, b, x)) := by unfold addG; rw [e1, if_pos rfl]; simp
        rw [e1, e2]
        exact ⟨rfl, v', _, k1, reps_add hr hn a b x, k2, k3⟩
  · have e1 : addCode S V G s a b = 3 := by unfold addCode; rw [if_neg h1]
    have e2 : addG S V G s a b x = G := by unfold addG; rw [e1, if_neg (by omega)]
    rw [e1, e2]
    refine (radd_range h s a b x h1).mono ?_
    rintro _ w' ⟨rfl, rfl⟩
    exact ⟨rfl, v, l, h, hr, Fr.refl _ _, fun q hq => .inl hq⟩
theorem rexp_all (h : RA w pr V S v l) (hr : Reps G l) :
    Calls Tryz.prog 10 #[fptr pr] w fun r w' => r = .returned (.tuple #[.int .i64 ((fstG G).getD 0 : Nat), .bool (fstG G).isSome]) ∧
      ∃ v' l', RA w' pr V S v' l' ∧ Reps (popG G) l' ∧ Fr [pr] w w' ∧ ∀ q, v'.ownBlock = some q → v.ownBlock = some q ∨ w.heap.size ≤ q := by
  cases l with
  | nil =>
    have hn : fstG G = none := fstG_none fun s => (reps_free hr).2 (by simp)
    refine (rexp_none h).mono ?_
    rintro _ w' ⟨rfl, rfl⟩
    rw [hn]
    exact ⟨rfl, v, [], h, by unfold popG; rw [hn]; exact hr, Fr.refl _ _, fun q hq => .inl hq⟩
  | cons e0 l0 =>
    refine (rexp_some h (by simp)).mono ?_
    rintro _ w' ⟨f, hf, hm, rfl, v', k1, k2, k3⟩
    have hD : ∀ j, (hj : j < (e0 :: l0).length) → (e0 :: l0).getD j d0 = (e0 :: l0)[j] := fun j hj => by rw [List.getD_eq_getElem?_getD, List.getElem?_eq_getElem hj]; rfl
    have hfe := hD f hf
    obtain ⟨p1, p2⟩ := reps_pop hr hf (fun j hj hb => by
      have := bef_no.1 (hm j hj)
      rw [hfe, hD j hj] at this
      exact this hb)
    rw [p1, hfe]
    exact ⟨rfl, v', _, k1, p2, k2, fun q hq => .inr (k3 q hq)⟩
end
end Go.Proofs.YthkkelkgfkehlaaGreat

namespace Go.Proofs.YthkkelkgfkehlaaGreat
open Go.RowKit Classical
set_option maxRecDepth 10000
set_option maxHeartbeats 800000

def Tryz.laysClone_ren : Go.Shelf.Ren := ⟨fun | 41 => 62 | n => n, fun | 22 => 80 | 23 => 86 | 4 => 4 | n => n, fun | n => n⟩
theorem Tryz.laysClone : Go.Proofs.SlLaysE0.n41 Tryz.prog Tryz.laysClone_ren := {
  mixed := by kernel_rfl
  f41 := ⟨Tryz.f62.name, by decide, Tryz.func62.trans (congrArg some (by kernel_rfl))⟩
  t4 := Tryz.underlying4
  a4 := Tryz.isAgg4
  z4 := Tryz.sizeOf4
  v4 := Tryz.zeroValue4
  t22 := Tryz.underlying80
  a22 := Tryz.isAgg80
  z22 := Tryz.sizeOf80
  v22 := Tryz.zeroValue80 }

theorem fv_one (n : Nd) (f : Nat) : (fv n f).oneCell' = true := by
  match f with
  | 0 | 1 | 2 | 3 | 4 | 5 | 6 | 7 => rfl
  | _ + 8 => rfl

theorem clone_w {w : World} {g N cap : Nat} {σ : Tbl} (h : NodesAt w g N σ) (hN : N ≤ 65537) (h0 : 0 < N) :
    Calls Tryz.prog 62 #[.slice (some ⟨g, 0, none⟩) N cap] w fun e w' => ∃ g' cap', e = .returned (.slice (some ⟨g', 0, none⟩) N cap') ∧ N ≤ cap' ∧ NodesAt w' g' N σ ∧ w.heap.size ≤ g' ∧ Fr [] w w' := by
  obtain ⟨i0, hi, hz0, hz1, hz2⟩ := info_parts Tryz.info86
  obtain ⟨arr, ha, hs, hc⟩ := h
  have hl : (arr.toList.take (N * 9)).length = N * 9 := by simp; omega
  have hat : ∀ j u, (arr.toList.take (N * 9))[j]? = some u → j < N * 9 ∧ arr[j]? = some u := by
    intro j u hj
    rw [List.getElem?_take] at hj
    split at hj
    · exact ⟨by assumption, by simpa using hj⟩
    · cases hj
  refine (AnyE.slices_Clone Tryz.laysClone i0 ndv 9 72 hi hz0 hz1 hz2 (by rw [ndv_cells]; rfl) (by decide) Tryz.sizeOf86 g 0 N cap (arr.toList.take (N * 9)) w hl (by unfold maxLen; omega) (by omega) (fun j u hj => by
      have := (hat j u hj).2
      simp [World.cell?, ha, this]) (fun u hu => by
      obtain ⟨j, hj⟩ := List.mem_iff_getElem?.1 hu
      obtain ⟨h1, h2⟩ := hat j u hj
      have := hc (j / 9) (by omega) (j % 9) (Nat.mod_lt _ (by decide))
      rw [show j / 9 * 9 + j % 9 = j by omega, h2] at this
      cases this; exact fv_one _ _)).mono ?_
  rintro _ w' ⟨v, rfl, ⟨_, hv⟩, hn, hB⟩
  rcases hv with ⟨rfl, _⟩ | ⟨g', cap', cur, rfl, hg, hcur, hcap, _, hsz, htk⟩
  · exact absurd rfl hn
  · refine ⟨g', cap', rfl, hcap, ⟨cur, hcur, by omega, fun i hi f hf => ?_⟩, hg, Fr.of_below hB⟩
    rw [← hc i hi f hf]
    have h1 : (cur.toList.take (N * 9))[i * 9 + f]? = cur[i * 9 + f]? := by rw [List.getElem?_take, if_pos (by omega)]; simp
    have h2 : (arr.toList.take (N * 9))[i * 9 + f]? = arr[i * 9 + f]? := by rw [List.getElem?_take, if_pos (by omega)]; simp
    rw [← h1, ← h2, htk]

theorem copy_w {w : World} {pf g n : Nat} {E : Nat → Nat → Prop} {key : Nat → Int} (h : LM w pf g n E key) :
    Calls Tryz.prog 34 #[.pointer (some ⟨pf, 0, none⟩)] w fun e w' => ∃ pf' g', e = .returned (.pointer (some ⟨pf', 0, none⟩)) ∧ LM w' pf' g' n E key ∧ Fr [] w w' ∧ w.heap.size ≤ pf' ∧ w.heap.size ≤ g' := by
  have H := Lib.hid h
  obtain ⟨cap, σ, F, par, d, rt, hL, hF, hE, hk⟩ := h
  have hN := hL.le
  have HR := Lib.hid (And.intro hF (And.intro hE hk)); clear hF hE hk
  have c1 := hL.hd.cell 1
  have c2 := hL.hd.cell 2
  simp only [List.getElem?_cons_zero, List.getElem?_cons_succ] at c1 c2
  have hpf := hL.hd.lt
  have HL := Lib.hid hL
  go_enter Tryz.func34, Tryz.ntmps34
  go_wp2_with fail
  refine (valid_w (hL.hd.cell 0)).mono ?_
  rintro _ w1 ⟨rfl, rfl⟩
  have HC := Lib.hid (clone_w (cap := cap) (hL.nodes.eqv (Eqv.drew w1)) hN (by omega))
  generalize hed : (n : Int) - nc n E = ed at *
  go_wp2
  go_region_held3 (fun w' => w'.cell? ⟨pf, 1, none⟩ = some (.slice (some ⟨g, 0, none⟩) (n + 1) cap) ∧ w'.cell? ⟨pf, 2, none⟩ = some (.int .i64 ed))
    (first
      | go_keep
      | (exact ⟨hF3.cell (by assumption) (by simp), hF3.cell (by assumption) (by simp)⟩))
    (first
      | (go_at_call 62; refine HC.out.mono ?_; rintro e w3 ⟨g', cap', rfl, hcap', hNd', hg', hF3⟩))
  go_wp2
  go_ret
  have hlt := hNd'.lt
  have hsz := hF3.size
  have hsz2 : w1.drew.heap.size = w1.heap.size := rfl
  refine ⟨w3.heap.size, g', rfl, ?_, ((Fr.refl [] w1).drew.trans' hF3).alloc _, by omega, by omega⟩
  show LG _ _ _ _ _ _ ((n : Int) - nc n E)
  rw [hed]
  exact ⟨cap', σ, F, par, d, rt, ⟨Blk.new w3 [_, _, _] 82, hNd'.same (by rw [heap_alloc_old w3 _ hlt]), by omega, hN, hcap'⟩, HR.out.1, HR.out.2.1, HR.out.2.2⟩

end Go.Proofs.YthkkelkgfkehlaaGreat
