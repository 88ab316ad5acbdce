/- The document's arena: New, Alloc, Free. -/
import Derived.Test.YtbegdgnhpklceaaGreatB6
import Derived.Test.YtbegdgnhpklceaaGreatB7
import Derived.Test.YtbegdgnhpklceaaGreatB11
import Derived.Test.YtbegdgnhpklceaaGreatB5
set_option linter.unusedSimpArgs false
set_option linter.unusedVariables false
/- A store in memory. -/
namespace Go.Proofs.YtbegdgnhpklceaaGreat
open Go.RowKit
set_option maxRecDepth 10000

def lvC (e : Lv) : List Value := [.int .i64 e.slot, .int .u64 e.seq, .int .u64 e.u, .int .u64 e.v, .int .i64 e.wt, .int .i64 e.t, .int .i64 e.x]
abbrev lvA (e : Lv) : Value := .agg #[.int .i64 e.slot, .int .u64 e.seq, .int .u64 e.u, .int .u64 e.v, .int .i64 e.wt, .int .i64 e.t, .int .i64 e.x]
def lvZero : Value := .agg #[.int .i64 0, .int .u64 0, .int .u64 0, .int .u64 0, .int .i64 0, .int .i64 0, .int .i64 0]
theorem Tryz.info36 : (Tryz.prog.info? 36).map (fun i => (i.zero, i.size, i.bytes)) = some (some lvZero, 7, 56) := by kernel_rfl
def rowV (l : List Lv) : List Value := l.flatMap lvC
theorem rowV_snoc (l : List Lv) (e : Lv) : rowV (l ++ [e]) = rowV l ++ lvC e := by simp [rowV]
theorem rowV_app (l m : List Lv) : rowV (l ++ m) = rowV l ++ rowV m := by simp [rowV]
theorem rowV_len (l : List Lv) : (rowV l).length = l.length * 7 := by
  induction l with
  | nil => rfl
  | cons a r ih => simp only [rowV, List.flatMap_cons, List.length_append, List.length_cons] at *; rw [ih]; simp [lvC]; omega
theorem rowV_at : ∀ {l : List Lv} {i : Nat} (hi : i < l.length) (j : Nat), j < 7 → (rowV l)[i * 7 + j]? = (lvC l[i])[j]?
  | e :: l, 0, _, j, hj => by
    show (lvC e ++ rowV l)[0 * 7 + j]? = (lvC e)[j]?
    rw [List.getElem?_append_left (by simp [lvC]; omega)]; congr 1; omega
  | e :: l, i + 1, hi, j, hj => by
    show (lvC e ++ rowV l)[(i + 1) * 7 + j]? = _
    rw [List.getElem?_append_right (by simp [lvC]; omega)]
    have := rowV_at (l := l) (i := i) (by simpa using hi) j hj
    rw [show (i + 1) * 7 + j - (lvC e).length = i * 7 + j by simp [lvC]; omega, this]
    simp
theorem rowV_one (l : List Lv) : ∀ u ∈ rowV l, u.oneCell' = true := by
  intro u hu
  obtain ⟨e, _, he⟩ := List.mem_flatMap.1 hu
  simp [lvC] at he
  rcases he with rfl | rfl | rfl | rfl | rfl | rfl | rfl <;> rfl

theorem ownsRow_ltS {w : World} {base : Nat} {e : TypeId} {size : Nat} {v : Value} {n : Nat} {xs : List Value} (h : w.ownsRow base e size v n xs) {q : Nat} (hq : v.ownBlock = some q) : q < w.heap.size := by
  rcases h.2 with ⟨rfl, _⟩ | ⟨g, cap, cur, rfl, _, hh, _⟩
  · cases hq
  · simp [Value.ownBlock] at hq; subst hq; exact (Array.getElem?_eq_some_iff.1 hh).1

/-- A slice reads the edges l. -/
def RowV (w : World) (v : Value) (l : List Lv) : Prop := w.ownsRow 0 36 7 v l.length (rowV l)
section
variable {w w' : World} {v : Value} {l : List Lv}
theorem RowV.fr {S : List Nat} (h : RowV w v l) (hf : Fr S w w') (hs : ∀ q, v.ownBlock = some q → q ∉ S) : RowV w' v l :=
  ownsRow_same h (fun q hq => hf.keep q (ownsRow_ltS h hq) (hs q hq))
theorem RowV.fr0 (h : RowV w v l) (hf : Fr [] w w') : RowV w' v l := h.fr hf (by simp)
theorem RowV.slice (h : RowV w v l) : ∃ a cap, v = .slice a l.length cap := ownsRow_slice h
theorem RowV.nil (w : World) : RowV w (.slice none 0 0) [] := ⟨rfl, .inl ⟨rfl, rfl⟩⟩
theorem RowV.lt (h : RowV w v l) {q : Nat} (hq : v.ownBlock = some q) : q < w.heap.size := ownsRow_ltS h hq
/-- The cells of one edge in a row. -/
def LvAt (w : World) (b o : Nat) (e : Lv) : Prop :=
  w.cell? ⟨b, o, none⟩ = some (.int .i64 e.slot) ∧ w.cell? ⟨b, o + 1, none⟩ = some (.int .u64 e.seq) ∧ w.cell? ⟨b, o + 2, none⟩ = some (.int .u64 e.u) ∧ w.cell? ⟨b, o + 3, none⟩ = some (.int .u64 e.v) ∧
    w.cell? ⟨b, o + 4, none⟩ = some (.int .i64 e.wt) ∧ w.cell? ⟨b, o + 5, none⟩ = some (.int .i64 e.t) ∧ w.cell? ⟨b, o + 6, none⟩ = some (.int .i64 e.x)
theorem RowV.at (h : RowV w v l) {i : Nat} (hi : i < l.length) : ∃ b cap, v = .slice (some ⟨b, 0, none⟩) l.length cap ∧ l.length ≤ cap ∧ b < w.heap.size ∧ (∀ j, w.frozen? ⟨b, j, none⟩ = false) ∧ LvAt w b (i * 7) l[i] := by
  obtain ⟨h1, h2⟩ := h
  rcases h2 with ⟨rfl, h0⟩ | ⟨g, cap, cur, rfl, _, hh, hn, hm, hsz, hxs⟩
  · omega
  · have key : ∀ j, j < 7 → w.cell? ⟨g, i * 7 + j, none⟩ = (lvC l[i])[j]? := by
      intro j hj
      rw [← rowV_at hi j hj, ← hxs, List.getElem?_take, if_pos (by omega)]
      simp [World.cell?, hh]
    exact ⟨g, cap, rfl, hn, (Array.getElem?_eq_some_iff.1 hh).1, fun j => by simp [World.frozen?, hh], key 0 (by omega), key 1 (by omega), key 2 (by omega), key 3 (by omega), key 4 (by omega), key 5 (by omega), key 6 (by omega)⟩
theorem LvAt.fr {S : List Nat} {b o : Nat} {e : Lv} (h : LvAt w b o e) (hf : Fr S w w') (hb : b ∉ S) : LvAt w' b o e := by
  obtain ⟨h0, h1, h2, h3, h4, h5, h6⟩ := h
  exact ⟨hf.cell h0 hb, hf.cell h1 hb, hf.cell h2 hb, hf.cell h3 hb, hf.cell h4 hb, hf.cell h5 hb, hf.cell h6 hb⟩
theorem Blk.lvAt {b : Nat} {t : TypeId} {e : Lv} (h : Blk w b t (lvC e)) : LvAt w b 0 e := ⟨h.cell 0, h.cell 1, h.cell 2, h.cell 3, h.cell 4, h.cell 5, h.cell 6⟩
end

/-- Seven cells are stored one after the other. -/
def put7 (w : World) (b o : Nat) (e : Lv) : World :=
  ((((((w.setCell ⟨b, o, none⟩ (.int .i64 e.slot)).setCell ⟨b, o + 1, none⟩ (.int .u64 e.seq)).setCell ⟨b, o + 2, none⟩ (.int .u64 e.u)).setCell ⟨b, o + 3, none⟩ (.int .u64 e.v)).setCell ⟨b, o + 4, none⟩ (.int .i64 e.wt)).setCell ⟨b, o + 5, none⟩ (.int .i64 e.t)).setCell ⟨b, o + 6, none⟩ (.int .i64 e.x)
theorem set7_row : ∀ {l : List Lv} {i : Nat} (_ : i < l.length) (e : Lv),
    ((((((((rowV l).set (i * 7) (.int .i64 e.slot)).set (i * 7 + 1) (.int .u64 e.seq)).set (i * 7 + 2) (.int .u64 e.u)).set (i * 7 + 3) (.int .u64 e.v)).set (i * 7 + 4) (.int .i64 e.wt)).set (i * 7 + 5) (.int .i64 e.t)).set (i * 7 + 6) (.int .i64 e.x)) = rowV (l.set i e)
  | a :: l, 0, _, e => by simp [rowV, lvC, List.set_cons_succ]
  | a :: l, i + 1, hi, e => by
    have ih := set7_row (l := l) (i := i) (by simpa using hi) e
    have hs : ∀ (xs : List Value) (k : Nat) (u : Value), (lvC a ++ xs).set (k + 7) u = lvC a ++ xs.set k u := fun xs k u => by
      rw [List.set_append_right _ _ (by simp [lvC])]; simp [lvC]
    show ((((((((lvC a ++ rowV l).set _ _).set _ _).set _ _).set _ _).set _ _).set _ _).set _ _) = lvC a ++ rowV (l.set i e)
    rw [← ih, show (i + 1) * 7 = i * 7 + 7 by omega, hs, show i * 7 + 7 + 1 = i * 7 + 1 + 7 by omega, hs, show i * 7 + 7 + 2 = i * 7 + 2 + 7 by omega, hs, show i * 7 + 7 + 3 = i * 7 + 3 + 7 by omega, hs,
      show i * 7 + 7 + 4 = i * 7 + 4 + 7 by omega, hs, show i * 7 + 7 + 5 = i * 7 + 5 + 7 by omega, hs, show i * 7 + 7 + 6 = i * 7 + 6 + 7 by omega, hs]
theorem ownsRow_setK {w : World} {e : TypeId} {size g n cap i : Nat} {xs : List Value} (h : w.ownsRow 0 e size (.slice (some ⟨g, 0, none⟩) n cap) n xs) (u : Value) :
    (w.setCell ⟨g, i, none⟩ u).ownsRow 0 e size (.slice (some ⟨g, 0, none⟩) n cap) n (xs.set i u) := by
  obtain ⟨h1, h2⟩ := h
  refine ⟨by simpa using h1, ?_⟩
  rcases h2 with ⟨h2, _⟩ | ⟨g', cap', cur, e1, _, hh, hn, hm, hsz, hxs⟩
  · cases h2
  · simp only [Value.slice.injEq, Option.some.injEq, Addr.mk.injEq, and_true, true_and] at e1
    obtain ⟨rfl, rfl⟩ := e1
    refine .inr ⟨g, cap, cur.setIfInBounds i u, rfl, Nat.zero_le _, ?_, hn, hm, by simpa using hsz, ?_⟩
    · simp only [World.setCell, Array.getElem?_modify]
      simp [hh]
    · rw [← hxs, Array.toList_setIfInBounds, List.take_set]
theorem RowV.set {w : World} {g cap : Nat} {l : List Lv} (h : RowV w (.slice (some ⟨g, 0, none⟩) l.length cap) l) {i : Nat} (hi : i < l.length) (e : Lv) : RowV (put7 w g (i * 7) e) (.slice (some ⟨g, 0, none⟩) l.length cap) (l.set i e) := by
  unfold RowV at *
  rw [List.length_set, ← set7_row hi]
  exact ownsRow_setK (ownsRow_setK (ownsRow_setK (ownsRow_setK (ownsRow_setK (ownsRow_setK (ownsRow_setK h _) _) _) _) _) _) _
theorem Fr.put7 {S : List Nat} {w w' : World} (h : Fr S w w') (b o : Nat) (e : Lv) (hb : b ∈ S ∨ w.heap.size ≤ b) : Fr S w (put7 w' b o e) :=
  ((((((h.setCell _ _ hb).setCell _ _ hb).setCell _ _ hb).setCell _ _ hb).setCell _ _ hb).setCell _ _ hb).setCell _ _ hb

/-- A slice reads the numbers p. -/
def RowI (w : World) (v : Value) (p : List Nat) : Prop := w.ownsRow 0 3 1 v p.length (encN p)
section
variable {w w' : World} {v : Value} {p : List Nat}
theorem RowI.fr {S : List Nat} (h : RowI w v p) (hf : Fr S w w') (hs : ∀ q, v.ownBlock = some q → q ∉ S) : RowI w' v p :=
  ownsRow_same h (fun q hq => hf.keep q (ownsRow_ltS h hq) (hs q hq))
theorem RowI.fr0 (h : RowI w v p) (hf : Fr [] w w') : RowI w' v p := h.fr hf (by simp)
theorem RowI.slice (h : RowI w v p) : ∃ a cap, v = .slice a p.length cap := ownsRow_slice h
theorem RowI.nil (w : World) : RowI w (.slice none 0 0) [] := ⟨rfl, .inl ⟨rfl, rfl⟩⟩
theorem RowI.lt (h : RowI w v p) {q : Nat} (hq : v.ownBlock = some q) : q < w.heap.size := ownsRow_ltS h hq
theorem RowI.at (h : RowI w v p) {i : Nat} (hi : i < p.length) : ∃ b cap, v = .slice (some ⟨b, 0, none⟩) p.length cap ∧ b < w.heap.size ∧ w.cell? ⟨b, i, none⟩ = some (.int .i64 (p[i]'hi)) := by
  obtain ⟨b, cap, e, _, h2, h3, _⟩ := ownsRow_at h hi
  exact ⟨b, cap, e, h2, h3.trans (by simp [encN, hi])⟩
end

def okS : Value → Bool
  | .slice _ _ _ => true
  | _ => false
abbrev nilS : Value := .slice none 0 0
def updF (f : Nat → List Nat) (a : Nat) (l : List Nat) : Nat → List Nat := fun x => if x = a then l else f x
theorem updF_same (f : Nat → List Nat) (a : Nat) (l : List Nat) : updF f a l a = l := by simp [updF]
theorem updF_other {f : Nat → List Nat} {a x : Nat} {l : List Nat} (h : x ≠ a) : updF f a l x = f x := by simp [updF, h]
abbrev U64 : Nat := 18446744073709551616
/-- The map from vertices to the slots of their edges, each list a row of its own; the rows lie among the blocks lb. -/
structure IncI (w : World) (mb : Nat) (iv : Int → Option Value) (f : Nat → List Nat) (n : Nat) (lb : List Nat) : Prop where
  im : IMap Tryz.prog 22 .u64 okS w mb iv n
  nm : mb ∉ lb
  lt : ∀ b ∈ lb, b < w.heap.size
  row : ∀ id : Nat, id < U64 → ((iv id).isSome = true ↔ f id ≠ []) ∧ RowI w ((iv id).getD nilS) (f id) ∧ ∀ q, ((iv id).getD nilS).ownBlock = some q → q ∈ lb
  inj : ∀ (id id' q : Nat), id < U64 → id' < U64 → ((iv id).getD nilS).ownBlock = some q → ((iv id').getD nilS).ownBlock = some q → id = id'
def IncAt (w : World) (mb : Nat) (f : Nat → List Nat) (n : Nat) (lb : List Nat) : Prop := ∃ iv, IncI w mb iv f n lb
theorem IncI.fr {w w' : World} {mb n : Nat} {iv : Int → Option Value} {f : Nat → List Nat} {lb S : List Nat} (h : IncI w mb iv f n lb) (hf : Fr S w w') (h1 : mb ∉ S) (h2 : ∀ b ∈ lb, b ∉ S) : IncI w' mb iv f n lb :=
  ⟨h.im.same (hf.keep mb h.im.lt h1), h.nm, fun b hb => Nat.lt_of_lt_of_le (h.lt b hb) hf.size, fun id hid => ⟨(h.row id hid).1, (h.row id hid).2.1.fr hf (fun q hq => h2 q ((h.row id hid).2.2 q hq)), (h.row id hid).2.2⟩, h.inj⟩
theorem IncI.set {w w1 w2 : World} {mb n n2 : Nat} {iv : Int → Option Value} {f : Nat → List Nat} {lb : List Nat} (h : IncI w mb iv f n lb) {id : Nat} (hid : id < U64) {v1 : Value} {l1 : List Nat} (h1 : RowI w1 v1 l1) (hne : l1 ≠ [])
    (hF : Fr ((iv id).getD nilS).ownBlock.toList w w1) (hq : ∀ q, v1.ownBlock = some q → ((iv id).getD nilS).ownBlock = some q ∨ w.heap.size ≤ q)
    (hI : IMap Tryz.prog 22 .u64 okS w2 mb (updM iv id (some v1)) n2) (hF2 : Fr [mb] w1 w2) : IncI w2 mb (updM iv id (some v1)) (updF f id l1) n2 (lb ++ v1.ownBlock.toList) := by
  have hml := h.im.lt
  have hs1 := hF.size
  have hs2 := hF2.size
  have hqm : ∀ q, v1.ownBlock = some q → q ≠ mb := fun q hqq e => by
    subst e
    rcases hq q hqq with e | e
    · exact h.nm ((h.row id hid).2.2 q e)
    · omega
  have hother : ∀ (x : Nat), x < U64 → x ≠ id → ∀ q, ((iv x).getD nilS).ownBlock = some q → q ∉ ((iv id).getD nilS).ownBlock.toList ∧ q ≠ mb := fun x hx hxn q hqq =>
    ⟨fun hm => hxn (h.inj x id q hx hid hqq (by simpa using hm)), fun e => h.nm (e ▸ (h.row x hx).2.2 q hqq)⟩
  refine ⟨hI, fun hm => ?_, fun b hb => ?_, fun x hx => ?_, fun x y q hx hy hxq hyq => ?_⟩
  · rcases List.mem_append.1 hm with hm | hm
    · exact h.nm hm
    · exact hqm mb (by simpa using hm) rfl
  · rcases List.mem_append.1 hb with hb | hb
    · have := h.lt b hb; omega
    · have := h1.lt (by simpa using hb); omega
  · by_cases e : x = id
    · subst e
      rw [updM_same, updF_same]
      refine ⟨by simp [hne], h1.fr hF2 (fun q hqq hm => ?_), fun q hqq => List.mem_append.2 (.inr (by simpa using hqq))⟩
      exact hqm q hqq (by simpa using hm)
    · rw [updM_other (by omega), updF_other e]
      obtain ⟨a1, a2, a3⟩ := h.row x hx
      exact ⟨a1, (a2.fr hF (fun q hqq => (hother x hx e q hqq).1)).fr hF2 (fun q hqq hm => (hother x hx e q hqq).2 (by simpa using hm)), fun q hqq => List.mem_append.2 (.inl (a3 q hqq))⟩
  · by_cases ex : x = id
    · by_cases ey : y = id
      · rw [ex, ey]
      · subst ex
        rw [updM_same] at hxq
        rw [updM_other (by omega)] at hyq
        rcases hq q hxq with e | e
        · exact (h.inj y x q hy hx hyq e).symm
        · have := h.lt q ((h.row y hy).2.2 q hyq); omega
    · rw [updM_other (by omega)] at hxq
      by_cases ey : y = id
      · subst ey
        rw [updM_same] at hyq
        rcases hq q hyq with e | e
        · exact h.inj x y q hx hy hxq e
        · have := h.lt q ((h.row x hx).2.2 q hxq); omega
      · rw [updM_other (by omega)] at hyq
        exact h.inj x y q hx hy hxq hyq
theorem IncI.del {w w1 w2 : World} {mb n n2 : Nat} {iv : Int → Option Value} {f : Nat → List Nat} {lb : List Nat} (h : IncI w mb iv f n lb) {id : Nat} (hid : id < U64)
    (hF : Fr ((iv id).getD nilS).ownBlock.toList w w1) (hI : IMap Tryz.prog 22 .u64 okS w2 mb (updM iv id none) n2) (hF2 : Fr [mb] w1 w2) : IncI w2 mb (updM iv id none) (updF f id []) n2 lb := by
  have hs1 := hF.size
  have hs2 := hF2.size
  have hother : ∀ (x : Nat), x < U64 → x ≠ id → ∀ q, ((iv x).getD nilS).ownBlock = some q → q ∉ ((iv id).getD nilS).ownBlock.toList ∧ q ≠ mb := fun x hx hxn q hqq =>
    ⟨fun hm => hxn (h.inj x id q hx hid hqq (by simpa using hm)), fun e => h.nm (e ▸ (h.row x hx).2.2 q hqq)⟩
  refine ⟨hI, h.nm, fun b hb => ?_, fun x hx => ?_, fun x y q hx hy hxq hyq => ?_⟩
  · have := h.lt b hb; omega
  · by_cases e : x = id
    · subst e
      rw [updM_same, updF_same]
      exact ⟨by simp, RowI.nil _, fun q hqq => by cases hqq⟩
    · rw [updM_other (by omega), updF_other e]
      obtain ⟨a1, a2, a3⟩ := h.row x hx
      exact ⟨a1, (a2.fr hF (fun q hqq => (hother x hx e q hqq).1)).fr hF2 (fun q hqq hm => (hother x hx e q hqq).2 (by simpa using hm)), a3⟩
  · by_cases ex : x = id
    · subst ex; rw [updM_same] at hxq; cases hxq
    · rw [updM_other (by omega)] at hxq
      by_cases ey : y = id
      · subst ey; rw [updM_same] at hyq; cases hyq
      · rw [updM_other (by omega)] at hyq
        exact h.inj x y q hx hy hxq hyq
theorem IncAt.fr {w w' : World} {mb n : Nat} {f : Nat → List Nat} {lb S : List Nat} (h : IncAt w mb f n lb) (hf : Fr S w w') (h1 : mb ∉ S) (h2 : ∀ b ∈ lb, b ∉ S) : IncAt w' mb f n lb := by
  obtain ⟨iv, h⟩ := h
  exact ⟨iv, h.fr hf h1 h2⟩
theorem wf_u64 {id : Nat} (h : id < U64) : (Lit.int .u64 (id : Int)).wf = true := by
  show (decide ((0 : Int) ≤ id) && decide ((id : Int) ≤ 18446744073709551615)) = true
  have h : id < 18446744073709551616 := h
  simp; omega
theorem u64_of_wf {a : Int} (h : (Lit.int .u64 a).wf = true) : ∃ id : Nat, a = id ∧ id < U64 := by
  have h : (decide ((0 : Int) ≤ a) && decide (a ≤ 18446744073709551615)) = true := h
  simp only [Bool.and_eq_true, decide_eq_true_eq] at h
  exact ⟨a.toNat, by omega, show a.toNat < 18446744073709551616 by omega⟩

/-- The blocks of a store, each of one kind. -/
structure Cls (c : Nat → Nat) (ps mb : Nat) (vl : Value) (la lt lb : List Nat) : Prop where
  p : c ps = 0
  m : c mb = 1
  a : ∀ b ∈ la, c b = 2
  t : ∀ b ∈ lt, c b = 3
  l : ∀ q, vl.ownBlock = some q → c q = 4
  b : ∀ b ∈ lb, c b = 5

structure StB (w : World) (ps pa pt mb n : Nat) (vl : Value) (s : Sm) (la lt lb : List Nat) (c : Nat → Nat) : Prop where
  hd : Blk w ps 73 [.int .i64 s.V, .int .i64 s.E, .int .u64 s.last, ptr pa, ptr pt, vl, .map (some mb)]
  ar : ArenaAt w pa s.A la
  tb : TabM w pt s.M lt
  lv : RowV w vl ((List.range n).map (liveAt s.L))
  inc : IncAt w mb (incL s.L) s.M.L.length lb
  sn : ∀ e ∈ s.L, e.slot < n
  nE : n ≤ s.E
  ok : s.Ok
  cls : Cls c ps mb vl la lt lb

def stK (ps mb : Nat) (vl : Value) (la lt lb : List Nat) : List Nat := ps :: mb :: (la ++ lt ++ vl.ownBlock.toList ++ lb)
def StoreAt (w : World) (ps : Nat) (s : Sm) (K : List Nat) : Prop := ∃ pa pt mb n vl la lt lb c, StB w ps pa pt mb n vl s la lt lb c ∧ K = stK ps mb vl la lt lb
theorem IncAt.ltm {w : World} {mb n : Nat} {f : Nat → List Nat} {lb : List Nat} (h : IncAt w mb f n lb) : mb < w.heap.size := by
  obtain ⟨iv, h⟩ := h; exact h.im.lt
theorem IncAt.ltb {w : World} {mb n : Nat} {f : Nat → List Nat} {lb : List Nat} (h : IncAt w mb f n lb) : ∀ b ∈ lb, b < w.heap.size := by
  obtain ⟨iv, h⟩ := h; exact h.lt
section
variable {w w' : World} {ps pa pt mb n : Nat} {vl : Value} {s : Sm} {la lT lb K S : List Nat} {c : Nat → Nat}
theorem StB.fr (h : StB w ps pa pt mb n vl s la lT lb c) (hf : Fr S w w') (hd : ∀ q ∈ stK ps mb vl la lT lb, q ∉ S) : StB w' ps pa pt mb n vl s la lT lb c :=
  ⟨hf.blk h.hd (hd _ (by simp [stK])), h.ar.fr hf (fun q hq => hd q (by simp [stK, hq])), h.tb.fr hf (fun q hq => hd q (by simp [stK, hq])), h.lv.fr hf (fun q hq => hd q (by simp [stK, hq])),
    h.inc.fr hf (hd _ (by simp [stK])) (fun q hq => hd q (by simp [stK, hq])), h.sn, h.nE, h.ok, h.cls⟩
theorem StB.lt (h : StB w ps pa pt mb n vl s la lT lb c) : ∀ q ∈ stK ps mb vl la lT lb, q < w.heap.size := by
  intro q hq
  simp only [stK, List.mem_cons, List.mem_append, Option.mem_toList] at hq
  rcases hq with rfl | rfl | ((hq | hq) | hq) | hq
  · exact h.hd.lt
  · exact h.inc.ltm
  · exact h.ar.lt q hq
  · exact h.tb.lt q hq
  · exact h.lv.lt hq
  · exact h.inc.ltb q hq
theorem StoreAt.fr (h : StoreAt w ps s K) (hf : Fr S w w') (hd : ∀ q ∈ K, q ∉ S) : StoreAt w' ps s K := by
  obtain ⟨pa, pt, mb, n, vl, la, lt, lb, c, h, rfl⟩ := h
  exact ⟨pa, pt, mb, n, vl, la, lt, lb, c, h.fr hf hd, rfl⟩
theorem StoreAt.fr0 (h : StoreAt w ps s K) (hf : Fr [] w w') : StoreAt w' ps s K := h.fr hf (by simp)
theorem StoreAt.lt (h : StoreAt w ps s K) : ∀ q ∈ K, q < w.heap.size := by
  obtain ⟨pa, pt, mb, n, vl, la, lt, lb, c, h, rfl⟩ := h; exact h.lt
theorem StoreAt.ok (h : StoreAt w ps s K) : s.Ok := by
  obtain ⟨pa, pt, mb, n, vl, la, lt, lb, c, h, rfl⟩ := h; exact h.ok
end
end Go.Proofs.YtbegdgnhpklceaaGreat

/- The document's arena over the same plain model: what is in use, how often each slot was allocated, what was returned. -/
namespace Go.Proofs.YtbegdgnhpklceaaGreat
open Go.RowKit
set_option maxRecDepth 10000
set_option maxHeartbeats 800000

def Ar.usedB (A : Ar) (i : Nat) : Bool := decide (i < A.begun) && !A.free.contains i
theorem Ar.usedB_iff {A : Ar} {i : Nat} : A.usedB i = true ↔ A.isUsed i := by simp [Ar.usedB, Ar.isUsed]
def useL (A : Ar) : List Value := (List.range A.slots).map fun i => .bool (A.usedB i)
theorem useL_one (A : Ar) : ∀ u ∈ useL A, u.oneCell' = true := by
  intro u hu; obtain ⟨i, _, rfl⟩ := List.mem_map.1 hu; rfl
theorem useL_len (A : Ar) : (useL A).length = A.slots := by simp [useL]
theorem useL_at {A : Ar} {i : Nat} (hi : i < A.slots) : (useL A)[i]? = some (.bool (A.usedB i)) := by simp [useL, hi]
theorem useL_set {A B : Ar} {i : Nat} {b : Bool} (hs : B.slots = A.slots) (h : ∀ j, B.usedB j = if j = i then b else A.usedB j) : (useL A).set i (.bool b) = useL B := by
  apply List.ext_getElem?
  intro j
  rw [List.getElem?_set, useL_len]
  by_cases hj : j < A.slots
  · rw [useL_at hj, useL_at (by omega), h]
    by_cases e : i = j
    · subst e; simp [hj]
    · rw [if_neg e, if_neg (Ne.symm e)]
  · have h1 : (useL A)[j]? = none := List.getElem?_eq_none (by rw [useL_len]; omega)
    have h2 : (useL B)[j]? = none := List.getElem?_eq_none (by rw [useL_len]; omega)
    rw [h1, h2]
    by_cases e : i = j
    · subst e; simp [hj]
    · simp [e]
theorem Ar.usedB_alloc {A : Ar} {i : Nat} (h : A.ok) (hi : A.next = some i) (j : Nat) : A.alloc.usedB j = if j = i then true else A.usedB j := by
  rw [Bool.eq_iff_iff, Ar.usedB_iff]
  obtain ⟨s, b, f⟩ := A
  have h1 := h.lt; have h2 := h.nd
  cases f with
  | nil =>
    have : b < s ∧ i = b := by
      unfold Ar.next at hi
      simp only at hi
      split at hi
      · exact ⟨by assumption, (Option.some.inj hi).symm⟩
      · cases hi
    obtain ⟨_, rfl⟩ := this
    simp only [Ar.alloc, Ar.isUsed, Ar.usedB]
    by_cases e : j = i
    · simp [e]
    · simp [e]; omega
  | cons k r =>
    obtain rfl : i = k := (Option.some.inj hi).symm
    simp only [List.nodup_cons] at h2
    simp only [Ar.alloc, Ar.isUsed, Ar.usedB]
    by_cases e : j = i
    · subst e; simp [h2.1]; exact h1 j (by simp)
    · simp [e]
theorem Ar.usedB_put {A : Ar} {i : Nat} (j : Nat) : (A.put i).usedB j = if j = i then false else A.usedB j := by
  rw [Bool.eq_iff_iff, Ar.usedB_iff]
  simp only [Ar.put, Ar.isUsed, Ar.usedB]
  by_cases e : j = i
  · simp [e]
  · simp [e]
theorem Ar.next_cases {A : Ar} {i : Nat} (hi : A.next = some i) : (∃ r, A.free = i :: r ∧ A.alloc = { A with free := r }) ∨ (A.free = [] ∧ i = A.begun ∧ A.begun < A.slots ∧ A.alloc = { A with begun := A.begun + 1 }) := by
  obtain ⟨s, b, f⟩ := A
  cases f with
  | nil =>
    unfold Ar.next at hi
    simp only at hi
    split at hi
    · exact .inr ⟨rfl, (Option.some.inj hi).symm, by assumption, rfl⟩
    · cases hi
  | cons k r => exact .inl ⟨r, by rw [← Option.some.inj hi], rfl⟩
theorem Ar.next_lt {A : Ar} (h : A.ok) {i : Nat} (hi : A.next = some i) : i < A.slots := by
  rcases Ar.next_cases hi with ⟨r, h1, _⟩ | ⟨_, rfl, h1, _⟩
  · have := h.lt i (by rw [h1]; simp); have := h.hb; omega
  · exact h1

/-- How often each slot was allocated. -/
structure Cnt (A : Ar) (c : List Nat) (n : Nat) : Prop where
  len : c.length = A.slots
  zero : ∀ i, i < A.slots → (c.getD i 0 = 0 ↔ A.begun ≤ i)
  le : ∀ x ∈ c, x ≤ n
theorem Cnt.get {A : Ar} {c : List Nat} {n i : Nat} (h : Cnt A c n) (hi : i < A.slots) : c[i]? = some (c.getD i 0) ∧ c.getD i 0 ≤ n := by
  have hl : i < c.length := by rw [h.len]; exact hi
  have e : c[i]? = some (c[i]'hl) := List.getElem?_eq_getElem hl
  have e2 : c.getD i 0 = c[i]'hl := by simp [List.getD, e]
  rw [e2]
  exact ⟨e, h.le _ (List.getElem_mem hl)⟩
theorem Cnt.new (slots : Nat) : Cnt (Ar.new slots) (List.replicate slots 0) 0 :=
  ⟨by simp [Ar.new], fun i hi => by simp [Ar.new, List.getD] at *; simp [List.getElem?_replicate, hi], fun x hx => by rw [(List.mem_replicate.1 hx).2]; exact Nat.le_refl _⟩
theorem Cnt.mono {A : Ar} {c : List Nat} {n m : Nat} (h : Cnt A c n) (hm : n ≤ m) : Cnt A c m := ⟨h.len, h.zero, fun x hx => Nat.le_trans (h.le x hx) hm⟩
theorem Cnt.alloc {A : Ar} {c : List Nat} {n i : Nat} (h : Cnt A c n) (hok : A.ok) (hi : A.next = some i) : Cnt A.alloc (c.set i (c.getD i 0 + 1)) (n + 1) := by
  have hlt := Ar.next_lt hok hi
  have hs : A.alloc.slots = A.slots := by unfold Ar.alloc; cases A.free <;> rfl
  refine ⟨by rw [List.length_set, hs]; exact h.len, fun j hj => ?_, fun x hx => ?_⟩
  · rw [hs] at hj
    have hlj : j < c.length := by rw [h.len]; exact hj
    have hget : (c.set i (c.getD i 0 + 1)).getD j 0 = if j = i then c.getD i 0 + 1 else c.getD j 0 := by
      simp only [List.getD, List.getElem?_set]
      by_cases e : i = j
      · subst e; simp [hlj]
      · rw [if_neg e, if_neg (Ne.symm e)]
    rw [hget]
    rcases Ar.next_cases hi with ⟨r, h1, h2⟩ | ⟨h1, h2, h3, h4⟩
    · have hib := hok.lt i (by rw [h1]; simp)
      rw [h2]
      show _ ↔ A.begun ≤ j
      by_cases e : j = i
      · subst e; rw [if_pos rfl]; omega
      · rw [if_neg e]; exact h.zero j hj
    · rw [h4]
      show _ ↔ A.begun + 1 ≤ j
      by_cases e : j = i
      · subst e; rw [if_pos rfl]; omega
      · rw [if_neg e, h.zero j hj]; omega
  · obtain ⟨k, hk, rfl⟩ := List.getElem_of_mem hx
    rw [List.getElem_set]
    split
    · have := (h.get hlt).2; omega
    · have := h.le _ (List.getElem_mem (by simpa using hk)); omega
theorem Cnt.put {A : Ar} {c : List Nat} {n i : Nat} (h : Cnt A c n) : Cnt (A.put i) c n := ⟨h.len, h.zero, h.le⟩

structure RAr0 (w : World) (pr : Nat) (vU vC vR : Value) (m : Nat) (us : List Value) (c fl : List Nat) : Prop where
  hd : Blk w pr 112 [.bool true, .int .i64 m, vU, vC, vR]
  use : w.ownsRow 0 4 1 vU m us
  cnt : w.ownsRow 0 22 1 vC m (encId c)
  ret : w.ownsRow 0 3 1 vR fl.length (encN fl.reverse)
  aU : vU.ownBlock ≠ some pr
  aC : vC.ownBlock ≠ some pr
  aR : vR.ownBlock ≠ some pr
  aUC : ∀ q, vU.ownBlock = some q → vC.ownBlock ≠ some q
  aUR : ∀ q, vU.ownBlock = some q → vR.ownBlock ≠ some q
  aCR : ∀ q, vC.ownBlock = some q → vR.ownBlock ≠ some q
/-- The blocks of the document's arena. -/
def rAB (pr : Nat) (vU vC vR : Value) : List Nat := pr :: (vU.ownBlock.toList ++ (vC.ownBlock.toList ++ vR.ownBlock.toList))
section
variable {w w' : World} {pr m : Nat} {vU vC vR : Value} {us : List Value} {c fl : List Nat}
theorem RAr0.fr {S : List Nat} (h : RAr0 w pr vU vC vR m us c fl) (hf : Fr S w w') (hs : ∀ q ∈ rAB pr vU vC vR, q ∉ S) : RAr0 w' pr vU vC vR m us c fl :=
  ⟨hf.blk h.hd (hs pr (by simp [rAB])), ownsRow_same h.use (fun q hq => hf.keep q (h.use.lt q hq).2 (hs q (by simp [rAB, hq]))), ownsRow_same h.cnt (fun q hq => hf.keep q (h.cnt.lt q hq).2 (hs q (by simp [rAB, hq]))),
    ownsRow_same h.ret (fun q hq => hf.keep q (h.ret.lt q hq).2 (hs q (by simp [rAB, hq]))), h.aU, h.aC, h.aR, h.aUC, h.aUR, h.aCR⟩
theorem RAr0.fr0 (h : RAr0 w pr vU vC vR m us c fl) (hf : Fr [] w w') : RAr0 w' pr vU vC vR m us c fl := h.fr hf (by simp)
theorem RAr0.lt (h : RAr0 w pr vU vC vR m us c fl) : ∀ q ∈ rAB pr vU vC vR, q < w.heap.size := by
  intro q hq
  simp only [rAB, List.mem_cons, List.mem_append, Option.mem_toList] at hq
  rcases hq with rfl | hq | hq | hq
  · exact h.hd.lt
  · exact (h.use.lt q hq).2
  · exact (h.cnt.lt q hq).2
  · exact (h.ret.lt q hq).2
theorem RAr0.setU {g cap i : Nat} (h : RAr0 w pr (.slice (some ⟨g, 0, none⟩) m cap) vC vR m us c fl) (x : Value) :
    RAr0 (w.setCell ⟨g, i, none⟩ x) pr (.slice (some ⟨g, 0, none⟩) m cap) vC vR m (us.set i x) c fl := by
  have hF : Fr [g] w (w.setCell ⟨g, i, none⟩ x) := (Fr.refl _ _).setCell _ _ (.inl (by simp))
  have hg : (Value.slice (some ⟨g, 0, none⟩) m cap).ownBlock = some g := rfl
  refine ⟨hF.blk h.hd (fun hm => h.aU (by rw [hg]; simp at hm; rw [hm])), ownsRow_setK h.use x, ?_, ?_, h.aU, h.aC, h.aR, h.aUC, h.aUR, h.aCR⟩
  · exact ownsRow_same h.cnt (fun q hq => hF.keep q (h.cnt.lt q hq).2 (fun hm => h.aUC g hg (by rw [hq]; simp at hm; rw [hm])))
  · exact ownsRow_same h.ret (fun q hq => hF.keep q (h.ret.lt q hq).2 (fun hm => h.aUR g hg (by rw [hq]; simp at hm; rw [hm])))
theorem RAr0.setC {g cap i x : Nat} (h : RAr0 w pr vU (.slice (some ⟨g, 0, none⟩) m cap) vR m us c fl) :
    RAr0 (w.setCell ⟨g, i, none⟩ (.int .u64 x)) pr vU (.slice (some ⟨g, 0, none⟩) m cap) vR m us (c.set i x) fl := by
  have hF : Fr [g] w (w.setCell ⟨g, i, none⟩ (.int .u64 x)) := (Fr.refl _ _).setCell _ _ (.inl (by simp))
  have hg : (Value.slice (some ⟨g, 0, none⟩) m cap).ownBlock = some g := rfl
  have he : encId (c.set i x) = (encId c).set i (.int .u64 x) := by simp [encId, List.map_set]
  refine ⟨hF.blk h.hd (fun hm => h.aC (by rw [hg]; simp at hm; rw [hm])), ?_, by rw [he]; exact ownsRow_setK h.cnt _, ?_, h.aU, h.aC, h.aR, h.aUC, h.aUR, h.aCR⟩
  · exact ownsRow_same h.use (fun q hq => hF.keep q (h.use.lt q hq).2 (fun hm => h.aUC q hq (by rw [hg]; simp at hm; rw [hm])))
  · exact ownsRow_same h.ret (fun q hq => hF.keep q (h.ret.lt q hq).2 (fun hm => h.aCR g hg (by rw [hq]; simp at hm; rw [hm])))
theorem RAr0.setR {v' : Value} {F : List Nat} (h : RAr0 w pr vU vC vR m us c fl) (hv : w.ownsRow 0 3 1 v' F.length (encN F.reverse)) (hp : v'.ownBlock ≠ some pr) (hU : ∀ q, vU.ownBlock = some q → v'.ownBlock ≠ some q) (hC : ∀ q, vC.ownBlock = some q → v'.ownBlock ≠ some q) :
    RAr0 (w.setCell ⟨pr, 4, none⟩ v') pr vU vC v' m us c F :=
  ⟨h.hd.set 4 _, ownsRow_other h.use _ _ h.aU, ownsRow_other h.cnt _ _ h.aC, ownsRow_other hv _ _ hp, h.aU, h.aC, hp, h.aUC, hU, hC⟩
theorem RAr0.slU (h : RAr0 w pr vU vC vR m us c fl) : ∃ a cap, vU = .slice a m cap := ownsRow_slice h.use
theorem RAr0.slC (h : RAr0 w pr vU vC vR m us c fl) : ∃ a cap, vC = .slice a m cap := ownsRow_slice h.cnt
theorem RAr0.slR (h : RAr0 w pr vU vC vR m us c fl) : ∃ a cap, vR = .slice a fl.length cap := ownsRow_slice h.ret
end
abbrev RArn (w : World) (pr : Nat) (vU vC vR : Value) (A : Ar) (c : List Nat) : Prop := RAr0 w pr vU vC vR A.slots (useL A) c A.free

section
variable {w : World} {pr : Nat} {vU vC vR : Value} {A : Ar} {c : List Nat} {n : Nat}
theorem rav_w {m : Nat} {us : List Value} {fl : List Nat} (h : RAr0 w pr vU vC vR m us c fl) : Calls Tryz.prog 81 #[ptr pr] w fun e w' => e = .returned (.bool true) ∧ w' = w := by
  have c0 := h.hd.cell 0
  simp only [List.getElem?_cons_zero] at c0
  go_enter Tryz.func81, Tryz.ntmps81
  go_wp2
  go_ret
  exact ⟨rfl, rfl⟩
theorem racap_w (h : RArn w pr vU vC vR A c) : Calls Tryz.prog 52 #[ptr pr] w fun e w' => e = .returned (.int .i64 A.slots) ∧ w' = w := by
  have HV := Lib.hid (rav_w h)
  have c1 := h.hd.cell 1
  simp only [List.getElem?_cons_zero, List.getElem?_cons_succ] at c1
  clear h
  go_enter Tryz.func52, Tryz.ntmps52
  go_wp2_with fail
  refine HV.out.mono ?_
  rintro _ w ⟨rfl, rfl⟩
  go_wp2
  go_ret
  exact ⟨rfl, rfl⟩
theorem raex_w (h : RArn w pr vU vC vR A c) {i : Nat} (hi : i < A.slots) : Calls Tryz.prog 87 #[ptr pr, .int .i64 i] w fun e w' => e = .returned (.bool true) ∧ w' = w := by
  have HV := Lib.hid (rav_w h)
  have c1 := h.hd.cell 1
  simp only [List.getElem?_cons_zero, List.getElem?_cons_succ] at c1
  have d1 : decide ((i : Int) ≥ 0) = true := decide_eq_true (by omega)
  have d2 : decide ((i : Int) < A.slots) = true := decide_eq_true (by omega)
  clear h
  go_enter Tryz.func87, Tryz.ntmps87
  go_wp2_with fail
  refine HV.out.mono ?_
  rintro _ w ⟨rfl, rfl⟩
  go_wp2
  go_ret
  exact ⟨rfl, rfl⟩
theorem ranext_w (h : RArn w pr vU vC vR A c) (hok : A.ok) (hc : Cnt A c n) :
    Calls Tryz.prog 82 #[ptr pr] w fun e w' => e = .returned (.tuple #[.int .i64 (A.next.getD 0), .bool A.next.isSome]) ∧ ∃ k, w' = w.drewN k := by
  have HV := Lib.hid (rav_w h)
  have hb := hok.hb
  have hs := hok.hs
  have hfl := hok.len
  obtain ⟨aR, cR, rfl⟩ := h.slR
  obtain ⟨aC, cC, rfl⟩ := h.slC
  have c1 := h.hd.cell 1
  have c3 := h.hd.cell 3
  have c4 := h.hd.cell 4
  simp only [List.getElem?_cons_zero, List.getElem?_cons_succ] at c1 c3 c4
  have HR := Lib.hid h; clear h
  have HC := Lib.hid hc; clear hc
  have Hok := Lib.hid hok; clear hok
  go_enter Tryz.func82, Tryz.ntmps82
  go_wp2_with fail
  refine HV.out.mono ?_
  rintro _ w ⟨rfl, rfl⟩
  clear HV
  cases hfr : A.free with
  | cons x r =>
    have hfl1 : A.free.length = r.length + 1 := by rw [hfr]; rfl
    have hnx : A.next = some x := by unfold Ar.next; rw [hfr]
    have Hnx := Lib.hid hnx; clear hnx
    obtain ⟨g3, cap3', e, _, _, hc3, _⟩ := ownsRow_at HR.out.ret (show A.free.length - 1 < A.free.length by omega)
    simp only [Value.slice.injEq, true_and] at e
    obtain ⟨rfl, rfl⟩ := e
    have hx : (encN A.free.reverse)[A.free.length - 1]? = some (.int .i64 (x : Nat)) := by rw [hfr]; simp [encN]
    rw [hx] at hc3
    rw [hfl1] at c4 hc3
    simp only [Nat.add_sub_cancel] at hc3
    have hrl : r.length ≤ 65536 := by omega
    clear hx hfr hfl1
    have hw1 : IntKind.i64.wrap ((r.length : Int) + 1 - 1) = r.length := by rw [show (r.length : Int) + 1 - 1 = r.length by omega]; exact IntWalk.i64_in _ (by omega)
    have hw2 : (r.length : Int) < (r.length : Int) + 1 := by omega
    have hr0 : (0 : Int) ≤ (r.length : Int) := by omega
    have hd : decide (((r.length : Int) + 1) > 0) = true := decide_eq_true (by omega)
    go_wp2
    go_quiet (fail)
    go_wp2
    go_ret2
    rw [Hnx.out]
    exact ⟨rfl, _, rfl⟩
  | nil =>
    have hfl1 : A.free.length = 0 := by rw [hfr]; rfl
    rw [hfl1] at c4
    have hnx : A.next = if A.begun < A.slots then some A.begun else none := by unfold Ar.next; rw [hfr]
    have Hnx := Lib.hid hnx; clear hnx hfr hfl1 hfl
    go_wp2
    go_loopw [4] (fun x wr => ∃ i k : Nat, i ≤ A.begun ∧ x = .int .i64 i ∧ wr = w.drewN k) (fun x _ => A.begun + 1 - (intOf x).toNat)
    case atStart => exact ⟨0, 0, Nat.zero_le _, rfl, rfl⟩
    case round =>
      obtain ⟨i, k, hi, rfl, rfl⟩ := hrel
      by_cases hlt : i < A.slots
      · have hil : (i : Int) < A.slots := by omega
        have hi0 : (0 : Int) ≤ i := by omega
        obtain ⟨g, cap, e, _, _, hcc, _⟩ := ownsRow_at HR.out.cnt hlt
        simp only [Value.slice.injEq, true_and] at e
        obtain ⟨rfl, rfl⟩ := e
        have hci := HC.out.get hlt
        have hcv : (encId c)[i]? = some (.int .u64 (c.getD i 0 : Nat)) := by unfold encId; rw [List.getElem?_map, hci.1]; rfl
        rw [hcv] at hcc
        have hz := HC.out.zero i hlt
        generalize c.getD i 0 = x at *
        clear hcv hci
        by_cases hib : i = A.begun
        · have hx0 : x = 0 := hz.2 (by omega)
          subst hx0
          have d1 : (((0 : Nat) : Int) == 0) = true := rfl
          have HIB := Lib.hid hib
          clear hz hib
          go_wp2
          go_ret2
          rw [Hnx.out, if_pos (by have := HIB.out; omega)]
          exact ⟨by rw [HIB.out]; rfl, _, rfl⟩
        · have hx0 : x ≠ 0 := fun e => hib (by have := hz.1 e; omega)
          have d1 : ((x : Int) == 0) = false := by simp; omega
          have hi1 : i + 1 ≤ A.begun := by omega
          clear hz hib hx0
          go_wp2
          go_roundw
          case rel => exact ⟨i + 1, _, hi1, by go_num, rfl⟩
          case measure => simp [intOf]; omega
      · have hil : ¬ ((i : Int) < A.slots) := by omega
        go_wp2
        go_ret2
        rw [Hnx.out, if_neg (by omega)]
        exact ⟨rfl, _, rfl⟩
end
end Go.Proofs.YtbegdgnhpklceaaGreat

namespace Go.Proofs.YtbegdgnhpklceaaGreat
open Go.RowKit
set_option maxRecDepth 10000
set_option maxHeartbeats 800000

theorem Tryz.infoBool : (Tryz.prog.info? 4).map (fun i => (i.zero, i.size, i.bytes)) = some (some (.bool false), 1, 1) := by kernel_rfl
theorem made_bools (n : Nat) : madeCells (Value.bool false).cells n = (List.replicate n (Value.bool false)).toArray := by
  apply Array.ext
  · simp [madeCells]
  · intro i h1 h2
    simp [madeCells, Value.cells, Nat.mod_one]
theorem run_make_bools (n : Nat) (w : World) (hn : n ≤ 1048576) : (Instr.makeSlice 110 (.int .i64 n) (.int .i64 n)).run Tryz.prog w = .ok (.slice (some ⟨w.heap.size, 0, none⟩) n n) (w.alloc (.cells (List.replicate n (Value.bool false)).toArray 4)) := by
  obtain ⟨i0, hi, hz0, hz1, hz2⟩ := info_parts Tryz.infoBool
  have h := run_make (P := Tryz.prog) w 110 4 i0 (.bool false) Tryz.underlying110 hi hz0 .i64 .i64 n n (by omega) (by omega) (by rw [hz2]; omega) (by omega)
  rw [hz1] at h
  simp only [Int.toNat_natCast, Nat.mul_one] at h
  rw [made_bools] at h
  exact h
theorem made_u64s (n : Nat) : madeCells (Value.int .u64 0).cells n = (encId (List.replicate n 0)).toArray := by
  apply Array.ext
  · simp [madeCells, encId]
  · intro i h1 h2
    simp [madeCells, encId, Value.cells, Nat.mod_one]
theorem run_make_u64s (n : Nat) (w : World) (hn : n ≤ 1048576) : (Instr.makeSlice 63 (.int .i64 n) (.int .i64 n)).run Tryz.prog w = .ok (.slice (some ⟨w.heap.size, 0, none⟩) n n) (w.alloc (.cells (encId (List.replicate n 0)).toArray 22)) := by
  obtain ⟨i0, hi, hz0, hz1, hz2⟩ := info_parts Tryz.info22
  have h := run_make (P := Tryz.prog) w 63 22 i0 (.int .u64 0) Tryz.underlying63 hi hz0 .i64 .i64 n n (by omega) (by omega) (by rw [hz2]; omega) (by omega)
  rw [hz1] at h
  simp only [Int.toNat_natCast, Nat.mul_one] at h
  rw [made_u64s] at h
  exact h
theorem useL_new (n : Nat) : useL (Ar.new n) = List.replicate n (.bool false) := by
  unfold useL Ar.new Ar.usedB
  apply List.ext_getElem <;> simp
theorem mk_row {w : World} {g n : Nat} {t : TypeId} {xs : List Value} (hb : Blk w g t xs) (hn : xs.length = n) (hm : n ≤ maxLen) : w.ownsRow 0 t 1 (.slice (some ⟨g, 0, none⟩) n n) n xs :=
  ⟨by omega, .inr ⟨g, n, xs.toArray, rfl, Nat.zero_le _, hb, Nat.le_refl _, hm, by simp; omega, by rw [List.take_of_length_le (by simp; omega)]⟩⟩

theorem ranew_w (w : World) (slots : Nat) (hs : slots ≤ 65536) :
    Calls Tryz.prog 40 #[.int .i64 slots] w fun e w' => ∃ pr vU vC, e = .returned (.tuple #[ptr pr, .int .i64 0]) ∧ RArn w' pr vU vC (.slice none 0 0) (Ar.new slots) (List.replicate slots 0) ∧ Fr [] w w' ∧ ∀ q ∈ rAB pr vU vC (.slice none 0 0), w.heap.size ≤ q := by
  have hd0 : decide ((slots : Int) < 0) = false := decide_eq_false (by omega)
  have hd1 : decide ((slots : Int) > 65536) = false := decide_eq_false (by omega)
  have hm1 := fun W => run_make_bools slots W (by omega)
  have hm2 := fun W => run_make_u64s slots W (by omega)
  go_enter Tryz.func40, Tryz.ntmps40
  go_wp2
  go_region
  all_goals go_wp2
  all_goals go_ret2
  · have bU : Blk (w.alloc (.cells (List.replicate slots (Value.bool false)).toArray 4)) w.heap.size 4 (List.replicate slots (Value.bool false)) := Blk.new w _ _
    have bC := Blk.new' (w.alloc (.cells (List.replicate slots (Value.bool false)).toArray 4)) (n := w.heap.size + 1) (encId (List.replicate slots 0)) 22 (by simp)
    have bP := Blk.new' ((w.alloc (.cells (List.replicate slots (Value.bool false)).toArray 4)).alloc (.cells (encId (List.replicate slots 0)).toArray 22)) (n := w.heap.size + 1 + 1) [.bool true, .int .i64 slots, .slice (some ⟨w.heap.size, 0, none⟩) slots slots, .slice (some ⟨w.heap.size + 1, 0, none⟩) slots slots, .slice none 0 0] 112 (by simp)
    have rU := ((mk_row (n := slots) bU (by simp) (by unfold maxLen; omega)).alloc (.cells (encId (List.replicate slots 0)).toArray 22)).alloc (.cells [.bool true, .int .i64 slots, .slice (some ⟨w.heap.size, 0, none⟩) slots slots, .slice (some ⟨w.heap.size + 1, 0, none⟩) slots slots, .slice none 0 0].toArray 112)
    have rC := (mk_row (n := slots) bC (by simp [encId]) (by unfold maxLen; omega)).alloc (.cells [.bool true, .int .i64 slots, .slice (some ⟨w.heap.size, 0, none⟩) slots slots, .slice (some ⟨w.heap.size + 1, 0, none⟩) slots slots, .slice none 0 0].toArray 112)
    have hR : RArn _ (w.heap.size + 1 + 1) _ _ (.slice none 0 0) (Ar.new slots) (List.replicate slots 0) := ⟨bP, by rw [useL_new]; exact rU, rC, World.ownsRow_nil _ _ _ _, by simp [Value.ownBlock]; omega, by simp [Value.ownBlock], by simp [Value.ownBlock], by simp [Value.ownBlock], by simp [Value.ownBlock], by simp [Value.ownBlock]⟩
    refine ⟨w.heap.size + 1 + 1, _, _, rfl, hR.fr0 ((Fr.refl [] _).drew), ((((Fr.refl [] w).alloc _).alloc _).alloc _).drew, fun q hq => ?_⟩
    simp [rAB, Value.ownBlock] at hq; omega
  · have bC : Blk (w.alloc (.cells (encId (List.replicate slots 0)).toArray 22)) w.heap.size 22 (encId (List.replicate slots 0)) := Blk.new w _ _
    have bU := Blk.new' (w.alloc (.cells (encId (List.replicate slots 0)).toArray 22)) (n := w.heap.size + 1) (List.replicate slots (Value.bool false)) 4 (by simp)
    have bP := Blk.new' ((w.alloc (.cells (encId (List.replicate slots 0)).toArray 22)).alloc (.cells (List.replicate slots (Value.bool false)).toArray 4)) (n := w.heap.size + 1 + 1) [.bool true, .int .i64 slots, .slice (some ⟨w.heap.size + 1, 0, none⟩) slots slots, .slice (some ⟨w.heap.size, 0, none⟩) slots slots, .slice none 0 0] 112 (by simp)
    have rC := ((mk_row (n := slots) bC (by simp [encId]) (by unfold maxLen; omega)).alloc (.cells (List.replicate slots (Value.bool false)).toArray 4)).alloc (.cells [.bool true, .int .i64 slots, .slice (some ⟨w.heap.size + 1, 0, none⟩) slots slots, .slice (some ⟨w.heap.size, 0, none⟩) slots slots, .slice none 0 0].toArray 112)
    have rU := (mk_row (n := slots) bU (by simp) (by unfold maxLen; omega)).alloc (.cells [.bool true, .int .i64 slots, .slice (some ⟨w.heap.size + 1, 0, none⟩) slots slots, .slice (some ⟨w.heap.size, 0, none⟩) slots slots, .slice none 0 0].toArray 112)
    have hR : RArn _ (w.heap.size + 1 + 1) _ _ (.slice none 0 0) (Ar.new slots) (List.replicate slots 0) := ⟨bP, by rw [useL_new]; exact rU, rC, World.ownsRow_nil _ _ _ _, by simp [Value.ownBlock], by simp [Value.ownBlock]; omega, by simp [Value.ownBlock], by simp [Value.ownBlock], by simp [Value.ownBlock], by simp [Value.ownBlock]⟩
    refine ⟨w.heap.size + 1 + 1, _, _, rfl, hR.fr0 ((Fr.refl [] _).drew), ((((Fr.refl [] w).alloc _).alloc _).alloc _).drew, fun q hq => ?_⟩
    simp [rAB, Value.ownBlock] at hq; omega
section
variable {w : World} {pr : Nat} {vU vC vR : Value} {A : Ar} {c : List Nat} {n : Nat}
theorem raalloc_w (h : RArn w pr vU vC vR A c) (hok : A.ok) (hc : Cnt A c n) (hn : n + 1 < 18446744073709551616) {i : Nat} (hi : A.next = some i) :
    Calls Tryz.prog 44 #[ptr pr] w fun e w' => e = .returned (.tuple #[.int .i64 i, .int .i64 0]) ∧
      ∃ vR', RArn w' pr vU vC vR' A.alloc (c.set i (c.getD i 0 + 1)) ∧ Fr (rAB pr vU vC vR) w w' ∧ ∀ q ∈ rAB pr vU vC vR', q ∈ rAB pr vU vC vR := by
  have HV := Lib.hid (rav_w h)
  have HN := ranext_w h hok hc
  rw [hi] at HN
  have HN := Lib.hid HN
  have hlt := Ar.next_lt hok hi
  have hb := hok.hb
  have hs := hok.hs
  have hfl := hok.len
  have hal : A.alloc.slots = A.slots := by unfold Ar.alloc; cases A.free <;> rfl
  have hus : (useL A).set i (.bool true) = useL A.alloc := useL_set hal (fun j => Ar.usedB_alloc hok hi j)
  have Hus := Lib.hid (And.intro hus hal); clear hus hal
  have Hcs := Ar.next_cases hi
  have hci := hc.get hlt
  have hcv : (encId c)[i]? = some (.int .u64 (c.getD i 0 : Nat)) := by unfold encId; rw [List.getElem?_map, hci.1]; rfl
  obtain ⟨gU, capU, eU, _, _, hcU, _⟩ := ownsRow_at h.use hlt
  subst eU
  obtain ⟨gC, capC, eC, _, _, hcC, _⟩ := ownsRow_at h.cnt hlt
  subst eC
  rw [hcv] at hcC
  obtain ⟨aR, cR, rfl⟩ := h.slR
  have hx : c.getD i 0 ≤ n := hci.2
  generalize hxx : c.getD i 0 = x at *
  clear hci hxx hi hok hc hcU
  have c4 := h.hd.cell 4
  simp only [List.getElem?_cons_zero, List.getElem?_cons_succ] at c4
  have HR := Lib.hid h; clear h
  have hwx : IntKind.u64.wrap ((x : Int) + 1) = ((x + 1 : Nat) : Int) := by simp [IntKind.wrap, IntKind.bits, IntKind.signed]; omega
  have hii : (i : Int) < A.slots := by omega
  have hi0 : (0 : Int) ≤ i := by omega
  go_enter Tryz.func44, Tryz.ntmps44
  go_wp2_with fail
  refine HV.out.mono ?_
  rintro _ w ⟨rfl, rfl⟩
  clear HV
  go_wp2_with fail
  refine HN.out.mono ?_
  rintro _ w0 ⟨rfl, k, rfl⟩
  clear HN
  simp only [Option.getD_some, Option.isSome_some]
  have HF0 := Lib.hid ((Fr.refl [] w).drewN k)
  have HR0 := Lib.hid (HR.out.fr0 HF0.out)
  clear HR c4 hcC
  generalize w.drewN k = w0 at *
  have c4 := HR0.out.hd.cell 4
  have z4 := HR0.out.hd.frozen 4
  simp only [List.getElem?_cons_zero, List.getElem?_cons_succ] at c4
  rcases Hcs with ⟨r, hfr, hAl⟩ | ⟨hfr, hib, hbs, hAl⟩
  · have hfl1 : A.free.length = r.length + 1 := by rw [hfr]; rfl
    have hrow := HR0.out.ret
    rw [hfl1] at c4 hrow
    obtain ⟨g3, cap3', e, hcp, _⟩ := ownsRow_at hrow (show r.length < r.length + 1 by omega)
    simp only [Value.slice.injEq, true_and] at e
    obtain ⟨rfl, rfl⟩ := e
    have hpre : w0.ownsRow 0 3 1 (.slice (some ⟨g3, 0, none⟩) r.length cR) r.length (encN r.reverse) := by
      refine ownsRow_prefix (m := 1) (ys := [.int .i64 i]) ?_ (by simp [encN])
      rw [hfr] at hrow
      simpa [encN] using hrow
    have Hpre := Lib.hid hpre
    have Hal := Lib.hid (And.intro hfr hAl)
    have hrl : r.length ≤ 65536 := by omega
    clear hpre hrow hfr hAl
    have hw1 : IntKind.i64.wrap ((r.length : Int) + 1 - 1) = r.length := by rw [show (r.length : Int) + 1 - 1 = r.length by omega]; exact IntWalk.i64_in _ (by omega)
    have hw2 : (r.length : Int) < (r.length : Int) + 1 := by omega
    have hr0 : (0 : Int) ≤ (r.length : Int) := by omega
    have hd : decide (((r.length : Int) + 1) > 0) = true := decide_eq_true (by omega)
    have hw4 : (r.length : Int) ≤ (cR : Int) := by omega
    go_wp2
    go_region
    have HR1 := Lib.hid ((show RAr0 _ pr (.slice (some ⟨gU, 0, none⟩) A.slots capU) (.slice (some ⟨gC, 0, none⟩) A.slots capC) (.slice (some ⟨g3, 0, none⟩) r.length cR) A.slots (useL A) c A.alloc.free by
      rw [Hal.out.2]; exact HR0.out.setR Hpre.out HR0.out.aR HR0.out.aUR HR0.out.aCR).fr0 ((Fr.refl [] _).drew))
    have HF1 := Lib.hid (((HF0.out.mono (S' := rAB pr (.slice (some ⟨gU, 0, none⟩) A.slots capU) (.slice (some ⟨gC, 0, none⟩) A.slots capC) (.slice (some ⟨g3, 0, none⟩) A.free.length cR)) (by simp)).setCell ⟨pr, 4, none⟩ (.slice (some ⟨g3, 0, none⟩) r.length cR) (.inl (by simp [rAB]))).drew)
    have HQ1 := Lib.hid (show ∀ q, (Value.slice (some ⟨g3, 0, none⟩) r.length cR).ownBlock = some q → (Value.slice (some ⟨g3, 0, none⟩) A.free.length cR).ownBlock = some q from fun q hq => hq)
    clear HF0 HR0 Hpre c4 z4
    generalize (w0.setCell ⟨pr, 4, none⟩ (.slice (some ⟨g3, 0, none⟩) r.length cR)).drew = w1 at *
    have c2 := HR1.out.hd.cell 2
    have c3 := HR1.out.hd.cell 3
    simp only [List.getElem?_cons_zero, List.getElem?_cons_succ] at c2 c3
    obtain ⟨_, _, eU, _, _, uc, uf⟩ := ownsRow_at HR1.out.use hlt
    simp only [Value.slice.injEq, Option.some.injEq, Addr.mk.injEq, and_true, true_and] at eU
    obtain ⟨rfl, rfl⟩ := eU
    obtain ⟨_, _, eC, _, _, cc, cf⟩ := ownsRow_at HR1.out.cnt hlt
    simp only [Value.slice.injEq, Option.some.injEq, Addr.mk.injEq, and_true, true_and] at eC
    obtain ⟨rfl, rfl⟩ := eC
    rw [useL_at hlt] at uc
    rw [hcv] at cc
    have uf := uf i
    have cf := cf i
    have hne1 : gU ≠ pr := fun e => HR1.out.aU (by rw [e]; rfl)
    have hne2 : gU ≠ gC := fun e => HR1.out.aUC gU rfl (by rw [e]; rfl)
    have hne3 : pr ≠ gU := Ne.symm hne1
    have hne4 : gC ≠ gU := Ne.symm hne2
    generalize A.usedB i = ub at *
    go_wp2
    go_ret2
    refine ⟨rfl, .slice (some ⟨g3, 0, none⟩) r.length cR, ?_, (HF1.out.setCell _ _ (.inl (by simp [rAB, Value.ownBlock]))).setCell _ _ (.inl (by simp [rAB, Value.ownBlock])), fun q hq => ?_⟩
    · show RAr0 _ pr _ _ _ A.alloc.slots (useL A.alloc) _ A.alloc.free
      rw [Hus.out.2, ← Hus.out.1, show ((x : Int) + 1) = ((x + 1 : Nat) : Int) by omega]
      exact (HR1.out.setU (i := i) (.bool true)).setC (i := i) (x := x + 1)
    · simp only [rAB, List.mem_cons, List.mem_append, Option.mem_toList] at hq ⊢
      rcases hq with hq | hq | hq | hq
      · exact .inl hq
      · exact .inr (.inl hq)
      · exact .inr (.inr (.inl hq))
      · exact .inr (.inr (.inr (HQ1.out q hq)))
  · have hfl1 : A.free.length = 0 := by rw [hfr]; rfl
    rw [hfl1] at c4
    have HR1 := Lib.hid (show RAr0 w0 pr (.slice (some ⟨gU, 0, none⟩) A.slots capU) (.slice (some ⟨gC, 0, none⟩) A.slots capC) (.slice aR A.free.length cR) A.slots (useL A) c A.alloc.free by
      have e : A.alloc.free = A.free := by rw [hAl]
      rw [e]; exact HR0.out)
    have HF1 := Lib.hid (HF0.out.mono (S' := rAB pr (.slice (some ⟨gU, 0, none⟩) A.slots capU) (.slice (some ⟨gC, 0, none⟩) A.slots capC) (.slice aR A.free.length cR)) (by simp))
    have HQ1 := Lib.hid (show ∀ q, (Value.slice aR A.free.length cR).ownBlock = some q → (Value.slice aR A.free.length cR).ownBlock = some q from fun q hq => hq)
    clear HF0 HR0 hfr hAl hib hbs hfl1 hfl z4
    generalize w0 = w1 at *
    have c2 := HR1.out.hd.cell 2
    have c3 := HR1.out.hd.cell 3
    simp only [List.getElem?_cons_zero, List.getElem?_cons_succ] at c2 c3
    obtain ⟨_, _, eU, _, _, uc, uf⟩ := ownsRow_at HR1.out.use hlt
    simp only [Value.slice.injEq, Option.some.injEq, Addr.mk.injEq, and_true, true_and] at eU
    obtain ⟨rfl, rfl⟩ := eU
    obtain ⟨_, _, eC, _, _, cc, cf⟩ := ownsRow_at HR1.out.cnt hlt
    simp only [Value.slice.injEq, Option.some.injEq, Addr.mk.injEq, and_true, true_and] at eC
    obtain ⟨rfl, rfl⟩ := eC
    rw [useL_at hlt] at uc
    rw [hcv] at cc
    have uf := uf i
    have cf := cf i
    have hne1 : gU ≠ pr := fun e => HR1.out.aU (by rw [e]; rfl)
    have hne2 : gU ≠ gC := fun e => HR1.out.aUC gU rfl (by rw [e]; rfl)
    have hne3 : pr ≠ gU := Ne.symm hne1
    have hne4 : gC ≠ gU := Ne.symm hne2
    generalize A.usedB i = ub at *
    go_wp2
    go_ret2
    refine ⟨rfl, .slice aR A.free.length cR, ?_, (HF1.out.setCell _ _ (.inl (by simp [rAB, Value.ownBlock]))).setCell _ _ (.inl (by simp [rAB, Value.ownBlock])), fun q hq => ?_⟩
    · show RAr0 _ pr _ _ _ A.alloc.slots (useL A.alloc) _ A.alloc.free
      rw [Hus.out.2, ← Hus.out.1, show ((x : Int) + 1) = ((x + 1 : Nat) : Int) by omega]
      exact (HR1.out.setU (i := i) (.bool true)).setC (i := i) (x := x + 1)
    · simp only [rAB, List.mem_cons, List.mem_append, Option.mem_toList] at hq ⊢
      rcases hq with hq | hq | hq | hq
      · exact .inl hq
      · exact .inr (.inl hq)
      · exact .inr (.inr (.inl hq))
      · exact .inr (.inr (.inr (HQ1.out q hq)))
end
end Go.Proofs.YtbegdgnhpklceaaGreat
