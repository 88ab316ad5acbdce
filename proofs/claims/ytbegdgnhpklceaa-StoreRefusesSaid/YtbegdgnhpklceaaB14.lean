/- 'append' of a part of a row; parts of rows of edges. -/
import Derived.Test.YtbegdgnhpklceaaB11
import Derived.Test.YtbegdgnhpklceaaB12
import Derived.Test.YtbegdgnhpklceaaB13
import Derived.Shelf.SlSortCmp.WholeK
import Derived.Shelf.Lay
import Derived.Ground.SlsfProg
set_option linter.unusedSimpArgs false
set_option linter.unusedVariables false
/- store: New, From. -/
namespace Go.Proofs.Ytbegdgnhpklceaa
open Go.RowKit
set_option maxRecDepth 10000
set_option maxHeartbeats 1000000

theorem st_from (V E last : Nat) (w : World) (hV : V ≤ 4096) (hE : E ≤ 16384) (hl : last ≤ 9223372036854775807) :
    Calls Try.prog 52 #[.int .i64 V, .int .i64 E, .int .u64 last] w fun e w' => ∃ ps, e = .returned (.tuple #[.pointer (some ⟨ps, 0, none⟩), .int .i64 0]) ∧ ∃ K, StoreAt w' ps (Sm.new V E last) K ∧ Fr [] w w' ∧ ∀ q ∈ K, w.heap.size ≤ q := by
  have d1 : decide ((V : Int) < 0) = false := decide_eq_false (by omega)
  have d2 : decide ((4096 : Int) < V) = false := decide_eq_false (by omega)
  have d3 : decide ((E : Int) < 0) = false := decide_eq_false (by omega)
  have d4 : decide ((16384 : Int) < E) = false := decide_eq_false (by omega)
  have d5 : decide ((9223372036854775807 : Int) < last) = false := decide_eq_false (by omega)
  have d6 : decide ((4096 : Nat) < V) = false := decide_eq_false (by omega)
  have d7 : decide ((16384 : Nat) < E) = false := decide_eq_false (by omega)
  have d8 : decide ((9223372036854775807 : Nat) < last) = false := decide_eq_false (by omega)
  have hmk : ∀ W : World, (Instr.makeMap 61 none).run Try.prog W = .ok (.map (some W.heap.size)) (W.alloc (.map #[] 0)) := fun W => by kernel_rfl
  have HA := Lib.hid (arena_new E w (by omega))
  have HT := Lib.hid (fun w' => tab_new V w' (by omega))
  go_enter Try.func52, Try.ntmps52
  go_wp2_with fail
  refine HA.out.mono ?_
  rintro _ w1 ⟨rfl, hA, hF1⟩
  go_wp2_with fail
  refine (HT.out w1).mono ?_
  rintro _ w2 ⟨pt, rfl, l, hT, hF2, hl2⟩
  have HH := Lib.hid (And.intro hA (And.intro hF1 (And.intro hT (And.intro hF2 hl2)))); clear hA hF1 hT hF2 hl2 HA HT
  go_wp2_with fail
  go_ret2
  obtain ⟨hA, hF1, hT, hF2, hl2⟩ := HH.out
  have hal := hA.lt w.heap.size (by simp)
  have hsz := hF2.size
  have htl := hT.lt
  have hln : ∀ b ∈ l, w1.heap.size ≤ b := fun b hb => (hl2 b hb).resolve_left (by simp)
  have hF : Fr [] w2 ((w2.alloc (.map #[] 0)).alloc (.cells #[.int .i64 V, .int .i64 E, .int .u64 last, ptr w.heap.size, ptr pt, nilS, .map (some w2.heap.size)] 63)) := ((Fr.refl [] w2).alloc _).alloc _
  have hB := Blk.new (w2.alloc (.map #[] 0)) [.int .i64 V, .int .i64 E, .int .u64 last, ptr w.heap.size, ptr pt, nilS, .map (some w2.heap.size)] 63
  rw [World.size_alloc] at hB
  refine ⟨_, rfl, _, ⟨w.heap.size, pt, w2.heap.size, 0, nilS, [w.heap.size], l, [], fun x => if x < w.heap.size + 1 then 2 else if x < w2.heap.size then 3 else if x = w2.heap.size then 1 else 0, ⟨hB, ?_, ?_, RowV.nil _, ?_, ?_, Nat.zero_le _, Sm.ok_new hV hE (by omega), ?_⟩, rfl⟩, ?_, ?_⟩
  · exact hA.fr (hF2.trans' hF) (by simp)
  · exact hT.fr hF (by simp)
  · refine ⟨fun _ => none, ((IMap.made w2 Try.prog 30 .u64 okS).same (Below.heap_alloc _ _ _ (by simp))), by simp, by simp, fun id hid => ⟨by simp [Sm.new, incL], RowI.nil _, fun q e => (by cases e)⟩, fun id id' q _ _ e => (by cases e)⟩
  · intro e he; cases he
  · refine ⟨?_, ?_, fun b hb => ?_, fun b hb => ?_, fun q e => (by cases e), fun b hb => (by cases hb)⟩
    · rw [if_neg (by omega), if_neg (by omega), if_neg (by omega)]
    · rw [if_neg (by omega), if_neg (by omega), if_pos rfl]
    · rw [List.mem_singleton] at hb; rw [if_pos (by omega)]
    · have h1 := hln b hb; have h2 := htl b hb
      rw [if_neg (by omega), if_pos h2]
  · exact (hF1.trans' hF2).trans' hF
  · have hs1 := hF1.size
    intro q hq
    simp only [stK, List.mem_cons, List.mem_append, Value.ownBlock, Option.toList_none, List.not_mem_nil, or_false] at hq
    rcases hq with rfl | rfl | rfl | hq
    · omega
    · omega
    · omega
    · have := hln q hq; omega
theorem st_new (V E : Nat) (w : World) (hV : V ≤ 4096) (hE : E ≤ 16384) :
    Calls Try.prog 28 #[.int .i64 V, .int .i64 E] w fun e w' => ∃ ps, e = .returned (.tuple #[.pointer (some ⟨ps, 0, none⟩), .int .i64 0]) ∧ ∃ K, StoreAt w' ps (Sm.new V E 0) K ∧ Fr [] w w' ∧ ∀ q ∈ K, w.heap.size ≤ q := by
  have HF := Lib.hid (st_from V E 0 w hV hE (by omega))
  go_enter Try.func28, Try.ntmps28
  go_wp2_with fail
  refine HF.out.mono ?_
  rintro _ w1 ⟨ps, rfl, h⟩
  have HH := Lib.hid h; clear h
  go_wp2
  go_ret2
  exact ⟨ps, rfl, HH.out⟩
end Go.Proofs.Ytbegdgnhpklceaa

/- store: its contracts, for the laws: a store that was made since the call began, and guest blocks apart from it. -/
namespace Go.Proofs.Ytbegdgnhpklceaa
open Go.RowKit
set_option maxRecDepth 10000
set_option maxHeartbeats 800000

/-- The blocks Z are as they were. -/
def Gu (Z : List Nat) (w w' : World) : Prop := ∃ X, Fr X w w' ∧ ∀ z ∈ Z, z ∉ X
section
variable {Z Y : List Nat} {w w' w'' : World}
theorem Gu.refl (Z : List Nat) (w : World) : Gu Z w w := ⟨[], Fr.refl _ _, by simp⟩
theorem Gu.of0 (h : Fr [] w w') : Gu Z w w' := ⟨[], h, by simp⟩
theorem Gu.size (h : Gu Z w w') : w.heap.size ≤ w'.heap.size := by obtain ⟨X, h, _⟩ := h; exact h.size
theorem Gu.trans (h : Gu Z w w') (k : Gu Z w' w'') : Gu Z w w'' := by
  obtain ⟨X, h1, h2⟩ := h; obtain ⟨X', k1, k2⟩ := k
  exact ⟨X ++ X', (h1.mono (fun q hq => .inl (List.mem_append.2 (.inl hq)))).trans k1 (fun q hq => .inl (List.mem_append.2 (.inr hq))), fun z hz hm => (List.mem_append.1 hm).elim (h2 z hz) (k2 z hz)⟩
theorem Gu.mono (h : Gu Z w w') (hs : ∀ y ∈ Y, y ∈ Z) : Gu Y w w' := by
  obtain ⟨X, h1, h2⟩ := h; exact ⟨X, h1, fun y hy => h2 y (hs y hy)⟩
theorem Gu.cell (h : Gu Z w w') {a : Addr} {v : Value} (hc : w.cell? a = some v) (ha : a.block ∈ Z) : w'.cell? a = some v := by
  obtain ⟨X, h1, h2⟩ := h; exact h1.cell hc (h2 _ ha)
theorem Gu.blk (h : Gu Z w w') {b : Nat} {t : TypeId} {l : List Value} (hb : Blk w b t l) (ha : b ∈ Z) : Blk w' b t l := by
  obtain ⟨X, h1, h2⟩ := h; exact h1.blk hb (h2 _ ha)
theorem Gu.rowV (h : Gu Z w w') {v : Value} {l : List Lv} (hr : RowV w v l) (ha : ∀ q, v.ownBlock = some q → q ∈ Z) : RowV w' v l := by
  obtain ⟨X, h1, h2⟩ := h; exact hr.fr h1 (fun q hq => h2 q (ha q hq))
theorem Gu.rowU (h : Gu Z w w') {v : Value} {l : List Nat} (hr : RowU w v l) (ha : ∀ q, v.ownBlock = some q → q ∈ Z) : RowU w' v l := by
  obtain ⟨X, h1, h2⟩ := h; exact hr.fr h1 (fun q hq => h2 q (ha q hq))
theorem Gu.rowI (h : Gu Z w w') {v : Value} {l : List Nat} (hr : RowI w v l) (ha : ∀ q, v.ownBlock = some q → q ∈ Z) : RowI w' v l := by
  obtain ⟨X, h1, h2⟩ := h; exact hr.fr h1 (fun q hq => h2 q (ha q hq))
theorem Gu.store (h : Gu Z w w') {ps : Nat} {s : Sm} {K : List Nat} (hr : StoreAt w ps s K) (ha : ∀ q ∈ K, q ∈ Z) : StoreAt w' ps s K := by
  obtain ⟨X, h1, h2⟩ := h; exact hr.fr h1 (fun q hq => h2 q (ha q hq))
end
/-- A store made since W, with the guests Z apart from it. -/
def SG (W wr : World) (ps : Nat) (s : Sm) (Z : List Nat) : Prop := ∃ K, StoreAt wr ps s K ∧ Fr [] W wr ∧ (∀ q ∈ K, W.heap.size ≤ q) ∧ ∀ z ∈ Z, W.heap.size ≤ z ∧ z < wr.heap.size ∧ z ∉ K
section
variable {W wr w' : World} {ps : Nat} {s : Sm} {Z Y X : List Nat}
theorem SG.ok (h : SG W wr ps s Z) : s.Ok := by obtain ⟨K, h, _⟩ := h; exact h.ok
theorem SG.fr (h : SG W wr ps s Z) : Fr [] W wr := by obtain ⟨K, _, h, _⟩ := h; exact h
theorem SG.below (h : SG W wr ps s Z) : Below W.heap.size W wr := h.fr.below (by simp)
theorem SG.size (h : SG W wr ps s Z) : W.heap.size ≤ wr.heap.size := h.fr.size
theorem SG.lt (h : SG W wr ps s Z) : ∀ z ∈ Z, z < wr.heap.size := by obtain ⟨K, _, _, _, h⟩ := h; exact fun z hz => (h z hz).2.1
theorem SG.ge (h : SG W wr ps s Z) : ∀ z ∈ Z, W.heap.size ≤ z := by obtain ⟨K, _, _, _, h⟩ := h; exact fun z hz => (h z hz).1
/-- What changes are guests, or is new; new guests. -/
theorem SG.go (h : SG W wr ps s Z) (hf : Fr X wr w') (hx : ∀ x ∈ X, x ∈ Z ∨ wr.heap.size ≤ x) (hy : ∀ y ∈ Y, y ∈ Z ∨ (wr.heap.size ≤ y ∧ y < w'.heap.size)) : SG W w' ps s Y := by
  obtain ⟨K, h1, h2, h3, h4⟩ := h
  have hs := hf.size
  have hs2 := h2.size
  refine ⟨K, h1.fr hf (fun q hq hm => ?_), h2.trans hf (fun q hq => .inr ?_), h3, fun y hy' => ?_⟩
  · rcases hx q hm with e | e
    · exact (h4 q e).2.2 hq
    · have := h1.lt q hq; omega
  · rcases hx q hq with e | e
    · exact (h4 q e).1
    · omega
  · rcases hy y hy' with e | e
    · have := h4 y e; exact ⟨this.1, by omega, this.2.2⟩
    · exact ⟨by omega, e.2, fun hm => by have := h1.lt y hm; omega⟩
theorem SG.go0 (h : SG W wr ps s Z) (hf : Fr [] wr w') : SG W w' ps s Z := h.go hf (by simp) (fun y hy => .inl hy)
theorem SG.sub (h : SG W wr ps s Z) (hy : ∀ y ∈ Y, y ∈ Z) : SG W wr ps s Y := h.go (Fr.refl [] _) (by simp) (fun y hy' => .inl (hy y hy'))
theorem SG.alloc (h : SG W wr ps s Z) (o : Obj) : SG W (wr.alloc o) ps s (wr.heap.size :: Z) := h.go ((Fr.refl [] wr).alloc o) (by simp) (fun y hy => (List.mem_cons.1 hy).elim (fun e => .inr ⟨by omega, by simp; omega⟩) .inl)
theorem SG.row (h : SG W wr ps s Z) (hf : Fr [] wr w') {v : Value} (hn : ∀ q, v.ownBlock = some q → wr.heap.size ≤ q) (hl : ∀ q, v.ownBlock = some q → q < w'.heap.size) : SG W w' ps s (v.ownBlock.toList ++ Z) :=
  h.go hf (by simp) (fun y hy => (List.mem_append.1 hy).elim (fun e => .inr ⟨hn y (by simpa using e), hl y (by simpa using e)⟩) .inl)
/-- A step of the store. -/
theorem SG.step {K : List Nat} {s' : Sm} (_h1 : StoreAt wr ps s K) (h2 : Fr [] W wr) (h3 : ∀ q ∈ K, W.heap.size ≤ q) (h4 : ∀ z ∈ Z, W.heap.size ≤ z ∧ z < wr.heap.size ∧ z ∉ K) {K' : List Nat} (k1 : StoreAt w' ps s' K') (k2 : Fr K wr w') (k3 : ∀ q ∈ K', q ∈ K ∨ wr.heap.size ≤ q) : SG W w' ps s' Z ∧ Gu Z wr w' := by
  have hs := h2.size
  have hs2 := k2.size
  refine ⟨⟨K', k1, h2.trans k2 (fun q hq => .inr (h3 q hq)), fun q hq => (k3 q hq).elim (h3 q) (fun e => by omega), fun z hz => ⟨(h4 z hz).1, by have := (h4 z hz).2.1; omega, fun hm => ?_⟩⟩, K, k2, fun z hz => (h4 z hz).2.2⟩
  rcases k3 z hm with e | e
  · exact (h4 z hz).2.2 e
  · have := (h4 z hz).2.1; omega

def Sm.insR (s : Sm) (u v : Nat) (wt t x : Int) : Lv := if s.chk u v = 0 then s.edge u v wt t x else Lv.z
def Sm.insS (s : Sm) (u v : Nat) (wt t x : Int) : Sm := if s.chk u v = 0 then s.ins u v wt t x else s
def Sm.remC (s : Sm) (i : Int) : Int := if s.has i = true then 0 else if i < 0 ∨ (s.E : Int) ≤ i then 3 else 5
def Sm.remS (s : Sm) (i : Int) : Sm := if s.has i = true then s.rem i.toNat else s

theorem sg_new (V E : Nat) (hf : Fr [] W wr) (hZ : ∀ z ∈ Z, W.heap.size ≤ z ∧ z < wr.heap.size) (hV : V ≤ 4096) (hE : E ≤ 16384) :
    Calls Try.prog 28 #[.int .i64 V, .int .i64 E] wr fun e w' => ∃ ps, e = .returned (.tuple #[.pointer (some ⟨ps, 0, none⟩), .int .i64 0]) ∧ SG W w' ps (Sm.new V E 0) Z ∧ Fr [] wr w' := by
  refine (st_new V E wr hV hE).mono ?_
  rintro _ w' ⟨ps, rfl, K, h1, h2, h3⟩
  have hs := h2.size
  have hs2 := hf.size
  exact ⟨ps, rfl, ⟨K, h1, hf.trans' h2, fun q hq => Nat.le_trans hs2 (h3 q hq), fun z hz => ⟨(hZ z hz).1, by have := (hZ z hz).2; omega, fun hm => by have := h3 z hm; have := (hZ z hz).2; omega⟩⟩, h2⟩
theorem sg_ins (h : SG W wr ps s Z) (u v : Nat) (wt t x : Int) (hu : u < 18446744073709551616) (hv : v < 18446744073709551616) (hl : s.last + 1 < 18446744073709551616) :
    Calls Try.prog 24 #[sptr ps, recA u v wt t, .int .i64 x] wr fun e w' => e = .returned (.tuple #[lvA (s.insR u v wt t x), .int .i64 (s.chk u v)]) ∧ SG W w' ps (s.insS u v wt t x) Z ∧ Gu Z wr w' := by
  unfold Sm.insR Sm.insS
  by_cases hc : s.chk u v = 0
  · rw [if_pos hc, if_pos hc, hc]
    obtain ⟨K, h1, h2, h3, h4⟩ := h
    refine (st_ins_yes h1 u v hu hv wt t x hc hl).mono ?_
    rintro _ w' ⟨rfl, K', k1, k2, k3⟩
    exact ⟨rfl, SG.step h1 h2 h3 h4 k1 k2 k3⟩
  · rw [if_neg hc, if_neg hc]
    have h' := h
    obtain ⟨K, h1, h2, h3, h4⟩ := h
    refine (st_ins_no h1 u v hu hv wt t x hc).mono ?_
    rintro _ w' ⟨rfl, k2⟩
    exact ⟨rfl, h'.go0 k2, Gu.of0 k2⟩
theorem sg_rem (h : SG W wr ps s Z) (i : Int) :
    Calls Try.prog 25 #[sptr ps, .int .i64 i] wr fun e w' => e = .returned (.tuple #[lvA (s.got i), .int .i64 (s.remC i)]) ∧ SG W w' ps (s.remS i) Z ∧ Gu Z wr w' := by
  unfold Sm.remC Sm.remS
  cases hh : s.has i with
  | true =>
    rw [if_pos rfl, if_pos rfl]
    obtain ⟨h0, hu⟩ := (Sm.has_iff h.ok i).1 hh
    obtain ⟨k, rfl⟩ := Int.eq_ofNat_of_zero_le h0
    simp only [Int.toNat_natCast] at hu
    have hg : s.got k = liveAt s.L k := if_pos h0
    rw [hg]
    obtain ⟨K, h1, h2, h3, h4⟩ := h
    refine (st_rem_yes h1 k hu).mono ?_
    rintro _ w' ⟨rfl, K', k1, k2, k3⟩
    exact ⟨rfl, SG.step h1 h2 h3 h4 k1 k2 k3⟩
  | false =>
    rw [if_neg (show ¬ (false = true) by simp), if_neg (show ¬ (false = true) by simp), Sm.got_no hh]
    have h' := h
    obtain ⟨K, h1, h2, h3, h4⟩ := h
    refine (st_rem_no h1 i hh).mono ?_
    rintro _ w' ⟨rfl, k2⟩
    exact ⟨rfl, h'.go0 k2, Gu.of0 k2⟩
theorem sg_check (h : SG W wr ps s Z) (u v : Nat) (wt t : Int) (hu : u < 18446744073709551616) (hv : v < 18446744073709551616) :
    Calls Try.prog 23 #[sptr ps, recA u v wt t] wr fun e w' => e = .returned (.int .i64 (s.chk u v)) ∧ SG W w' ps s Z ∧ Fr [] wr w' := by
  have h' := h
  obtain ⟨K, h1, h2, h3, h4⟩ := h
  refine (st_check h1 u v hu hv wt t).mono ?_
  rintro _ w' ⟨rfl, k2⟩
  exact ⟨rfl, h'.go0 k2, k2⟩
theorem sg_get (h : SG W wr ps s Z) (i : Int) :
    Calls Try.prog 14 #[sptr ps, .int .i64 i] wr fun e w' => e = .returned (.tuple #[lvA (s.got i), .bool (s.has i)]) ∧ SG W w' ps s Z ∧ Fr [] wr w' := by
  have h' := h
  obtain ⟨K, h1, h2, h3, h4⟩ := h
  refine (st_get h1 i).mono ?_
  rintro _ w' ⟨rfl, k2⟩
  exact ⟨rfl, h'.go0 k2, k2⟩
theorem sg_len (h : SG W wr ps s Z) : Calls Try.prog 11 #[sptr ps] wr fun e w' => e = .returned (.int .i64 s.L.length) ∧ w' = wr := by
  obtain ⟨K, h1, _⟩ := h
  exact st_len h1
theorem sg_verts (h : SG W wr ps s Z) : Calls Try.prog 17 #[sptr ps] wr fun e w' => e = .returned (.int .i64 s.M.L.length) ∧ w' = wr := by
  obtain ⟨K, h1, _⟩ := h
  exact st_verts h1
theorem sg_index (h : SG W wr ps s Z) (id : Nat) (hid : id < 18446744073709551616) : Calls Try.prog 20 #[sptr ps, .int .u64 id] wr fun e w' => e = .returned (.tuple #[.int .i64 ((s.M.find id).getD 0), .bool (s.M.find id).isSome]) ∧ SG W w' ps s Z ∧ Fr [] wr w' := by
  have h' := h
  obtain ⟨K, h1, _⟩ := h
  refine (st_index h1 id hid).mono ?_
  rintro _ w' ⟨rfl, k2⟩
  exact ⟨rfl, h'.go0 k2, k2⟩
theorem sg_id (h : SG W wr ps s Z) (i : Int) : Calls Try.prog 22 #[sptr ps, .int .i64 i] wr fun e w' => e = .returned (.tuple #[.int .u64 ((s.M.at i).getD 0), .bool (s.M.at i).isSome]) ∧ w' = wr := by
  obtain ⟨K, h1, _⟩ := h
  exact st_id h1 i
theorem sg_ids (h : SG W wr ps s Z) : Calls Try.prog 19 #[sptr ps] wr fun e w' => ∃ v, e = .returned v ∧ RowU w' v s.ids ∧ SG W w' ps s (v.ownBlock.toList ++ Z) ∧ Fr [] wr w' := by
  have h' := h
  obtain ⟨K, h1, _⟩ := h
  refine (st_ids h1).mono ?_
  rintro _ w' ⟨v, rfl, k1, k2, k3⟩
  exact ⟨v, rfl, k1, h'.row k3 k2 (fun q hq => k1.lt hq), k3⟩
theorem sg_incident (h : SG W wr ps s Z) (id : Nat) (hid : id < 18446744073709551616) : Calls Try.prog 21 #[sptr ps, .int .u64 id] wr fun e w' => ∃ v, e = .returned v ∧ RowI w' v (incL s.L id) ∧ SG W w' ps s (v.ownBlock.toList ++ Z) ∧ Fr [] wr w' := by
  have h' := h
  obtain ⟨K, h1, _⟩ := h
  refine (st_incident h1 id hid).mono ?_
  rintro _ w' ⟨v, rfl, k1, k2, k3⟩
  exact ⟨v, rfl, k1, h'.row k3 k2 (fun q hq => k1.lt hq), k3⟩
end
end Go.Proofs.Ytbegdgnhpklceaa

/- store: equality of edges; rows of edges, of ids and of slots that are equal. -/
namespace Go.Proofs.Ytbegdgnhpklceaa
open Go.RowKit
set_option maxRecDepth 10000
set_option maxHeartbeats 1000000

def lvEq (e f : Lv) : Bool := decide (e = f)
def recEq (e f : Lv) : Bool := (e.u == f.u) && (e.v == f.v) && (e.wt == f.wt) && (e.t == f.t)
theorem eqIn_rec (u v u' v' : Nat) (wt t wt' t' : Int) (w : World) : (Op.equalIn 9999 32 (.agg #[.int .u64 u, .int .u64 v, .int .i64 wt, .int .i64 t]) (.agg #[.int .u64 u', .int .u64 v', .int .i64 wt', .int .i64 t'])).run Try.prog w = .ok ((u == u') && (v == v') && (wt == wt') && (t == t')) w := by
  have hc : ∀ (a b : Nat), ((a : Int) == (b : Int)) = (a == b) := fun a b => by rw [Bool.eq_iff_iff]; simp only [beq_iff_eq]; omega
  rw [show (9999 : Nat) = 9998 + 1 from rfl, run_equalIn_struct w 9998 _ _ _ (by kernel_rfl) (by kernel_rfl)]
  simp only [Program.fieldsOf, Try.underlying32, Op.eqFields]
  go_simp
  by_cases h1 : u = u' <;> by_cases h2 : v = v' <;> by_cases h3 : wt = wt' <;> by_cases h4 : t = t' <;> simp [h1, h2, h3, h4]
theorem eqIn_live0 (a a' b b' u v u' v' : Nat) (wt t x wt' t' x' : Int) (w : World) : (Op.equalIn 10000 34 (.agg #[.int .i64 a, .int .u64 b, .int .u64 u, .int .u64 v, .int .i64 wt, .int .i64 t, .int .i64 x]) (.agg #[.int .i64 a', .int .u64 b', .int .u64 u', .int .u64 v', .int .i64 wt', .int .i64 t', .int .i64 x'])).run Try.prog w = .ok ((a == a') && (b == b') && ((u == u') && (v == v') && (wt == wt') && (t == t')) && (x == x')) w := by
  have hc : ∀ (a b : Nat), ((a : Int) == (b : Int)) = (a == b) := fun a b => by rw [Bool.eq_iff_iff]; simp only [beq_iff_eq]; omega
  have hr := fun w => eqIn_rec u v u' v' wt t wt' t' w
  generalize ((u == u') && (v == v') && (wt == wt') && (t == t')) = r at *
  rw [show (10000 : Nat) = 9999 + 1 from rfl, run_equalIn_struct w 9999 _ _ _ (by kernel_rfl) (by kernel_rfl)]
  simp only [Program.fieldsOf, Try.underlying34, Op.eqFields]
  go_simp
  cases r <;> by_cases h1 : a = a' <;> by_cases h2 : b = b' <;> by_cases h3 : x = x' <;> simp [h1, h2, h3]
@[go_sem high] theorem eqIn_live (e f : Lv) (w : World) : (Op.equalIn 10000 34 (.agg #[.int .i64 e.slot, .int .u64 e.seq, .int .u64 e.u, .int .u64 e.v, .int .i64 e.wt, .int .i64 e.t, .int .i64 e.x]) (.agg #[.int .i64 f.slot, .int .u64 f.seq, .int .u64 f.u, .int .u64 f.v, .int .i64 f.wt, .int .i64 f.t, .int .i64 f.x])).run Try.prog w = .ok (lvEq e f) w := by
  rw [eqIn_live0]
  congr 1
  unfold lvEq
  rw [Bool.eq_iff_iff]
  obtain ⟨a, b, u, v, wt, t, x⟩ := e
  obtain ⟨a', b', u', v', wt', t', x'⟩ := f
  simp [and_assoc]
@[go_sem] theorem guard_live (op : BinOp) (x y : Operand) (xs ys : Array Value) (w : World) : (eqGuard op 34 x y (.agg xs) (.agg ys)).run Try.prog w = .ok () w := run_eqGuard_agg w op 34 x y xs ys (by kernel_rfl)

theorem Fr.of_drewN (w : World) (k : Nat) : Fr [] w (w.drewN k) := (Fr.refl [] w).drewN k
theorem same_w {w : World} {v u : Value} {p q : List Lv} (hv : RowV w v p) (hu : RowV w u q) (hp : p.length ≤ 65536) (_hq : q.length ≤ 65536) :
    Calls Try.prog 12 #[v, u] w fun e w' => e = .returned (.bool (decide (p = q))) ∧ Fr [] w w' := by
  obtain ⟨a1, c1, rfl⟩ := hv.slice
  obtain ⟨a2, c2, rfl⟩ := hu.slice
  have HV := Lib.hid hv; clear hv
  have HU := Lib.hid hu; clear hu
  by_cases hl : p.length = q.length
  · have hb : ((p.length : Int) != (q.length : Int)) = false := by simp; omega
    go_enter Try.func12, Try.ntmps12
    go_wp2
    go_loopw [5] (fun x wr => ∃ i : Nat, i ≤ p.length ∧ x = .int .i64 i ∧ (∃ k, wr = w.drewN k) ∧ Hid (p.take i = q.take i)) (fun x _ => p.length - (intOf x).toNat)
    case atStart => exact ⟨0, Nat.zero_le _, rfl, ⟨0, rfl⟩, Lib.hid (by simp)⟩
    case round =>
      obtain ⟨i, hi, rfl, ⟨k, rfl⟩, HT⟩ := hrel
      by_cases hlt : i < p.length
      · obtain ⟨b1, c1', e1, _, _, _, r1⟩ := HV.out.at hlt
        obtain ⟨b2, c2', e2, _, _, _, r2⟩ := HU.out.at (show i < q.length by omega)
        simp only [Value.slice.injEq, true_and] at e1 e2
        obtain ⟨rfl, rfl⟩ := e1
        obtain ⟨rfl, rfl⟩ := e2
        have hi1 : (i : Int) < p.length := by omega
        have hi2 : (i : Int) < q.length := by omega
        have hi0 : (0 : Int) ≤ i := by omega
        have hgp : p[i]? = some (p[i]'hlt) := List.getElem?_eq_getElem hlt
        have hgq : q[i]? = some (q[i]'(by omega)) := List.getElem?_eq_getElem (by omega)
        have Hg := Lib.hid (And.intro hgp hgq); clear hgp hgq
        generalize p[i]'hlt = x at *
        generalize q[i]'(by omega) = y at *
        obtain ⟨x0, x1, x2, x3, x4, x5, x6⟩ := r1
        obtain ⟨y0, y1, y2, y3, y4, y5, y6⟩ := r2
        by_cases hxy : x = y
        · have hne : lvEq x y = true := decide_eq_true hxy
          have Hxy := Lib.hid hxy; clear hxy
          go_wp2
          go_quiet (fail)
          go_wp2
          go_roundw
          case rel =>
            refine ⟨i + 1, by omega, by go_num, ⟨_, rfl⟩, Lib.hid ?_⟩
            rw [List.take_add_one, List.take_add_one, HT.out, Hg.out.1, Hg.out.2, Hxy.out]
          case measure => simp [intOf]; omega
        · have hne : lvEq x y = false := decide_eq_false hxy
          have Hxy := Lib.hid hxy; clear hxy
          go_wp2
          go_quiet (fail)
          go_wp2
          go_ret
          refine ⟨?_, (Fr.of_drewN w k).drewN _⟩
          have : decide (p = q) = false := decide_eq_false (fun e => by
            have h1 := Hg.out.1; have h2 := Hg.out.2
            rw [e, h2] at h1
            exact Hxy.out (Option.some.inj h1).symm)
          rw [this]; rfl
      · obtain rfl : i = p.length := by omega
        go_wp2
        go_ret
        refine ⟨?_, Fr.of_drewN w k⟩
        have : p = q := by
          have := HT.out
          rwa [List.take_length, hl, List.take_length] at this
        rw [decide_eq_true this]; rfl
  · have hb : ((p.length : Int) != (q.length : Int)) = true := by simp; omega
    go_enter Try.func12, Try.ntmps12
    go_wp2
    go_ret
    have : decide (p = q) = false := decide_eq_false (fun e => hl (by rw [e]))
    exact ⟨by rw [this]; rfl, Fr.refl _ _⟩
theorem sameIDs_w {w : World} {v u : Value} {p q : List Nat} (hv : RowU w v p) (hu : RowU w u q) (hp : p.length ≤ 65536) (_hq : q.length ≤ 65536) :
    Calls Try.prog 18 #[v, u] w fun e w' => e = .returned (.bool (decide (p = q))) ∧ Fr [] w w' := by
  obtain ⟨a1, c1, rfl⟩ := hv.slice
  obtain ⟨a2, c2, rfl⟩ := hu.slice
  have HV := Lib.hid hv; clear hv
  have HU := Lib.hid hu; clear hu
  by_cases hl : p.length = q.length
  · have hb : ((p.length : Int) != (q.length : Int)) = false := by simp; omega
    go_enter Try.func18, Try.ntmps18
    go_wp2
    go_loopw [5] (fun x wr => ∃ i : Nat, i ≤ p.length ∧ x = .int .i64 i ∧ (∃ k, wr = w.drewN k) ∧ Hid (p.take i = q.take i)) (fun x _ => p.length - (intOf x).toNat)
    case atStart => exact ⟨0, Nat.zero_le _, rfl, ⟨0, rfl⟩, Lib.hid (by simp)⟩
    case round =>
      obtain ⟨i, hi, rfl, ⟨k, rfl⟩, HT⟩ := hrel
      by_cases hlt : i < p.length
      · obtain ⟨b1, c1', e1, _, r1⟩ := HV.out.at hlt
        obtain ⟨b2, c2', e2, _, r2⟩ := HU.out.at (show i < q.length by omega)
        simp only [Value.slice.injEq, true_and] at e1 e2
        obtain ⟨rfl, rfl⟩ := e1
        obtain ⟨rfl, rfl⟩ := e2
        have hi1 : (i : Int) < p.length := by omega
        have hi2 : (i : Int) < q.length := by omega
        have hi0 : (0 : Int) ≤ i := by omega
        have hgp : p[i]? = some (p[i]'hlt) := List.getElem?_eq_getElem hlt
        have hgq : q[i]? = some (q[i]'(by omega)) := List.getElem?_eq_getElem (by omega)
        have Hg := Lib.hid (And.intro hgp hgq); clear hgp hgq
        generalize p[i]'hlt = x at *
        generalize q[i]'(by omega) = y at *
        by_cases hxy : x = y
        · have hne : ((x : Int) != (y : Int)) = false := by simp; omega
          have Hxy := Lib.hid hxy; clear hxy
          go_wp2
          go_quiet (fail)
          go_wp2
          go_roundw
          case rel =>
            refine ⟨i + 1, by omega, by go_num, ⟨_, rfl⟩, Lib.hid ?_⟩
            rw [List.take_add_one, List.take_add_one, HT.out, Hg.out.1, Hg.out.2, Hxy.out]
          case measure => simp [intOf]; omega
        · have hne : ((x : Int) != (y : Int)) = true := by simp; omega
          have Hxy := Lib.hid hxy; clear hxy
          go_wp2
          go_quiet (fail)
          go_wp2
          go_ret
          refine ⟨?_, (Fr.of_drewN w k).drewN _⟩
          have : decide (p = q) = false := decide_eq_false (fun e => by
            have h1 := Hg.out.1; have h2 := Hg.out.2
            rw [e, h2] at h1
            exact Hxy.out (Option.some.inj h1).symm)
          rw [this]; rfl
      · obtain rfl : i = p.length := by omega
        go_wp2
        go_ret
        refine ⟨?_, Fr.of_drewN w k⟩
        have : p = q := by
          have := HT.out
          rwa [List.take_length, hl, List.take_length] at this
        rw [decide_eq_true this]; rfl
  · have hb : ((p.length : Int) != (q.length : Int)) = true := by simp; omega
    go_enter Try.func18, Try.ntmps18
    go_wp2
    go_ret
    have : decide (p = q) = false := decide_eq_false (fun e => hl (by rw [e]))
    exact ⟨by rw [this]; rfl, Fr.refl _ _⟩
theorem sameInts_w {w : World} {v u : Value} {p q : List Nat} (hv : RowI w v p) (hu : RowI w u q) (hp : p.length ≤ 65536) (_hq : q.length ≤ 65536) :
    Calls Try.prog 51 #[v, u] w fun e w' => e = .returned (.bool (decide (p = q))) ∧ Fr [] w w' := by
  obtain ⟨a1, c1, rfl⟩ := hv.slice
  obtain ⟨a2, c2, rfl⟩ := hu.slice
  have HV := Lib.hid hv; clear hv
  have HU := Lib.hid hu; clear hu
  by_cases hl : p.length = q.length
  · have hb : ((p.length : Int) != (q.length : Int)) = false := by simp; omega
    go_enter Try.func51, Try.ntmps51
    go_wp2
    go_loopw [5] (fun x wr => ∃ i : Nat, i ≤ p.length ∧ x = .int .i64 i ∧ (∃ k, wr = w.drewN k) ∧ Hid (p.take i = q.take i)) (fun x _ => p.length - (intOf x).toNat)
    case atStart => exact ⟨0, Nat.zero_le _, rfl, ⟨0, rfl⟩, Lib.hid (by simp)⟩
    case round =>
      obtain ⟨i, hi, rfl, ⟨k, rfl⟩, HT⟩ := hrel
      by_cases hlt : i < p.length
      · obtain ⟨b1, c1', e1, _, r1⟩ := HV.out.at hlt
        obtain ⟨b2, c2', e2, _, r2⟩ := HU.out.at (show i < q.length by omega)
        simp only [Value.slice.injEq, true_and] at e1 e2
        obtain ⟨rfl, rfl⟩ := e1
        obtain ⟨rfl, rfl⟩ := e2
        have hi1 : (i : Int) < p.length := by omega
        have hi2 : (i : Int) < q.length := by omega
        have hi0 : (0 : Int) ≤ i := by omega
        have hgp : p[i]? = some (p[i]'hlt) := List.getElem?_eq_getElem hlt
        have hgq : q[i]? = some (q[i]'(by omega)) := List.getElem?_eq_getElem (by omega)
        have Hg := Lib.hid (And.intro hgp hgq); clear hgp hgq
        generalize p[i]'hlt = x at *
        generalize q[i]'(by omega) = y at *
        by_cases hxy : x = y
        · have hne : ((x : Int) != (y : Int)) = false := by simp; omega
          have Hxy := Lib.hid hxy; clear hxy
          go_wp2
          go_quiet (fail)
          go_wp2
          go_roundw
          case rel =>
            refine ⟨i + 1, by omega, by go_num, ⟨_, rfl⟩, Lib.hid ?_⟩
            rw [List.take_add_one, List.take_add_one, HT.out, Hg.out.1, Hg.out.2, Hxy.out]
          case measure => simp [intOf]; omega
        · have hne : ((x : Int) != (y : Int)) = true := by simp; omega
          have Hxy := Lib.hid hxy; clear hxy
          go_wp2
          go_quiet (fail)
          go_wp2
          go_ret
          refine ⟨?_, (Fr.of_drewN w k).drewN _⟩
          have : decide (p = q) = false := decide_eq_false (fun e => by
            have h1 := Hg.out.1; have h2 := Hg.out.2
            rw [e, h2] at h1
            exact Hxy.out (Option.some.inj h1).symm)
          rw [this]; rfl
      · obtain rfl : i = p.length := by omega
        go_wp2
        go_ret
        refine ⟨?_, Fr.of_drewN w k⟩
        have : p = q := by
          have := HT.out
          rwa [List.take_length, hl, List.take_length] at this
        rw [decide_eq_true this]; rfl
  · have hb : ((p.length : Int) != (q.length : Int)) = true := by simp; omega
    go_enter Try.func51, Try.ntmps51
    go_wp2
    go_ret
    have : decide (p = q) = false := decide_eq_false (fun e => hl (by rw [e]))
    exact ⟨by rw [this]; rfl, Fr.refl _ _⟩
end Go.Proofs.Ytbegdgnhpklceaa

/- store: the example of the chapter. -/
namespace Go.Proofs.Ytbegdgnhpklceaa
open Go.RowKit
set_option maxRecDepth 10000
set_option maxHeartbeats 1000000

def exS1 : Sm := (Sm.new 3 2 0).insS 1 2 5 0 10
def exS2 : Sm := exS1.insS 2 9 1 4 14
def exS3 : Sm := exS2.remS 0
theorem ex_r1 : (Sm.new 3 2 0).insR 1 2 5 0 10 = ⟨0, 1, 1, 2, 5, 0, 10⟩ ∧ (Sm.new 3 2 0).chk 1 2 = 0 ∧ (Sm.new 3 2 0).last = 0 := by decide
theorem ex_r2 : exS1.insR 2 9 1 4 14 = ⟨1, 2, 2, 9, 1, 4, 14⟩ ∧ exS1.chk 2 9 = 0 ∧ exS1.last = 1 := by decide
theorem ex_r3 : exS2.chk 1 1 = 9 ∧ exS2.chk 1 9 = 12 := by decide
theorem ex_r4 : exS2.got 0 = ⟨0, 1, 1, 2, 5, 0, 10⟩ ∧ exS2.remC 0 = 0 := by decide
theorem ex_r5 : exS3.chk 3 4 = 11 ∧ exS3.M.L.length = 2 := by decide

theorem works_w (w : World) : Calls Try.prog 15 #[] w fun e w' => e = .returned (.bool true) ∧ Fr [] w w' := by
  have HN := Lib.hid (sg_new (Z := []) 3 2 (Fr.refl [] w) (by simp) (by omega) (by omega))
  go_enter Try.func15, Try.ntmps15
  go_wp2_with fail
  refine HN.out.mono ?_
  rintro _ w1 ⟨ps, rfl, hS1, _⟩
  have A1 := sg_ins hS1 1 2 5 0 10 (by omega) (by omega) (by rw [ex_r1.2.2]; omega)
  rw [ex_r1.1, ex_r1.2.1, show (Sm.new 3 2 0).insS 1 2 5 0 10 = exS1 from rfl] at A1
  have A1 := Lib.hid A1
  clear hS1 HN
  go_wp2_with fail
  refine A1.out.mono ?_
  rintro _ w2 ⟨rfl, hS2, _⟩
  have hb2 := Blk.new w2 [.int .i64 0, .int .u64 1, .int .u64 1, .int .u64 2, .int .i64 5, .int .i64 0, .int .i64 10] 34
  have A2 := sg_ins (hS2.alloc (.cells #[.int .i64 0, .int .u64 1, .int .u64 1, .int .u64 2, .int .i64 5, .int .i64 0, .int .i64 10] 34)) 2 9 1 4 14 (by omega) (by omega) (by rw [ex_r2.2.2]; omega)
  rw [ex_r2.1, ex_r2.2.1, show exS1.insS 2 9 1 4 14 = exS2 from rfl] at A2
  have A2 := Lib.hid A2
  have HB2 := Lib.hid hb2
  clear hS2 A1 hb2
  go_wp2_with fail
  refine A2.out.mono ?_
  rintro _ w3 ⟨rfl, hS3, hG3⟩
  have hb3 := Blk.new w3 [.int .i64 1, .int .u64 2, .int .u64 2, .int .u64 9, .int .i64 1, .int .i64 4, .int .i64 14] 34
  have hx3 := (hG3.blk HB2.out (by simp)).alloc (.cells #[.int .i64 1, .int .u64 2, .int .u64 2, .int .u64 9, .int .i64 1, .int .i64 4, .int .i64 14] 34)
  have hS4 := hS3.alloc (.cells #[.int .i64 1, .int .u64 2, .int .u64 2, .int .u64 9, .int .i64 1, .int .i64 4, .int .i64 14] 34)
  have A3 := sg_check hS4 1 1 0 0 (by omega) (by omega)
  rw [ex_r3.1] at A3
  have A3 := Lib.hid A3
  have HB3 := Lib.hid (And.intro hx3 hb3)
  clear hS3 hS4 A2 hb3 hx3 HB2 hG3
  go_wp2_with fail
  refine A3.out.mono ?_
  rintro _ w4 ⟨rfl, hS4, hF4⟩
  have A4 := sg_check hS4 1 9 0 0 (by omega) (by omega)
  rw [ex_r3.2] at A4
  have A4 := Lib.hid A4
  have HB4 := Lib.hid (And.intro (hF4.blk HB3.out.1 (by simp)) (hF4.blk HB3.out.2 (by simp)))
  clear hS4 hF4 A3 HB3
  go_wp2_with fail
  refine A4.out.mono ?_
  rintro _ w5 ⟨rfl, hS5, hF5⟩
  have A5 := sg_rem hS5 0
  rw [ex_r4.1, ex_r4.2, show exS2.remS 0 = exS3 from rfl] at A5
  have A5 := Lib.hid A5
  have HB5 := Lib.hid (And.intro (hF5.blk HB4.out.1 (by simp)) (hF5.blk HB4.out.2 (by simp)))
  clear hS5 hF5 A4 HB4
  go_wp2_with fail
  refine A5.out.mono ?_
  rintro _ w6 ⟨rfl, hS6, hG6⟩
  have hb6 := Blk.new w6 [.int .i64 0, .int .u64 1, .int .u64 1, .int .u64 2, .int .i64 5, .int .i64 0, .int .i64 10] 34
  have hx6 := (hG6.blk HB5.out.1 (by simp)).alloc (.cells #[.int .i64 0, .int .u64 1, .int .u64 1, .int .u64 2, .int .i64 5, .int .i64 0, .int .i64 10] 34)
  have hy6 := (hG6.blk HB5.out.2 (by simp)).alloc (.cells #[.int .i64 0, .int .u64 1, .int .u64 1, .int .u64 2, .int .i64 5, .int .i64 0, .int .i64 10] 34)
  have A6 := sg_check (hS6.alloc (.cells #[.int .i64 0, .int .u64 1, .int .u64 1, .int .u64 2, .int .i64 5, .int .i64 0, .int .i64 10] 34)) 3 4 0 0 (by omega) (by omega)
  rw [ex_r5.1] at A6
  have A6 := Lib.hid A6
  have HB6 := Lib.hid (And.intro hx6 (And.intro hy6 hb6))
  clear hS6 hG6 A5 HB5 hb6 hx6 hy6
  go_wp2_with fail
  refine A6.out.mono ?_
  rintro _ w7 ⟨rfl, hS7, hF7⟩
  have A7 := sg_verts hS7
  rw [ex_r5.2] at A7
  have A7 := Lib.hid A7
  have H7 := Lib.hid hS7
  have t1 := (hF7.blk HB6.out.1 (by simp)).cell
  have t2 := (hF7.blk HB6.out.2.1 (by simp)).cell
  have t3 := (hF7.blk HB6.out.2.2 (by simp)).cell
  have x0 := t1 0; have x1 := t1 1; have x2 := t1 2; have x3 := t1 3; have x4 := t1 4; have x5 := t1 5; have x6 := t1 6
  have y0 := t2 0; have y1 := t2 1
  have z0 := t3 0; have z1 := t3 1; have z2 := t3 2; have z3 := t3 3; have z4 := t3 4; have z5 := t3 5; have z6 := t3 6
  simp only [List.getElem?_cons_zero, List.getElem?_cons_succ] at x0 x1 x2 x3 x4 x5 x6 y0 y1 z0 z1 z2 z3 z4 z5 z6
  clear hS7 hF7 A6 HB6 t1 t2 t3
  go_wp2_with fail
  refine A7.out.mono ?_
  rintro _ w8 ⟨rfl, rfl⟩
  clear A7
  go_wp2
  go_ret
  exact ⟨rfl, H7.out.fr⟩
end Go.Proofs.Ytbegdgnhpklceaa

/- slices.SortFunc of edges by their sequence numbers. -/
namespace Go.Proofs.Ytbegdgnhpklceaa
open Go.RowKit Go.Lib Go.Sort
set_option maxRecDepth 10000
set_option maxHeartbeats 1000000

instance : Inhabited Lv := ⟨Lv.z⟩
def Try.laysSortL_ren : Go.Shelf.Ren := ⟨fun | 6 => 32 | 15 => 56 | 14 => 55 | 28 => 76 | 29 => 77 | 20 => 68 | 21 => 69 | 22 => 70 | 23 => 71 | 24 => 72 | 25 => 73 | 26 => 74 | 27 => 75 | 46 => 81 | 47 => 82 | 48 => 83 | 49 => 84 | 50 => 85 | 57 => 96 | n => n, fun | 22 => 24 | 24 => 34 | 25 => 73 | 3 => 3 | 39 => 97 | 0 => 0 | 53 => 125 | 55 => 30 | 4 => 4 | 46 => 119 | 45 => 118 | 50 => 44 | 5 => 5 | 9 => 9 | 66 => 131 | 70 => 135 | 76 => 144 | 77 => 145 | n => n, fun | n => n⟩
theorem Try.laysSortL : Go.Proofs.SlLaysF0.n6 Try.prog Try.laysSortL_ren := {
  mixed := by kernel_rfl
  f6 := ⟨Try.f32.name, by decide, Try.func32.trans (congrArg some (by kernel_rfl))⟩
  f14 := ⟨Try.f55.name, by decide, Try.func55.trans (congrArg some (by kernel_rfl))⟩
  f15 := Try.func56.trans (congrArg some (by kernel_rfl))
  f20 := ⟨Try.f68.name, by decide, Try.func68.trans (congrArg some (by kernel_rfl))⟩
  f21 := ⟨Try.f69.name, by decide, Try.func69.trans (congrArg some (by kernel_rfl))⟩
  f22 := ⟨Try.f70.name, by decide, Try.func70.trans (congrArg some (by kernel_rfl))⟩
  f23 := ⟨Try.f71.name, by decide, Try.func71.trans (congrArg some (by kernel_rfl))⟩
  f24 := ⟨Try.f72.name, by decide, Try.func72.trans (congrArg some (by kernel_rfl))⟩
  f25 := ⟨Try.f73.name, by decide, Try.func73.trans (congrArg some (by kernel_rfl))⟩
  f26 := ⟨Try.f74.name, by decide, Try.func74.trans (congrArg some (by kernel_rfl))⟩
  f27 := ⟨Try.f75.name, by decide, Try.func75.trans (congrArg some (by kernel_rfl))⟩
  f28 := Try.func76.trans (congrArg some (by kernel_rfl))
  f29 := Try.func77.trans (congrArg some (by kernel_rfl))
  f46 := ⟨Try.f81.name, by decide, Try.func81.trans (congrArg some (by kernel_rfl))⟩
  f47 := Try.func82.trans (congrArg some (by kernel_rfl))
  f48 := Try.func83.trans (congrArg some (by kernel_rfl))
  f49 := ⟨Try.f84.name, by decide, Try.func84.trans (congrArg some (by kernel_rfl))⟩
  f50 := ⟨Try.f85.name, by decide, Try.func85.trans (congrArg some (by kernel_rfl))⟩
  f57 := ⟨Try.f96.name, by decide, Try.func96.trans (congrArg some (by kernel_rfl))⟩
  t0 := Try.underlying0
  a0 := Try.isAgg0
  z0 := Try.sizeOf0
  v0 := Try.zeroValue0
  t3 := Try.underlying3
  a3 := Try.isAgg3
  z3 := Try.sizeOf3
  v3 := Try.zeroValue3
  t4 := Try.underlying4
  a4 := Try.isAgg4
  z4 := Try.sizeOf4
  v4 := Try.zeroValue4
  t5 := Try.underlying5
  a5 := Try.isAgg5
  z5 := Try.sizeOf5
  v5 := Try.zeroValue5
  t9 := Try.underlying9
  a9 := Try.isAgg9
  z9 := Try.sizeOf9
  v9 := Try.zeroValue9
  t22 := Try.underlying24
  a22 := Try.isAgg24
  z22 := Try.sizeOf24
  v22 := Try.zeroValue24
  t25 := Try.underlying73
  a25 := Try.isAgg73
  z25 := Try.sizeOf73
  v25 := Try.zeroValue73
  t39 := Try.underlying97
  a39 := Try.isAgg97
  z39 := Try.sizeOf97
  v39 := Try.zeroValue97
  t45 := Try.underlying118
  a45 := Try.isAgg118
  z45 := Try.sizeOf118
  v45 := Try.zeroValue118
  t46 := Try.underlying119
  a46 := Try.isAgg119
  z46 := Try.sizeOf119
  v46 := Try.zeroValue119
  t50 := Try.underlying44
  a50 := Try.isAgg44
  z50 := Try.sizeOf44
  v50 := Try.zeroValue44
  t53 := Try.underlying125
  a53 := Try.isAgg125
  z53 := Try.sizeOf125
  v53 := Try.zeroValue125
  t55 := Try.underlying30
  a55 := Try.isAgg30
  z55 := Try.sizeOf30
  v55 := Try.zeroValue30
  t66 := Try.underlying131
  a66 := Try.isAgg131
  z66 := Try.sizeOf131
  v66 := Try.zeroValue131
  t70 := Try.underlying135
  a70 := Try.isAgg135
  z70 := Try.sizeOf135
  v70 := Try.zeroValue135
  t76 := Try.underlying144
  a76 := Try.isAgg144
  z76 := Try.sizeOf144
  v76 := Try.zeroValue144
  t77 := Try.underlying145
  a77 := Try.isAgg145
  z77 := Try.sizeOf145
  v77 := Try.zeroValue145 }

def seqC (a b : Lv) : Int := if a.seq < b.seq then -1 else if b.seq < a.seq then 1 else 0
theorem seq_lt (a b : Lv) : ltOf seqC a b = decide (a.seq < b.seq) := by
  unfold ltOf seqC
  by_cases h1 : a.seq < b.seq
  · simp [h1]
  · by_cases h2 : b.seq < a.seq <;> simp [h1, h2]
theorem seq_swo : SWO (ltOf seqC) where
  irrefl x := by rw [seq_lt]; simp
  trans x y z h1 h2 := by rw [seq_lt] at *; simp at *; omega
  ntrans x y z h1 h2 := by rw [seq_lt] at *; simp at *; omega
theorem flat_row (l : List Lv) : (flatK lvC 7 l.toArray).toList = rowV l := by
  refine List.ext_getElem? fun t => ?_
  by_cases ht : t < l.length * 7
  · have h7 : t / 7 < l.length := by omega
    have hm : t % 7 < 7 := Nat.mod_lt _ (by omega)
    have h1 := rowV_at h7 (t % 7) hm
    rw [show t / 7 * 7 + t % 7 = t by omega] at h1
    rw [h1, Array.getElem?_toList]
    have hc : t % 7 < (lvC l[t / 7]).length := by simp [lvC]; omega
    rw [List.getElem?_eq_getElem hc]
    simp only [flatK, List.size_toArray, Array.getElem?_map]
    rw [Array.getElem?_eq_getElem (by simpa using ht)]
    simp only [Array.getElem_range, Option.map_some]
    rw [getElem!_pos l.toArray (t / 7) (by simpa using h7)]
    simp only [List.getElem_toArray]
    rw [getElem!_pos (lvC (l[t / 7])) (t % 7) hc]
  · rw [List.getElem?_eq_none (by simp; omega), List.getElem?_eq_none (by rw [rowV_len]; omega)]
theorem perm_sorted_eq : ∀ {L l : List Lv}, l.Perm L → L.Pairwise (fun a b => a.seq < b.seq) → l.Pairwise (fun a b => a.seq ≤ b.seq) → l = L
  | [], l, hp, _, _ => List.Perm.eq_nil hp
  | a :: r, [], hp, _, _ => by have := hp.length_eq; simp at this
  | a :: r, b :: t, hp, hL, hl => by
    rw [List.pairwise_cons] at hL hl
    have hb : b ∈ a :: r := hp.subset (List.mem_cons_self ..)
    have ha : a ∈ b :: t := hp.symm.subset (List.mem_cons_self ..)
    have e : b = a := by
      rcases List.mem_cons.1 hb with e | hb
      · exact e
      · rcases List.mem_cons.1 ha with e | ha
        · exact e.symm
        · have h1 := hL.1 b hb
          have h2 := hl.1 a ha
          omega
    subst e
    rw [perm_sorted_eq (List.Perm.cons_inv hp) hL.2 hl.2]
theorem isnan_u (x : Int) (w : World) : Calls Try.prog 57 #[.int .u64 x] w fun e w' => e = .returned (.bool false) ∧ w' = w := by
  go_enter Try.func57, Try.ntmps57
  go_wp2
  go_ret
  exact ⟨by simp, rfl⟩
theorem compare_u (x y : Nat) (w : World) : Calls Try.prog 34 #[.int .u64 x, .int .u64 y] w fun e w' => e = .returned (.int .i64 (if x < y then -1 else if y < x then 1 else 0)) ∧ w' = w := by
  go_enter Try.func34, Try.ntmps34
  by_cases h1 : x < y
  · have d1 : decide ((x : Int) < (y : Int)) = true := decide_eq_true (by omega)
    go_wp2_with (go_at_call 57; refine (isnan_u _ _).mono ?_; rintro e w' ⟨rfl, rfl⟩)
    go_ret
    exact ⟨by simp [h1], rfl⟩
  · have d1 : decide ((x : Int) < (y : Int)) = false := decide_eq_false (by omega)
    by_cases h2 : y < x
    · have d2 : decide ((y : Int) < (x : Int)) = true := decide_eq_true (by omega)
      go_wp2_with (go_at_call 57; refine (isnan_u _ _).mono ?_; rintro e w' ⟨rfl, rfl⟩)
      go_ret
      exact ⟨by simp [h1], rfl⟩
    · have d2 : decide ((y : Int) < (x : Int)) = false := decide_eq_false (by omega)
      go_wp2_with (go_at_call 57; refine (isnan_u _ _).mono ?_; rintro e w' ⟨rfl, rfl⟩)
      go_ret
      exact ⟨by simp [h1], rfl⟩
theorem seq_closure (a b : Lv) (w : World) : Calls Try.prog 33 #[lvA a, lvA b] w fun e w' => e = .returned (.int .i64 (seqC a b)) ∧ ∃ q os', w' = grow (w.drewN q) os' := by
  have hcon := fun W => compare_u a.seq b.seq W
  have hr : seqC a b = if a.seq < b.seq then -1 else if b.seq < a.seq then 1 else 0 := rfl
  rw [← hr] at hcon
  generalize seqC a b = r at *
  have HC := Lib.hid hcon
  clear hr hcon
  go_enter Try.func33, Try.ntmps33
  go_wp2_with (go_at_call 34; refine (HC.out _).mono ?_; rintro e w' ⟨rfl, rfl⟩)
  go_ret
  exact ⟨rfl, 0, _, by rw [alloc_eq_grow, alloc_eq_grow, grow_grow]; rfl⟩
theorem seq_lays (blk off size : Nat) (w : World) : CmpLays Try.prog 33 #[] lvC 7 seqC blk off size w :=
  fun _ _ _ _ x y => seq_closure x y _

theorem insC_nil (fv : Value) (w : World) : Calls Try.prog 68 #[.slice none 0 0, .int .i64 0, .int .i64 0, fv] w fun e w' => e = .returned (.tuple #[]) ∧ w' = w := by
  go_enter Try.func68, Try.ntmps68
  go_wp2
  refine wp_loop_rounds 1 ?_
  rw [rounds_succ]
  go_wp2
  go_end0
  exact ⟨rfl, rfl⟩
theorem pdqC_nil (k : Int) (fv : Value) (w : World) : Calls Try.prog 55 #[.slice none 0 0, .int .i64 0, .int .i64 0, .int .i64 k, fv] w fun e w' => e = .returned (.tuple #[]) ∧ w' = w := by
  go_enter Try.func55, Try.ntmps55
  go_wp2
  refine wp_loop_rounds 1 ?_
  rw [rounds_succ]
  go_wp2_with (first | (go_at_call 68; refine (insC_nil _ _).mono ?_; rintro e w' ⟨rfl, rfl⟩))
  refine bodyPost_ret (v := .tuple #[]) (results_none rfl _ _ _) rfl ?_
  exact ⟨rfl, rfl⟩
theorem sortC_nil (fv : Value) (w : World) : Calls Try.prog 32 #[.slice none 0 0, fv] w fun e w' => e = .returned (.tuple #[]) ∧ w' = w := by
  have h := Any.bits_Len Try.laysLen 0 w (by omega) (by omega)
  have HL := Lib.hid h
  clear h
  go_enter Try.func32, Try.ntmps32
  go_wp2_with fail
  refine HL.out.mono ?_
  rintro _ _ ⟨rfl, rfl⟩
  go_wp2_with fail
  refine (pdqC_nil _ _ _).mono ?_
  rintro _ w1 ⟨rfl, rfl⟩
  go_wp2
  go_end0
  exact ⟨rfl, rfl⟩

theorem sort_live {w : World} {v : Value} {l L : List Lv} (h : RowV w v l) (hn : l.length ≤ 16384) (hp : l.Perm L) (hs : L.Pairwise fun a b => a.seq < b.seq) :
    Calls Try.prog 32 #[v, .func (.func 33) #[] #[]] w fun e w' => e = .returned (.tuple #[]) ∧ RowV w' v L ∧ Fr v.ownBlock.toList w w' := by
  have hl := h.1
  rcases h.2 with ⟨rfl, h0⟩ | ⟨g, cap, cur, rfl, hg, hcur, hnc, hcm, hcs, htk⟩
  · have : l = [] := List.length_eq_zero_iff.1 (by simpa using h0)
    subst this
    have hL : L = [] := List.Perm.eq_nil hp.symm
    subst hL
    refine (sortC_nil _ w).mono ?_
    rintro _ w' ⟨rfl, rfl⟩
    exact ⟨rfl, h, Fr.refl _ _⟩
  · have eg : ∀ args w, (callFunc 33 args).run Try.prog w = .ok (.enter 33 args) w := enters_of Try.func33 (by kernel_rfl) rfl
    have hH : HoldsK lvC 7 w g 0 l.toArray := by
      intro j hj
      have hj' : j < l.length * 7 := by simpa using hj
      refine ⟨?_, by simp [World.frozen?, hcur]⟩
      have h1 : (cur.toList.take (l.length * 7))[j]? = (rowV l)[j]? := by rw [htk]
      rw [List.getElem?_take_of_lt hj'] at h1
      simp only [World.cell?, hcur, Nat.zero_add]
      simp only [Option.isSome_none, Bool.false_eq_true, if_false]
      rw [← Array.getElem?_toList, h1, ← flat_row, Array.getElem?_toList, getElem!_pos _ j hj, Array.getElem?_eq_getElem hj]
      rfl
    have hcon := AnyQ.slices_SortFunc Try.laysSortL 7 Try.isAgg34 Try.sizeOf34 lvC (fun _ => rfl) (fun x u hu => by simp [lvC] at hu; rcases hu with rfl | rfl | rfl | rfl | rfl | rfl | rfl <;> rfl) seqC seq_swo 33 #[] g 0 cap l.toArray w eg (seq_lays g 0 l.toArray.size w) hH (Array.getElem?_eq_some_iff.1 hcur).1 (by simp; omega)
    rw [List.size_toArray] at hcon
    refine hcon.mono ?_
    rintro _ w' ⟨rfl, d', m, os, hperm, hsort, rfl⟩
    obtain ⟨hsz, _, hpp⟩ := hperm
    simp only [List.size_toArray] at hsz
    have e1 : d'.extract 0 l.length = d' := by rw [← hsz]; simp
    have e2 : l.toArray.extract 0 l.length = l.toArray := by simp
    rw [e1, e2] at hpp
    have hd : d'.toList = L := by
      refine perm_sorted_eq (hpp.trans hp) hs ?_
      rw [List.pairwise_iff_getElem]
      intro i j hi hj hij
      have hi' : i < d'.size := by simpa using hi
      have hj' : j < d'.size := by simpa using hj
      have := hsort i j (Nat.zero_le _) hij (by omega)
      rw [seq_lt, getElem!_pos d' i hi', getElem!_pos d' j hj'] at this
      simp only [decide_eq_false_iff_not] at this
      simp only [Array.getElem_toList]
      omega
    have hda : d' = L.toArray := by rw [← hd]
    subst hda
    have hLl : L.length = l.length := by simpa using hsz
    have hb : (sortWorldK lvC 7 w g 0 m L.toArray os).heap[g]? = some (.cells (putCells id 0 (flatK lvC 7 L.toArray) cur) 34 (0, 0)) := by
      unfold sortWorldK putRowK
      rw [heap_grow_old _ _ (by simpa using (Array.getElem?_eq_some_iff.1 hcur).1)]
      simp [putRow, mapBlock, Sort.ahead, Array.getElem?_modify, hcur, onCells]
    refine ⟨rfl, ⟨by rw [rowV_len], .inr ⟨g, cap, _, by rw [hLl], Nat.zero_le _, hb, by omega, hcm, by simp [putCells, hcs], ?_⟩⟩, ?_⟩
    · rw [← flat_row]
      refine List.ext_getElem? fun j => ?_
      by_cases hj : j < L.length * 7
      · rw [List.getElem?_take_of_lt hj, Array.getElem?_toList, Array.getElem?_toList]
        have hjc : j < cur.size := by rw [hcs]; omega
        have hjf : j < (flatK lvC 7 L.toArray).size := by simpa using hj
        simp only [putCells, Array.getElem?_mapIdx, Array.getElem?_eq_getElem hjc, Option.map_some, Nat.zero_le, true_and, Nat.zero_add, if_pos hjf, Nat.sub_zero]
        rw [getElem!_pos _ j hjf, Array.getElem?_eq_getElem hjf]
        rfl
      · rw [List.getElem?_take_eq_none (by omega), List.getElem?_eq_none (by simp; omega)]
    · refine (Fr.refl _ _).grown (row := some g) ⟨rfl, rfl, rfl, by simp [sortWorldK, putRowK], fun k hk hne => ?_⟩ (fun k e => .inl (by simp at e; simp [e, Value.ownBlock]))
      unfold sortWorldK putRowK
      rw [heap_grow_old _ _ (by simpa using hk)]
      have : g ≠ k := fun e => hne (by rw [e])
      simp [putRow, mapBlock, Sort.ahead, Array.getElem?_modify, this]
end Go.Proofs.Ytbegdgnhpklceaa

/- store: List. -/
namespace Go.Proofs.Ytbegdgnhpklceaa
open Go.RowKit
set_option maxRecDepth 10000
set_option maxHeartbeats 1000000

theorem used_perm {s : Sm} (h : s.Ok) : ((usedL s.A).map (liveAt s.L)).Perm s.L := by
  have h1 : (usedL s.A).Perm (s.L.map (·.slot)) := (List.perm_ext_iff_of_nodup (nodup_usedL s.A) h.one).2 fun i => by rw [mem_usedL, h.used]; simp
  have h2 := h1.map (liveAt s.L)
  rw [List.map_map] at h2
  have h3 : s.L.map (liveAt s.L ∘ fun e => e.slot) = s.L := by
    conv => rhs; rw [← List.map_id s.L]
    exact List.map_congr_left fun e he => liveAt_mem h.one he
  rw [h3] at h2
  exact h2
section
variable {w w' : World} {ps : Nat} {s : Sm} {K : List Nat}
theorem st_list (h : StoreAt w ps s K) : Calls Try.prog 13 #[sptr ps] w fun e w' => ∃ v, e = .returned v ∧ RowV w' v s.L ∧ (∀ q, v.ownBlock = some q → w.heap.size ≤ q) ∧ Fr [] w w' := by
  have HV := Lib.hid (st_valid h)
  obtain ⟨pa, pt, mb, n, vl, la, lT, lb, c, hB, rfl, c0, c1, c2, c3, c4, c5, c6⟩ := h.open
  have HL := Lib.hid (arena_list hB.ar)
  have HB := Lib.hid hB
  have HLT := Lib.hid hB.lt
  clear h hB c0 c1 c2 c4 c6
  go_enter Try.func13, Try.ntmps13
  go_wp2_with fail
  refine HV.out.mono ?_
  rintro _ w ⟨rfl, rfl⟩
  go_wp2_with fail
  refine HL.out.mono ?_
  rintro _ w1 ⟨v, rfl, hown, hnew, hF1⟩
  have hrow : RowI w1 v (usedL s.A) := hown
  obtain ⟨av, cv, rfl⟩ := hrow.slice
  obtain ⟨U, hU⟩ : ∃ U, U = usedL s.A := ⟨_, rfl⟩
  have hUu : ∀ i ∈ U, liveAt s.L i ∈ s.L ∧ (liveAt s.L i).slot = i := fun i hi => by
    rw [hU, mem_usedL] at hi
    exact Sm.live_used HB.out.ok hi
  have hperm := used_perm HB.out.ok
  have hUl : U.length ≤ 16384 := by
    rw [hU, usedL_len HB.out.ok.ar]
    have h2 := HB.out.ok.ar.hb; have h3 := HB.out.ok.sl; have h4 := HB.out.ok.leE
    unfold Ar.used
    omega
  rw [← hU] at hown hrow hperm hnew ⊢
  clear hU hown HL HV
  have HU := Lib.hid (And.intro hUu (And.intro hperm hUl)); clear hUu hperm
  have HR := Lib.hid (And.intro hrow (And.intro hnew hF1)); clear hrow hnew hF1
  go_wp2_with fail
  go_loopw [3, 15] (fun x y wr => ∃ (k : Nat) (v' : Value), k ≤ U.length ∧ y = .int .i64 k ∧ x = v' ∧ Hid (RowV wr v' ((U.take k).map (liveAt s.L)) ∧ (∀ q, v'.ownBlock = some q → w1.heap.size ≤ q) ∧ Fr [] w1 wr)) (fun _ y _ => U.length - (intOf y).toNat)
  case atStart => exact ⟨0, _, Nat.zero_le _, rfl, rfl, Lib.hid ⟨RowV.nil _, fun q e => (by cases e), Fr.refl _ _⟩⟩
  case round =>
    obtain ⟨k, v', hk, rfl, rfl, HS⟩ := hrel
    rename World => wr
    by_cases hlt : k < U.length
    · have hki : (k : Int) < U.length := by omega
      obtain ⟨bI, cI, eI, hbI, hcI⟩ := (HR.out.1.fr0 HS.out.2.2).at hlt
      simp only [Value.slice.injEq, true_and] at eI
      obtain ⟨rfl, rfl⟩ := eI
      obtain ⟨x, hx⟩ : ∃ x, x = U[k] := ⟨_, rfl⟩
      obtain ⟨hm, hs⟩ := HU.out.1 x (by rw [hx]; exact List.getElem_mem hlt)
      have hxn : x < n := by have := HB.out.sn _ hm; omega
      have hxi : (x : Int) < n := by omega
      have hF : Fr [] w wr := HR.out.2.2.trans' HS.out.2.2
      obtain ⟨b, cap, ev, _, hb, hz, hat⟩ := (HB.out.lv.fr0 hF).at (i := x) (by simp; omega)
      simp only [List.length_map, List.length_range] at ev
      have k5 := hF.cell c5 (by simp)
      rw [ev] at k5
      simp only [List.getElem_map, List.getElem_range] at hat
      rw [← hx] at hcI
      obtain ⟨e, he⟩ : ∃ e, e = liveAt s.L x := ⟨_, rfl⟩
      rw [← he] at hat
      have HE := Lib.hid (And.intro he hx); clear he hx hm hs hz
      obtain ⟨e0, e1, e2, e3, e4, e5, e6⟩ := hat
      obtain ⟨ar, cr, er⟩ := HS.out.1.slice
      have hlk : ((U.take k).map (liveAt s.L)).length = k := by simp; omega
      rw [hlk] at er
      subst er
      have hrow : (wr.alloc (.cells (lvC e).toArray 34)).ownsRow 0 34 7 (.slice ar k cr) k (rowV ((U.take k).map (liveAt s.L))) := by
        have := HS.out.1.fr0 ((Fr.refl [] wr).alloc (.cells (lvC e).toArray 34))
        unfold RowV at this
        rw [hlk] at this
        exact this
      have HRW := Lib.hid hrow; clear hrow
      have HZ := Lib.hid (Blk.new wr (lvC e) 34)
      have H7 := Lib.hid (show ∀ u ∈ lvC e, u.oneCell' = true from fun u hu => by simp [lvC] at hu; rcases hu with rfl | rfl | rfl | rfl | rfl | rfl | rfl <;> rfl)
      have hUl2 := HU.out.2.2
      go_wp2_with (first | (at_builtin; refine wpList_appK rfl _ _ 24 rfl 34 lvZero 7 56 Try.underlying24 Try.info34 rfl (by decide) (.slice ar k cr) k _ rfl HRW.out wr.heap.size 34 (lvC e) rfl HZ.out rfl H7.out (by omega) (by decide) ?_; intro g' cap' w6 hown6 hgrow6 hg6; have hF6 : Fr (Value.slice ar k cr).ownBlock.toList (wr.alloc (.cells (lvC e).toArray 34)) w6 := (Fr.refl _ _).grown hgrow6 (fun q e => .inl (by simp [e]))) | fail)
      go_roundw
      case rel =>
        have hs6 := hF6.size
        have hown7 : RowV w6 (.slice (some ⟨g', 0, none⟩) (k + 1) cap') ((U.take (k + 1)).map (liveAt s.L)) := by
          rw [List.take_add_one, List.getElem?_eq_getElem hlt, Option.toList_some, List.map_append, List.map_cons, List.map_nil, ← HE.out.2, ← HE.out.1]
          unfold RowV
          rw [rowV_snoc, List.length_append, hlk]
          exact hown6
        refine ⟨k + 1, _, by omega, by go_num, rfl, Lib.hid ⟨hown7, ?_, ?_⟩⟩
        · intro q hq
          simp only [Value.ownBlock, Option.some.injEq] at hq
          subst hq
          rcases hg6 with h6 | h6
          · exact HS.out.2.1 _ h6
          · have := HS.out.2.2.size
            simp only [World.size_alloc] at h6; omega
        · exact (HS.out.2.2.alloc _).trans hF6 (fun q hq => .inr (HS.out.2.1 q (by simpa using hq)))
      case measure => simp [intOf]; omega
    · obtain rfl : k = U.length := by omega
      have hrow := HS.out.1
      rw [List.take_length] at hrow
      have HSO := Lib.hid (sort_live hrow (by rw [List.length_map]; exact HU.out.2.2) HU.out.2.1 HB.out.ok.seq)
      clear hrow
      go_wp2_with fail
      refine HSO.out.mono ?_
      rintro _ w9 ⟨rfl, hr9, hF9⟩
      have HR9 := Lib.hid (And.intro hr9 hF9); clear hr9 hF9
      go_wp2
      go_ret
      have hs1 := HR.out.2.2.size
      refine ⟨_, rfl, HR9.out.1, fun q hq => Nat.le_trans hs1 (HS.out.2.1 q hq), ?_⟩
      exact (HR.out.2.2.trans' HS.out.2.2).trans HR9.out.2 (fun q hq => .inr (Nat.le_trans hs1 (HS.out.2.1 q (by simpa using hq))))
end
end Go.Proofs.Ytbegdgnhpklceaa

namespace Go.Proofs.Ytbegdgnhpklceaa
open Go.RowKit
set_option maxRecDepth 10000
set_option maxHeartbeats 800000

theorem wp_app_at {P : Program} {w : World} {o : Oper} {a : Act} {K : Act → World → Prop} {Q : Exit → Act → World → Prop} (s x : Operand) (t : TypeId)
    (ho : o.op = .call { callee := .builtin .append, args := #[s, x], argTypes := #[t, t] })
    (e : TypeId) (z : Value) (size bytes : Nat) (ht : P.underlying t = some (.slice e)) (hinfo : (P.info? e).map (fun i => (i.zero, i.size, i.bytes)) = some (some z, size, bytes)) (hzs : z.cells.size = size) (hsz : 0 < size)
    (v : Value) (n : Nat) (xs : List Value) (hs : a.eval s = v) (hown : w.ownsRow 0 e size v n xs)
    (A : Addr) (m c : Nat) (news : List Value) (hx : a.eval x = .slice (some A) m c) (hl : news.length = m * size) (hc : ∀ j u, news[j]? = some u → w.cell? (A.add j) = some u) (h1 : ∀ u ∈ news, u.oneCell' = true)
    (hn : n + m ≤ 4294967296) (hby : bytes ≤ 1024)
    (h : ∀ v' w', w'.ownsRow 0 e size v' (n + m) (xs ++ news) → w.grownBy w' v.ownBlock → (v'.ownBlock = v.ownBlock ∨ v'.ownBlock = some w.heap.size) → K (a.put o.dst v') w') : o.wp P a w K Q := by
  obtain ⟨i0, hi, hz0, hz1, hz2⟩ := info_parts hinfo
  have hbb : (n + m) * bytes ≤ 140737488355328 := by
    have : (n + m) * bytes ≤ 4294967296 * 1024 := Nat.mul_le_mul hn hby
    omega
  obtain ⟨v', w', hr, h2, h3, _, h5⟩ := run_append_own_at (P := P) w 0 t o.type e i0 z size bytes ht hi hz0 hz1 hz2 hzs hsz v n xs hown A m c news hl hc h1 (by unfold maxLen; omega) hbb (Nat.zero_le _)
  unfold Oper.wp execOp
  simp only [ho, resolve, invoke, builtin, Sem.run_bind, Sem.run_pure, Result.andThen_ok, List.map_toArray, List.map_cons, List.map_nil, hs, hx, hr]
  exact h v' w' h2 h3 h5
theorem step_app_at {P : Program} {w : World} {ops : Array Oper} {o : Oper} {a : Act} {K : Act → World → Prop} {Q : Exit → Act → World → Prop} {E : Prop} (hgd : o.guard = none) (s x : Operand) (t : TypeId)
    (ho : o.op = .call { callee := .builtin .append, args := #[s, x], argTypes := #[t, t] })
    (e : TypeId) (z : Value) (size bytes : Nat) (ht : P.underlying t = some (.slice e)) (hinfo : (P.info? e).map (fun i => (i.zero, i.size, i.bytes)) = some (some z, size, bytes)) (hzs : z.cells.size = size) (hsz : 0 < size)
    (v : Value) (n : Nat) (xs : List Value) (hs : a.eval s = v) (hown : w.ownsRow 0 e size v n xs)
    (A : Addr) (m c : Nat) (news : List Value) (hx : a.eval x = .slice (some A) m c) (hl : news.length = m * size) (hc : ∀ j u, news[j]? = some u → w.cell? (A.add j) = some u) (h1 : ∀ u ∈ news, u.oneCell' = true)
    (hn : n + m ≤ 4294967296) (hby : bytes ≤ 1024)
    (h : ∀ v' w', w'.ownsRow 0 e size v' (n + m) (xs ++ news) → w.grownBy w' v.ownBlock → (v'.ownBlock = v.ownBlock ∨ v'.ownBlock = some w.heap.size) → K (a.put o.dst v') w') :
    if Region.wanted o (yielded ops a.tmps) = true then Oper.wp P o a w K Q else E := by
  rw [if_pos (by simp [Region.wanted, hgd])]
  exact wp_app_at s x t ho e z size bytes ht hinfo hzs hsz v n xs hs hown A m c news hx hl hc h1 hn hby h
/-- The cells of a part of a row. -/
theorem RowV.part {w : World} {b n cap : Nat} {l : List Lv} (h : RowV w (.slice (some ⟨b, 0, none⟩) n cap) l) (i m : Nat) (hm : i + m ≤ l.length) : ∀ j u, (rowV ((l.drop i).take m))[j]? = some u → w.cell? ((⟨b, i * 7, none⟩ : Addr).add j) = some u := by
  intro j u hj
  have hlen : ((l.drop i).take m).length = m := by simp; omega
  have hjm : j < m * 7 := by
    have := (List.getElem?_eq_some_iff.1 hj).1
    rw [rowV_len, hlen] at this; exact this
  have hq : j / 7 < m := by omega
  have hr : j % 7 < 7 := Nat.mod_lt _ (by omega)
  have e1 := rowV_at (l := (l.drop i).take m) (i := j / 7) (by omega) (j % 7) hr
  rw [show j / 7 * 7 + j % 7 = j by omega, hj] at e1
  have e2 := rowV_at (l := l) (i := i + j / 7) (by omega) (j % 7) hr
  have e3 : ((l.drop i).take m)[j / 7]'(by omega) = l[i + j / 7]'(by omega) := by simp
  rw [e3, ← e2] at e1
  rw [Addr.add_lit]
  have hjj : i * 7 + j = (i + j / 7) * 7 + j % 7 := by omega
  have hll : (i + j / 7) * 7 + j % 7 < l.length * 7 := by omega
  rcases h.2 with ⟨h0, _⟩ | ⟨g, cap', cur, e0, _, hh, hn, hm', hsz, hxs⟩
  · cases h0
  · simp only [Value.slice.injEq, Option.some.injEq, Addr.mk.injEq, and_true] at e0
    obtain ⟨rfl, _, rfl⟩ := e0
    have e4 : (rowV l)[(i + j / 7) * 7 + j % 7]? = cur.toList[(i + j / 7) * 7 + j % 7]? := by
      rw [← hxs, List.getElem?_take, if_pos hll]
    rw [hjj]
    simp [World.cell?, hh, e1, e4]
end Go.Proofs.Ytbegdgnhpklceaa
