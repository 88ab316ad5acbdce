/- The document's store: With. -/
import Derived.Test.YtbegdgnhpklceaaGreatB14
import Derived.Test.YtbegdgnhpklceaaGreatB15
import Derived.Test.YtbegdgnhpklceaaGreatB13
import Derived.Test.YtbegdgnhpklceaaGreatB12
set_option linter.unusedSimpArgs false
set_option linter.unusedVariables false
/- store: its contracts, for the laws: a store that was made since the call began, and guest blocks apart from it. -/
namespace Go.Proofs.YtbegdgnhpklceaaGreat
open Go.RowKit
set_option maxRecDepth 10000
set_option maxHeartbeats 800000

/-- The blocks Z are as they were. -/
def Gu (Z : List Nat) (w w' : World) : Prop := ∃ X, Fr X w w' ∧ ∀ z ∈ Z, z ∉ X
section
variable {Z Y : List Nat} {w w' w'' : World}
theorem Gu.refl (Z : List Nat) (w : World) : Gu Z w w := ⟨[], Fr.refl _ _, by simp⟩
theorem Gu.of0 (h : Fr [] w w') : Gu Z w w' := ⟨[], h, by simp⟩
theorem Gu.size (h : Gu Z w w') : w.heap.size ≤ w'.heap.size := by obtain ⟨X, h, _⟩ := h; exact h.size
theorem Gu.trans (h : Gu Z w w') (k : Gu Z w' w'') : Gu Z w w'' := by
  obtain ⟨X, h1, h2⟩ := h; obtain ⟨X', k1, k2⟩ := k
  exact ⟨X ++ X', (h1.mono (fun q hq => .inl (List.mem_append.2 (.inl hq)))).trans k1 (fun q hq => .inl (List.mem_append.2 (.inr hq))), fun z hz hm => (List.mem_append.1 hm).elim (h2 z hz) (k2 z hz)⟩
theorem Gu.mono (h : Gu Z w w') (hs : ∀ y ∈ Y, y ∈ Z) : Gu Y w w' := by
  obtain ⟨X, h1, h2⟩ := h; exact ⟨X, h1, fun y hy => h2 y (hs y hy)⟩
theorem Gu.cell (h : Gu Z w w') {a : Addr} {v : Value} (hc : w.cell? a = some v) (ha : a.block ∈ Z) : w'.cell? a = some v := by
  obtain ⟨X, h1, h2⟩ := h; exact h1.cell hc (h2 _ ha)
theorem Gu.blk (h : Gu Z w w') {b : Nat} {t : TypeId} {l : List Value} (hb : Blk w b t l) (ha : b ∈ Z) : Blk w' b t l := by
  obtain ⟨X, h1, h2⟩ := h; exact h1.blk hb (h2 _ ha)
theorem Gu.rowV (h : Gu Z w w') {v : Value} {l : List Lv} (hr : RowV w v l) (ha : ∀ q, v.ownBlock = some q → q ∈ Z) : RowV w' v l := by
  obtain ⟨X, h1, h2⟩ := h; exact hr.fr h1 (fun q hq => h2 q (ha q hq))
theorem Gu.rowU (h : Gu Z w w') {v : Value} {l : List Nat} (hr : RowU w v l) (ha : ∀ q, v.ownBlock = some q → q ∈ Z) : RowU w' v l := by
  obtain ⟨X, h1, h2⟩ := h; exact hr.fr h1 (fun q hq => h2 q (ha q hq))
theorem Gu.rowI (h : Gu Z w w') {v : Value} {l : List Nat} (hr : RowI w v l) (ha : ∀ q, v.ownBlock = some q → q ∈ Z) : RowI w' v l := by
  obtain ⟨X, h1, h2⟩ := h; exact hr.fr h1 (fun q hq => h2 q (ha q hq))
theorem Gu.store (h : Gu Z w w') {ps : Nat} {s : Sm} {K : List Nat} (hr : StoreAt w ps s K) (ha : ∀ q ∈ K, q ∈ Z) : StoreAt w' ps s K := by
  obtain ⟨X, h1, h2⟩ := h; exact hr.fr h1 (fun q hq => h2 q (ha q hq))
end
/-- A store made since W, with the guests Z apart from it. -/
def SG (W wr : World) (ps : Nat) (s : Sm) (Z : List Nat) : Prop := ∃ K, StoreAt wr ps s K ∧ Fr [] W wr ∧ (∀ q ∈ K, W.heap.size ≤ q) ∧ ∀ z ∈ Z, W.heap.size ≤ z ∧ z < wr.heap.size ∧ z ∉ K
section
variable {W wr w' : World} {ps : Nat} {s : Sm} {Z Y X : List Nat}
theorem SG.ok (h : SG W wr ps s Z) : s.Ok := by obtain ⟨K, h, _⟩ := h; exact h.ok
theorem SG.fr (h : SG W wr ps s Z) : Fr [] W wr := by obtain ⟨K, _, h, _⟩ := h; exact h
theorem SG.below (h : SG W wr ps s Z) : Below W.heap.size W wr := h.fr.below (by simp)
theorem SG.size (h : SG W wr ps s Z) : W.heap.size ≤ wr.heap.size := h.fr.size
theorem SG.lt (h : SG W wr ps s Z) : ∀ z ∈ Z, z < wr.heap.size := by obtain ⟨K, _, _, _, h⟩ := h; exact fun z hz => (h z hz).2.1
theorem SG.ge (h : SG W wr ps s Z) : ∀ z ∈ Z, W.heap.size ≤ z := by obtain ⟨K, _, _, _, h⟩ := h; exact fun z hz => (h z hz).1
/-- What changes are guests, or is new; new guests. -/
theorem SG.go (h : SG W wr ps s Z) (hf : Fr X wr w') (hx : ∀ x ∈ X, x ∈ Z ∨ wr.heap.size ≤ x) (hy : ∀ y ∈ Y, y ∈ Z ∨ (wr.heap.size ≤ y ∧ y < w'.heap.size)) : SG W w' ps s Y := by
  obtain ⟨K, h1, h2, h3, h4⟩ := h
  have hs := hf.size
  have hs2 := h2.size
  refine ⟨K, h1.fr hf (fun q hq hm => ?_), h2.trans hf (fun q hq => .inr ?_), h3, fun y hy' => ?_⟩
  · rcases hx q hm with e | e
    · exact (h4 q e).2.2 hq
    · have := h1.lt q hq; omega
  · rcases hx q hq with e | e
    · exact (h4 q e).1
    · omega
  · rcases hy y hy' with e | e
    · have := h4 y e; exact ⟨this.1, by omega, this.2.2⟩
    · exact ⟨by omega, e.2, fun hm => by have := h1.lt y hm; omega⟩
theorem SG.go0 (h : SG W wr ps s Z) (hf : Fr [] wr w') : SG W w' ps s Z := h.go hf (by simp) (fun y hy => .inl hy)
theorem SG.sub (h : SG W wr ps s Z) (hy : ∀ y ∈ Y, y ∈ Z) : SG W wr ps s Y := h.go (Fr.refl [] _) (by simp) (fun y hy' => .inl (hy y hy'))
theorem SG.alloc (h : SG W wr ps s Z) (o : Obj) : SG W (wr.alloc o) ps s (wr.heap.size :: Z) := h.go ((Fr.refl [] wr).alloc o) (by simp) (fun y hy => (List.mem_cons.1 hy).elim (fun e => .inr ⟨by omega, by simp; omega⟩) .inl)
theorem SG.row (h : SG W wr ps s Z) (hf : Fr [] wr w') {v : Value} (hn : ∀ q, v.ownBlock = some q → wr.heap.size ≤ q) (hl : ∀ q, v.ownBlock = some q → q < w'.heap.size) : SG W w' ps s (v.ownBlock.toList ++ Z) :=
  h.go hf (by simp) (fun y hy => (List.mem_append.1 hy).elim (fun e => .inr ⟨hn y (by simpa using e), hl y (by simpa using e)⟩) .inl)
/-- A step of the store. -/
theorem SG.step {K : List Nat} {s' : Sm} (_h1 : StoreAt wr ps s K) (h2 : Fr [] W wr) (h3 : ∀ q ∈ K, W.heap.size ≤ q) (h4 : ∀ z ∈ Z, W.heap.size ≤ z ∧ z < wr.heap.size ∧ z ∉ K) {K' : List Nat} (k1 : StoreAt w' ps s' K') (k2 : Fr K wr w') (k3 : ∀ q ∈ K', q ∈ K ∨ wr.heap.size ≤ q) : SG W w' ps s' Z ∧ Gu Z wr w' := by
  have hs := h2.size
  have hs2 := k2.size
  refine ⟨⟨K', k1, h2.trans k2 (fun q hq => .inr (h3 q hq)), fun q hq => (k3 q hq).elim (h3 q) (fun e => by omega), fun z hz => ⟨(h4 z hz).1, by have := (h4 z hz).2.1; omega, fun hm => ?_⟩⟩, K, k2, fun z hz => (h4 z hz).2.2⟩
  rcases k3 z hm with e | e
  · exact (h4 z hz).2.2 e
  · have := (h4 z hz).2.1; omega

def Sm.insR (s : Sm) (u v : Nat) (wt t x : Int) : Lv := if s.chk u v = 0 then s.edge u v wt t x else Lv.z
def Sm.insS (s : Sm) (u v : Nat) (wt t x : Int) : Sm := if s.chk u v = 0 then s.ins u v wt t x else s
def Sm.remC (s : Sm) (i : Int) : Int := if s.has i = true then 0 else if i < 0 ∨ (s.E : Int) ≤ i then 3 else 5
def Sm.remS (s : Sm) (i : Int) : Sm := if s.has i = true then s.rem i.toNat else s

theorem sg_new (V E : Nat) (hf : Fr [] W wr) (hZ : ∀ z ∈ Z, W.heap.size ≤ z ∧ z < wr.heap.size) (hV : V ≤ 4096) (hE : E ≤ 16384) :
    Calls Tryz.prog 5 #[.int .i64 V, .int .i64 E] wr fun e w' => ∃ ps, e = .returned (.tuple #[.pointer (some ⟨ps, 0, none⟩), .int .i64 0]) ∧ SG W w' ps (Sm.new V E 0) Z ∧ Fr [] wr w' := by
  refine (st_new V E wr hV hE).mono ?_
  rintro _ w' ⟨ps, rfl, K, h1, h2, h3⟩
  have hs := h2.size
  have hs2 := hf.size
  exact ⟨ps, rfl, ⟨K, h1, hf.trans' h2, fun q hq => Nat.le_trans hs2 (h3 q hq), fun z hz => ⟨(hZ z hz).1, by have := (hZ z hz).2; omega, fun hm => by have := h3 z hm; have := (hZ z hz).2; omega⟩⟩, h2⟩
theorem sg_ins (h : SG W wr ps s Z) (u v : Nat) (wt t x : Int) (hu : u < 18446744073709551616) (hv : v < 18446744073709551616) (hl : s.last + 1 < 18446744073709551616) :
    Calls Tryz.prog 10 #[sptr ps, recA u v wt t, .int .i64 x] wr fun e w' => e = .returned (.tuple #[lvA (s.insR u v wt t x), .int .i64 (s.chk u v)]) ∧ SG W w' ps (s.insS u v wt t x) Z ∧ Gu Z wr w' := by
  unfold Sm.insR Sm.insS
  by_cases hc : s.chk u v = 0
  · rw [if_pos hc, if_pos hc, hc]
    obtain ⟨K, h1, h2, h3, h4⟩ := h
    refine (st_ins_yes h1 u v hu hv wt t x hc hl).mono ?_
    rintro _ w' ⟨rfl, K', k1, k2, k3⟩
    exact ⟨rfl, SG.step h1 h2 h3 h4 k1 k2 k3⟩
  · rw [if_neg hc, if_neg hc]
    have h' := h
    obtain ⟨K, h1, h2, h3, h4⟩ := h
    refine (st_ins_no h1 u v hu hv wt t x hc).mono ?_
    rintro _ w' ⟨rfl, k2⟩
    exact ⟨rfl, h'.go0 k2, Gu.of0 k2⟩
theorem sg_rem (h : SG W wr ps s Z) (i : Int) :
    Calls Tryz.prog 13 #[sptr ps, .int .i64 i] wr fun e w' => e = .returned (.tuple #[lvA (s.got i), .int .i64 (s.remC i)]) ∧ SG W w' ps (s.remS i) Z ∧ Gu Z wr w' := by
  unfold Sm.remC Sm.remS
  cases hh : s.has i with
  | true =>
    rw [if_pos rfl, if_pos rfl]
    obtain ⟨h0, hu⟩ := (Sm.has_iff h.ok i).1 hh
    obtain ⟨k, rfl⟩ := Int.eq_ofNat_of_zero_le h0
    simp only [Int.toNat_natCast] at hu
    have hg : s.got k = liveAt s.L k := if_pos h0
    rw [hg]
    obtain ⟨K, h1, h2, h3, h4⟩ := h
    refine (st_rem_yes h1 k hu).mono ?_
    rintro _ w' ⟨rfl, K', k1, k2, k3⟩
    exact ⟨rfl, SG.step h1 h2 h3 h4 k1 k2 k3⟩
  | false =>
    rw [if_neg (show ¬ (false = true) by simp), if_neg (show ¬ (false = true) by simp), Sm.got_no hh]
    have h' := h
    obtain ⟨K, h1, h2, h3, h4⟩ := h
    refine (st_rem_no h1 i hh).mono ?_
    rintro _ w' ⟨rfl, k2⟩
    exact ⟨rfl, h'.go0 k2, Gu.of0 k2⟩
theorem sg_check (h : SG W wr ps s Z) (u v : Nat) (wt t : Int) (hu : u < 18446744073709551616) (hv : v < 18446744073709551616) :
    Calls Tryz.prog 15 #[sptr ps, recA u v wt t] wr fun e w' => e = .returned (.int .i64 (s.chk u v)) ∧ SG W w' ps s Z ∧ Fr [] wr w' := by
  have h' := h
  obtain ⟨K, h1, h2, h3, h4⟩ := h
  refine (st_check h1 u v hu hv wt t).mono ?_
  rintro _ w' ⟨rfl, k2⟩
  exact ⟨rfl, h'.go0 k2, k2⟩
theorem sg_get (h : SG W wr ps s Z) (i : Int) :
    Calls Tryz.prog 19 #[sptr ps, .int .i64 i] wr fun e w' => e = .returned (.tuple #[lvA (s.got i), .bool (s.has i)]) ∧ SG W w' ps s Z ∧ Fr [] wr w' := by
  have h' := h
  obtain ⟨K, h1, h2, h3, h4⟩ := h
  refine (st_get h1 i).mono ?_
  rintro _ w' ⟨rfl, k2⟩
  exact ⟨rfl, h'.go0 k2, k2⟩
theorem sg_len (h : SG W wr ps s Z) : Calls Tryz.prog 28 #[sptr ps] wr fun e w' => e = .returned (.int .i64 s.L.length) ∧ w' = wr := by
  obtain ⟨K, h1, _⟩ := h
  exact st_len h1
theorem sg_verts (h : SG W wr ps s Z) : Calls Tryz.prog 30 #[sptr ps] wr fun e w' => e = .returned (.int .i64 s.M.L.length) ∧ w' = wr := by
  obtain ⟨K, h1, _⟩ := h
  exact st_verts h1
theorem sg_index (h : SG W wr ps s Z) (id : Nat) (hid : id < 18446744073709551616) : Calls Tryz.prog 21 #[sptr ps, .int .u64 id] wr fun e w' => e = .returned (.tuple #[.int .i64 ((s.M.find id).getD 0), .bool (s.M.find id).isSome]) ∧ SG W w' ps s Z ∧ Fr [] wr w' := by
  have h' := h
  obtain ⟨K, h1, _⟩ := h
  refine (st_index h1 id hid).mono ?_
  rintro _ w' ⟨rfl, k2⟩
  exact ⟨rfl, h'.go0 k2, k2⟩
theorem sg_id (h : SG W wr ps s Z) (i : Int) : Calls Tryz.prog 23 #[sptr ps, .int .i64 i] wr fun e w' => e = .returned (.tuple #[.int .u64 ((s.M.at i).getD 0), .bool (s.M.at i).isSome]) ∧ w' = wr := by
  obtain ⟨K, h1, _⟩ := h
  exact st_id h1 i
theorem sg_ids (h : SG W wr ps s Z) : Calls Tryz.prog 36 #[sptr ps] wr fun e w' => ∃ v, e = .returned v ∧ RowU w' v s.ids ∧ SG W w' ps s (v.ownBlock.toList ++ Z) ∧ Fr [] wr w' := by
  have h' := h
  obtain ⟨K, h1, _⟩ := h
  refine (st_ids h1).mono ?_
  rintro _ w' ⟨v, rfl, k1, k2, k3⟩
  exact ⟨v, rfl, k1, h'.row k3 k2 (fun q hq => k1.lt hq), k3⟩
theorem sg_incident (h : SG W wr ps s Z) (id : Nat) (hid : id < 18446744073709551616) : Calls Tryz.prog 26 #[sptr ps, .int .u64 id] wr fun e w' => ∃ v, e = .returned v ∧ RowI w' v (incL s.L id) ∧ SG W w' ps s (v.ownBlock.toList ++ Z) ∧ Fr [] wr w' := by
  have h' := h
  obtain ⟨K, h1, _⟩ := h
  refine (st_incident h1 id hid).mono ?_
  rintro _ w' ⟨v, rfl, k1, k2, k3⟩
  exact ⟨v, rfl, k1, h'.row k3 k2 (fun q hq => k1.lt hq), k3⟩
end
end Go.Proofs.YtbegdgnhpklceaaGreat

/- The document's store, over the same plain model: in memory; what it is asked. -/
namespace Go.Proofs.YtbegdgnhpklceaaGreat
open Go.RowKit
set_option maxRecDepth 10000
set_option maxHeartbeats 800000

structure RSB (w : World) (pr pa pt : Nat) (vL vU vC vR vT vF : Value) (s : Sm) (c : List Nat) (n : Nat) (cl : Nat → Nat) : Prop where
  hd : Blk w pr 81 [.bool true, .int .i64 s.V, .int .u64 s.last, vL, ptr pa, ptr pt]
  row : RowV w vL s.L
  ar : RArn w pa vU vC vR s.A c
  tb : RTab w pt vT vF s.M
  cn : Cnt s.A c n
  ok : s.Ok
  kp : cl pr = 0
  kl : ∀ q, vL.ownBlock = some q → cl q = 1
  ka : ∀ q ∈ rAB pa vU vC vR, cl q = 2
  kt : ∀ q ∈ rTB pt vT vF, cl q = 3
def rsK (pr pa pt : Nat) (vL vU vC vR vT vF : Value) : List Nat := pr :: (vL.ownBlock.toList ++ (rAB pa vU vC vR ++ rTB pt vT vF))
def RSt (w : World) (pr : Nat) (s : Sm) (n : Nat) (K : List Nat) : Prop := ∃ pa pt vL vU vC vR vT vF c cl, RSB w pr pa pt vL vU vC vR vT vF s c n cl ∧ K = rsK pr pa pt vL vU vC vR vT vF
section
variable {w w' : World} {pr pa pt n : Nat} {vL vU vC vR vT vF : Value} {s : Sm} {c : List Nat} {cl : Nat → Nat} {S K : List Nat}
theorem RSB.fr (h : RSB w pr pa pt vL vU vC vR vT vF s c n cl) (hf : Fr S w w') (hs : ∀ q ∈ rsK pr pa pt vL vU vC vR vT vF, q ∉ S) : RSB w' pr pa pt vL vU vC vR vT vF s c n cl :=
  ⟨hf.blk h.hd (hs _ (by simp [rsK])), h.row.fr hf (fun q hq => hs q (by simp [rsK, hq])), h.ar.fr hf (fun q hq => hs q (by simp [rsK, hq])), h.tb.fr hf (fun q hq => hs q (by simp [rsK, hq])), h.cn, h.ok, h.kp, h.kl, h.ka, h.kt⟩
theorem RSB.fr0 (h : RSB w pr pa pt vL vU vC vR vT vF s c n cl) (hf : Fr [] w w') : RSB w' pr pa pt vL vU vC vR vT vF s c n cl := h.fr hf (by simp)
theorem RSB.lt (h : RSB w pr pa pt vL vU vC vR vT vF s c n cl) : ∀ q ∈ rsK pr pa pt vL vU vC vR vT vF, q < w.heap.size := by
  intro q hq
  simp only [rsK, List.mem_cons, List.mem_append, Option.mem_toList] at hq
  rcases hq with rfl | hq | hq | hq
  · exact h.hd.lt
  · exact h.row.lt hq
  · exact h.ar.lt q hq
  · exact h.tb.lt q hq
theorem RSt.fr (h : RSt w pr s n K) (hf : Fr S w w') (hs : ∀ q ∈ K, q ∉ S) : RSt w' pr s n K := by
  obtain ⟨pa, pt, vL, vU, vC, vR, vT, vF, c, cl, h, rfl⟩ := h
  exact ⟨pa, pt, vL, vU, vC, vR, vT, vF, c, cl, h.fr hf hs, rfl⟩
theorem RSt.fr0 (h : RSt w pr s n K) (hf : Fr [] w w') : RSt w' pr s n K := h.fr hf (by simp)
theorem RSt.lt (h : RSt w pr s n K) : ∀ q ∈ K, q < w.heap.size := by
  obtain ⟨pa, pt, vL, vU, vC, vR, vT, vF, c, cl, h, rfl⟩ := h; exact h.lt
theorem RSt.ok (h : RSt w pr s n K) : s.Ok := by
  obtain ⟨pa, pt, vL, vU, vC, vR, vT, vF, c, cl, h, rfl⟩ := h; exact h.ok
theorem sm_len_le {s : Sm} (h : s.Ok) : s.L.length ≤ 16384 := by
  have h2 := Sm.len_used h
  have h3 := h.ar.hb
  have h4 := h.sl
  have h5 := h.leE
  unfold Ar.used at h2
  omega

theorem rs_valid (h : RSB w pr pa pt vL vU vC vR vT vF s c n cl) : Calls Tryz.prog 51 #[ptr pr] w fun e w' => e = .returned (.bool true) ∧ w' = w := by
  have c0 := h.hd.cell 0
  simp only [List.getElem?_cons_zero] at c0
  go_enter Tryz.func51, Tryz.ntmps51
  go_wp2
  go_ret
  exact ⟨rfl, rfl⟩
theorem rs_isv (h : RSB w pr pa pt vL vU vC vR vT vF s c n cl) (id : Nat) : Calls Tryz.prog 54 #[ptr pr, .int .u64 id] w fun e w' => e = .returned (.bool (s.L.any fun e => e.at id)) ∧ Fr [] w w' := by
  have hn := sm_len_le h.ok
  obtain ⟨aL, cL, rfl⟩ := h.row.slice
  have HB := Lib.hid h; clear h
  go_enter Tryz.func54, Tryz.ntmps54
  go_wp2_with fail
  go_loopw [5] (fun z wr => ∃ i : Nat, i ≤ s.L.length ∧ z = .int .i64 i ∧ Hid (Fr [] w wr ∧ ∀ j (hj : j < s.L.length), j < i → (s.L[j]).at id = false)) (fun z _ => s.L.length - (intOf z).toNat)
  case atStart => exact ⟨0, Nat.zero_le _, rfl, Lib.hid ⟨Fr.refl _ _, fun j _ hj => absurd hj (Nat.not_lt_zero _)⟩⟩
  case round =>
    obtain ⟨i, hi, rfl, HT⟩ := hrel
    rename World => wr
    have HBr := Lib.hid (HB.out.fr0 HT.out.1)
    have c3 := HBr.out.hd.cell 3
    simp only [List.getElem?_cons_zero, List.getElem?_cons_succ] at c3
    by_cases hil : i < s.L.length
    · have hii : (i : Int) < s.L.length := by omega
      obtain ⟨b, cv', ev, _, _, _, hat⟩ := HBr.out.row.at hil
      simp only [Value.slice.injEq, true_and] at ev
      obtain ⟨rfl, rfl⟩ := ev
      obtain ⟨e, he⟩ : ∃ e, e = s.L[i] := ⟨_, rfl⟩
      rw [← he] at hat
      have x2 := hat.2.2.1
      have x3 := hat.2.2.2.1
      have HE := Lib.hid he; clear he hat
      cases hea : e.at id with
      | false =>
        have hea' := hea
        simp only [Lv.at, Bool.or_eq_false_iff, beq_eq_false_iff_ne] at hea'
        have d1 : ((e.u : Int) == (id : Int)) = false := by simp; omega
        have d2 : ((e.v : Int) == (id : Int)) = false := by simp; omega
        have HEA := Lib.hid hea; clear hea hea'
        go_wp2_with fail
        exact ⟨⟨i + 1, by omega, by go_num, Lib.hid ⟨HT.out.1, fun j hj hji => by
          by_cases e1 : j = i
          · subst e1; rw [← HE.out]; exact HEA.out
          · exact HT.out.2 j hj (by omega)⟩⟩, by simp [intOf]; omega⟩
      | true =>
        have hyes := Lib.hid (show s.L.any (fun e => e.at id) = true from List.any_eq_true.2 ⟨e, by rw [HE.out]; exact List.getElem_mem hil, hea⟩)
        have hcase : (e.u : Int) = id ∨ (¬ (e.u : Int) = id ∧ (e.v : Int) = id) := by
          simp only [Lv.at, Bool.or_eq_true, beq_iff_eq] at hea
          omega
        clear hea
        rcases hcase with h1 | ⟨h1, h2⟩
        · go_wp2_with fail
          go_ret
          rw [hyes.out]
          exact ⟨rfl, HT.out.1⟩
        · go_wp2_with fail
          go_ret
          rw [hyes.out]
          exact ⟨rfl, HT.out.1⟩
    · obtain rfl : i = s.L.length := by omega
      have hno := Lib.hid (show s.L.any (fun e => e.at id) = false by
        rw [List.any_eq_false]
        intro e he
        obtain ⟨j, hj, rfl⟩ := List.getElem_of_mem he
        rw [HT.out.2 j hj hj]; simp)
      go_wp2_with fail
      go_ret
      rw [hno.out]
      exact ⟨rfl, HT.out.1⟩
theorem rs_len (h : RSB w pr pa pt vL vU vC vR vT vF s c n cl) : Calls Tryz.prog 29 #[ptr pr] w fun e w' => e = .returned (.int .i64 s.L.length) ∧ w' = w := by
  have HV := Lib.hid (rs_valid h)
  obtain ⟨aL, cL, rfl⟩ := h.row.slice
  have c3 := h.hd.cell 3
  simp only [List.getElem?_cons_zero, List.getElem?_cons_succ] at c3
  clear h
  go_enter Tryz.func29, Tryz.ntmps29
  go_wp2_with fail
  refine HV.out.mono ?_
  rintro _ w ⟨rfl, rfl⟩
  go_wp2
  go_ret
  exact ⟨rfl, rfl⟩
theorem rs_index (h : RSB w pr pa pt vL vU vC vR vT vF s c n cl) (id : Nat) : Calls Tryz.prog 22 #[ptr pr, .int .u64 id] w fun e w' => e = .returned (.tuple #[.int .i64 ((s.M.find id).getD 0), .bool (s.M.find id).isSome]) ∧ w' = w := by
  have HV := Lib.hid (rs_valid h)
  have HG := Lib.hid (rget_w h.tb h.ok.md id)
  have c5 := h.hd.cell 5
  simp only [List.getElem?_cons_zero, List.getElem?_cons_succ] at c5
  clear h
  go_enter Tryz.func22, Tryz.ntmps22
  go_wp2_with fail
  refine HV.out.mono ?_
  rintro _ w ⟨rfl, rfl⟩
  go_wp2_with fail
  refine HG.out.mono ?_
  rintro _ w ⟨rfl, rfl⟩
  go_wp2
  go_ret2
  exact ⟨rfl, rfl⟩
theorem rs_id (h : RSB w pr pa pt vL vU vC vR vT vF s c n cl) (i : Int) : Calls Tryz.prog 24 #[ptr pr, .int .i64 i] w fun e w' => e = .returned (.tuple #[.int .u64 ((s.M.at i).getD 0), .bool (s.M.at i).isSome]) ∧ w' = w := by
  have HV := Lib.hid (rs_valid h)
  have hg := rid_w h.tb h.ok.md i
  rw [show (if 0 ≤ i then s.M.idOf i.toNat else none) = s.M.at i from rfl] at hg
  generalize s.M.at i = o at *
  have HG := Lib.hid hg; clear hg
  have c5 := h.hd.cell 5
  simp only [List.getElem?_cons_zero, List.getElem?_cons_succ] at c5
  clear h
  go_enter Tryz.func24, Tryz.ntmps24
  go_wp2_with fail
  refine HV.out.mono ?_
  rintro _ w ⟨rfl, rfl⟩
  go_wp2_with fail
  refine HG.out.mono ?_
  rintro _ w ⟨rfl, rfl⟩
  go_wp2
  go_ret2
  exact ⟨rfl, rfl⟩

theorem got_at (h : s.Ok) {k : Nat} (hk : k < s.L.length) {i : Int} (e : ((s.L[k]).slot : Int) = i) : s.got i = s.L[k] ∧ s.has i = true := by
  subst e
  unfold Sm.got Sm.has
  rw [if_pos (by omega), Int.toNat_natCast]
  exact ⟨liveAt_mem h.one (List.getElem_mem hk), by simp only [Bool.and_eq_true, decide_eq_true_eq]; exact ⟨by omega, List.any_eq_true.2 ⟨_, List.getElem_mem hk, by simp⟩⟩⟩
theorem got_none {i : Int} (hn : ∀ j (hj : j < s.L.length), ((s.L[j]).slot : Int) ≠ i) : s.got i = Lv.z ∧ s.has i = false := by
  have hh : s.has i = false := by
    unfold Sm.has
    rw [Bool.and_eq_false_iff]
    by_cases h0 : 0 ≤ i
    · right
      rw [List.any_eq_false]
      intro e he
      obtain ⟨j, hj, rfl⟩ := List.getElem_of_mem he
      have := hn j hj
      simp; omega
    · left; simp; omega
  exact ⟨Sm.got_no hh, hh⟩
theorem rs_get (h : RSB w pr pa pt vL vU vC vR vT vF s c n cl) (i : Int) : Calls Tryz.prog 20 #[ptr pr, .int .i64 i] w fun e w' => e = .returned (.tuple #[lvA (s.got i), .bool (s.has i)]) ∧ Fr [] w w' := by
  have hn := sm_len_le h.ok
  obtain ⟨aL, cL, rfl⟩ := h.row.slice
  have Hok := Lib.hid h.ok
  have hf0 : Fr [] w (w.alloc (.cells #[.int .i64 0, .int .u64 0, .int .u64 0, .int .u64 0, .int .i64 0, .int .i64 0, .int .i64 0] 36)) := (Fr.refl [] w).alloc _
  have hbx : Blk (w.alloc (.cells #[.int .i64 0, .int .u64 0, .int .u64 0, .int .u64 0, .int .i64 0, .int .i64 0, .int .i64 0] 36)) w.heap.size 36 [.int .i64 0, .int .u64 0, .int .u64 0, .int .u64 0, .int .i64 0, .int .i64 0, .int .i64 0] := by
    have := Blk.new w [.int .i64 0, .int .u64 0, .int .u64 0, .int .u64 0, .int .i64 0, .int .i64 0, .int .i64 0] 36
    simpa using this
  have HB := Lib.hid (And.intro (h.fr0 hf0) (And.intro hbx hf0)); clear h hf0 hbx
  go_enter Tryz.func20, Tryz.ntmps20
  go_wp2_with fail
  generalize w.alloc (.cells #[.int .i64 0, .int .u64 0, .int .u64 0, .int .u64 0, .int .i64 0, .int .i64 0, .int .i64 0] 36) = w1 at *
  go_loopw [6] (fun z wr => ∃ k : Nat, k ≤ s.L.length ∧ z = .int .i64 k ∧ Hid (Fr [] w1 wr ∧ ∀ j (hj : j < s.L.length), j < k → ((s.L[j]).slot : Int) ≠ i)) (fun z _ => s.L.length - (intOf z).toNat)
  case atStart => exact ⟨0, Nat.zero_le _, rfl, Lib.hid ⟨Fr.refl _ _, fun j _ hj => absurd hj (Nat.not_lt_zero _)⟩⟩
  case round =>
    obtain ⟨k, hk, rfl, HT⟩ := hrel
    rename World => wr
    have HBr := Lib.hid (HB.out.1.fr0 HT.out.1)
    have hbx := HT.out.1.blk HB.out.2.1 (by simp)
    have HF := Lib.hid (HB.out.2.2.trans' HT.out.1)
    have c3 := HBr.out.hd.cell 3
    simp only [List.getElem?_cons_zero, List.getElem?_cons_succ] at c3
    have z := hbx.frozen
    have t0 := hbx.cell 0; have t1 := hbx.cell 1; have t2 := hbx.cell 2; have t3 := hbx.cell 3; have t4 := hbx.cell 4; have t5 := hbx.cell 5; have t6 := hbx.cell 6
    simp only [List.getElem?_cons_zero, List.getElem?_cons_succ] at t0 t1 t2 t3 t4 t5 t6
    have HX := Lib.hid (fun e => hbx.put7 e); clear hbx
    by_cases hil : k < s.L.length
    · have hii : (k : Int) < s.L.length := by omega
      have hdd : decide ((k : Int) < s.L.length) = true := decide_eq_true hii
      obtain ⟨b, cv', ev, _, hb, _, hat⟩ := HBr.out.row.at hil
      simp only [Value.slice.injEq, true_and] at ev
      obtain ⟨rfl, rfl⟩ := ev
      have HE := Lib.hid (fun (i : Int) (e : ((s.L[k]'hil).slot : Int) = i) => got_at Hok.out hil e)
      obtain ⟨e, he⟩ : ∃ e, e = s.L[k] := ⟨_, rfl⟩
      have HJ := Lib.hid he
      rw [← he] at hat HE
      clear he
      obtain ⟨e0, e1, e2, e3, e4, e5, e6⟩ := hat
      by_cases hei : (e.slot : Int) = i
      · have d1 : ((e.slot : Int) == i) = true := by simp [hei]
        have HG := Lib.hid (HE.out i hei)
        have Hei := Lib.hid hei; clear hei HE
        go_wp2_with fail
        refine (rs_valid HBr.out).mono ?_
        rintro _ wr ⟨rfl, rfl⟩
        go_wp2_with fail
        have r := (HX.out e).lvAt
        unfold LvAt Go.Proofs.YtbegdgnhpklceaaGreat.put7 at r
        simp only [Nat.zero_add] at r
        obtain ⟨r0, r1, r2, r3, r4, r5, r6⟩ := r
        exact bodyPost_ret (v := .tuple #[lvA e, .bool true]) (by simp [results, Tryz.results20, go_sem, r0, r1, r2, r3, r4, r5, r6]) rfl ⟨by rw [HG.out.1, HG.out.2], HF.out.put7 _ _ e (.inr (Nat.le_refl _))⟩
      · have d1 : ((e.slot : Int) == i) = false := by simp [hei]
        have Hei := Lib.hid hei; clear hei HE
        clear e1 e2 e3 e4 e5 e6 z t0 t1 t2 t3 t4 t5 t6
        go_wp2_with fail
        refine (rs_valid HBr.out).mono ?_
        rintro _ wr ⟨rfl, rfl⟩
        go_wp2_with fail
        exact ⟨⟨k + 1, by omega, by go_num, Lib.hid ⟨HT.out.1, fun j hj hjk => by
          by_cases e1 : j = k
          · subst e1; rw [← HJ.out]; exact Hei.out
          · exact HT.out.2 j hj (by omega)⟩⟩, by simp [intOf]; omega⟩
    · obtain rfl : k = s.L.length := by omega
      have hdd : decide ((s.L.length : Int) < s.L.length) = false := decide_eq_false (by omega)
      have HG := Lib.hid (got_none (s := s) (i := i) (fun j hj => HT.out.2 j hj hj))
      go_wp2_with fail
      refine (rs_valid HBr.out).mono ?_
      rintro _ wr ⟨rfl, rfl⟩
      go_wp2_with fail
      have r := (HX.out Lv.z).lvAt
      unfold LvAt Go.Proofs.YtbegdgnhpklceaaGreat.put7 at r
      simp only [Lv.z, Nat.zero_add, Int.ofNat_zero] at r
      obtain ⟨r0, r1, r2, r3, r4, r5, r6⟩ := r
      exact bodyPost_ret (v := .tuple #[lvA Lv.z, .bool false]) (by simp [results, Tryz.results20, go_sem, r0, r1, r2, r3, r4, r5, r6, Lv.z]) rfl ⟨by rw [HG.out.1, HG.out.2], HF.out.put7 _ _ Lv.z (.inr (Nat.le_refl _))⟩
end
end Go.Proofs.YtbegdgnhpklceaaGreat

/- 'append' of a part of a row; parts of rows of edges. -/
namespace Go.Proofs.YtbegdgnhpklceaaGreat
open Go.RowKit
set_option maxRecDepth 10000
set_option maxHeartbeats 800000

theorem wp_app_at {P : Program} {w : World} {o : Oper} {a : Act} {K : Act → World → Prop} {Q : Exit → Act → World → Prop} (s x : Operand) (t : TypeId)
    (ho : o.op = .call { callee := .builtin .append, args := #[s, x], argTypes := #[t, t] })
    (e : TypeId) (z : Value) (size bytes : Nat) (ht : P.underlying t = some (.slice e)) (hinfo : (P.info? e).map (fun i => (i.zero, i.size, i.bytes)) = some (some z, size, bytes)) (hzs : z.cells.size = size) (hsz : 0 < size)
    (v : Value) (n : Nat) (xs : List Value) (hs : a.eval s = v) (hown : w.ownsRow 0 e size v n xs)
    (A : Addr) (m c : Nat) (news : List Value) (hx : a.eval x = .slice (some A) m c) (hl : news.length = m * size) (hc : ∀ j u, news[j]? = some u → w.cell? (A.add j) = some u) (h1 : ∀ u ∈ news, u.oneCell' = true)
    (hn : n + m ≤ 4294967296) (hby : bytes ≤ 1024)
    (h : ∀ v' w', w'.ownsRow 0 e size v' (n + m) (xs ++ news) → w.grownBy w' v.ownBlock → (v'.ownBlock = v.ownBlock ∨ v'.ownBlock = some w.heap.size) → K (a.put o.dst v') w') : o.wp P a w K Q := by
  obtain ⟨i0, hi, hz0, hz1, hz2⟩ := info_parts hinfo
  have hbb : (n + m) * bytes ≤ 140737488355328 := by
    have : (n + m) * bytes ≤ 4294967296 * 1024 := Nat.mul_le_mul hn hby
    omega
  obtain ⟨v', w', hr, h2, h3, _, h5⟩ := run_append_own_at (P := P) w 0 t o.type e i0 z size bytes ht hi hz0 hz1 hz2 hzs hsz v n xs hown A m c news hl hc h1 (by unfold maxLen; omega) hbb (Nat.zero_le _)
  unfold Oper.wp execOp
  simp only [ho, resolve, invoke, builtin, Sem.run_bind, Sem.run_pure, Result.andThen_ok, List.map_toArray, List.map_cons, List.map_nil, hs, hx, hr]
  exact h v' w' h2 h3 h5
theorem step_app_at {P : Program} {w : World} {ops : Array Oper} {o : Oper} {a : Act} {K : Act → World → Prop} {Q : Exit → Act → World → Prop} {E : Prop} (hgd : o.guard = none) (s x : Operand) (t : TypeId)
    (ho : o.op = .call { callee := .builtin .append, args := #[s, x], argTypes := #[t, t] })
    (e : TypeId) (z : Value) (size bytes : Nat) (ht : P.underlying t = some (.slice e)) (hinfo : (P.info? e).map (fun i => (i.zero, i.size, i.bytes)) = some (some z, size, bytes)) (hzs : z.cells.size = size) (hsz : 0 < size)
    (v : Value) (n : Nat) (xs : List Value) (hs : a.eval s = v) (hown : w.ownsRow 0 e size v n xs)
    (A : Addr) (m c : Nat) (news : List Value) (hx : a.eval x = .slice (some A) m c) (hl : news.length = m * size) (hc : ∀ j u, news[j]? = some u → w.cell? (A.add j) = some u) (h1 : ∀ u ∈ news, u.oneCell' = true)
    (hn : n + m ≤ 4294967296) (hby : bytes ≤ 1024)
    (h : ∀ v' w', w'.ownsRow 0 e size v' (n + m) (xs ++ news) → w.grownBy w' v.ownBlock → (v'.ownBlock = v.ownBlock ∨ v'.ownBlock = some w.heap.size) → K (a.put o.dst v') w') :
    if Region.wanted o (yielded ops a.tmps) = true then Oper.wp P o a w K Q else E := by
  rw [if_pos (by simp [Region.wanted, hgd])]
  exact wp_app_at s x t ho e z size bytes ht hinfo hzs hsz v n xs hs hown A m c news hx hl hc h1 hn hby h
/-- The cells of a part of a row. -/
theorem RowV.part {w : World} {b n cap : Nat} {l : List Lv} (h : RowV w (.slice (some ⟨b, 0, none⟩) n cap) l) (i m : Nat) (hm : i + m ≤ l.length) : ∀ j u, (rowV ((l.drop i).take m))[j]? = some u → w.cell? ((⟨b, i * 7, none⟩ : Addr).add j) = some u := by
  intro j u hj
  have hlen : ((l.drop i).take m).length = m := by simp; omega
  have hjm : j < m * 7 := by
    have := (List.getElem?_eq_some_iff.1 hj).1
    rw [rowV_len, hlen] at this; exact this
  have hq : j / 7 < m := by omega
  have hr : j % 7 < 7 := Nat.mod_lt _ (by omega)
  have e1 := rowV_at (l := (l.drop i).take m) (i := j / 7) (by omega) (j % 7) hr
  rw [show j / 7 * 7 + j % 7 = j by omega, hj] at e1
  have e2 := rowV_at (l := l) (i := i + j / 7) (by omega) (j % 7) hr
  have e3 : ((l.drop i).take m)[j / 7]'(by omega) = l[i + j / 7]'(by omega) := by simp
  rw [e3, ← e2] at e1
  rw [Addr.add_lit]
  have hjj : i * 7 + j = (i + j / 7) * 7 + j % 7 := by omega
  have hll : (i + j / 7) * 7 + j % 7 < l.length * 7 := by omega
  rcases h.2 with ⟨h0, _⟩ | ⟨g, cap', cur, e0, _, hh, hn, hm', hsz, hxs⟩
  · cases h0
  · simp only [Value.slice.injEq, Option.some.injEq, Addr.mk.injEq, and_true] at e0
    obtain ⟨rfl, _, rfl⟩ := e0
    have e4 : (rowV l)[(i + j / 7) * 7 + j % 7]? = cur.toList[(i + j / 7) * 7 + j % 7]? := by
      rw [← hxs, List.getElem?_take, if_pos hll]
    rw [hjj]
    simp [World.cell?, hh, e1, e4]
end Go.Proofs.YtbegdgnhpklceaaGreat

namespace Go.Proofs.YtbegdgnhpklceaaGreat
open Go.RowKit
set_option maxRecDepth 10000
set_option maxHeartbeats 800000

theorem wpList_app_at {P : Program} {w : World} {ops : Array Oper} {rest : List Oper} {o : Oper} {a : Act} {Q : Exit → Act → World → Prop} (hgd : o.guard = none) (s x : Operand) (t : TypeId)
    (ho : o.op = .call { callee := .builtin .append, args := #[s, x], argTypes := #[t, t] })
    (e : TypeId) (z : Value) (size bytes : Nat) (ht : P.underlying t = some (.slice e)) (hinfo : (P.info? e).map (fun i => (i.zero, i.size, i.bytes)) = some (some z, size, bytes)) (hzs : z.cells.size = size) (hsz : 0 < size)
    (v : Value) (n : Nat) (xs : List Value) (hs : a.eval s = v) (hown : w.ownsRow 0 e size v n xs)
    (A : Addr) (m c : Nat) (news : List Value) (hx : a.eval x = .slice (some A) m c) (hl : news.length = m * size) (hc : ∀ j u, news[j]? = some u → w.cell? (A.add j) = some u) (h1 : ∀ u ∈ news, u.oneCell' = true)
    (hn : n + m ≤ 4294967296) (hby : bytes ≤ 1024)
    (h : ∀ v' w', w'.ownsRow 0 e size v' (n + m) (xs ++ news) → w.grownBy w' v.ownBlock → (v'.ownBlock = v.ownBlock ∨ v'.ownBlock = some w.heap.size) → wpList P ops Q rest (a.put o.dst v') w') : wpList P ops Q (o :: rest) a w :=
  wpList_plain hgd fun _ hK => wp_app_at s x t ho e z size bytes ht hinfo hzs hsz v n xs hs hown A m c news hx hl hc h1 hn hby fun v' w' h2 h3 h4 => hK _ _ (h v' w' h2 h3 h4)
theorem wpList_app_z {P : Program} {w : World} {ops : Array Oper} {rest : List Oper} {o : Oper} {a : Act} {Q : Exit → Act → World → Prop} (hgd : o.guard = none) (s x : Operand) (t : TypeId)
    (ho : o.op = .call { callee := .builtin .append, args := #[s, x], argTypes := #[t, t] })
    (e : TypeId) (z : Value) (size bytes : Nat) (ht : P.underlying t = some (.slice e)) (hinfo : (P.info? e).map (fun i => (i.zero, i.size, i.bytes)) = some (some z, size, bytes))
    (v : Value) (n : Nat) (xs : List Value) (hs : a.eval s = v) (hown : w.ownsRow 0 e size v n xs) (hx : a.eval x = .slice none 0 0)
    (h : wpList P ops Q rest (a.put o.dst v) w) : wpList P ops Q (o :: rest) a w :=
  wpList_plain hgd fun _ hK => by
    obtain ⟨i0, hi, hz0, hz1, hz2⟩ := info_parts hinfo
    unfold Oper.wp execOp
    simp only [ho, resolve, invoke, builtin, Sem.run_bind, Sem.run_pure, Result.andThen_ok, List.map_toArray, List.map_cons, List.map_nil, hs, hx, run_append_owned_none w 0 t o.type e i0 size ht hi v n xs hown]
    exact hK _ _ h
theorem wpList_app_mt {P : Program} {w : World} {ops : Array Oper} {rest : List Oper} {o : Oper} {a : Act} {Q : Exit → Act → World → Prop} (hgd : o.guard = none) (s x : Operand) (t : TypeId)
    (ho : o.op = .call { callee := .builtin .append, args := #[s, x], argTypes := #[t, t] })
    (e : TypeId) (z : Value) (size bytes : Nat) (ht : P.underlying t = some (.slice e)) (hinfo : (P.info? e).map (fun i => (i.zero, i.size, i.bytes)) = some (some z, size, bytes)) (hzs : z.cells.size = size) (hsz : 0 < size)
    (g : Nat) (hs : a.eval s = .slice (some ⟨g, 0, none⟩) 0 0) (hg : Blk w g e []) (v : Value) (m : Nat) (news : List Value) (hv : a.eval x = v) (hx : w.ownsRow 0 e size v m news) (h1 : ∀ u ∈ news, u.oneCell' = true) (h63 : m ≤ maxLen) (hbytes : m * bytes ≤ 140737488355328)
    (h : ∀ v' w', w'.ownsRow 0 e size v' m news → Fr [g] w w' → (∀ q, v'.ownBlock = some q → q = g ∨ w.heap.size ≤ q) → wpList P ops Q rest (a.put o.dst v') w') : wpList P ops Q (o :: rest) a w :=
  wpList_plain hgd fun _ hK => wp_app_mt s x t ho e z size bytes ht hinfo hzs hsz g hs hg v m news hv hx h1 h63 hbytes fun v' w' h2 h3 h4 => hK _ _ (h v' w' h2 h3 h4)

/-- What With returns. -/
def WithR (l : List Nat) (x : Nat) (r : List Nat) : Prop := ∃ k, k ≤ l.length ∧ (∀ j (hj : j < l.length), j < k → l[j] < x) ∧ (∀ hk : k < l.length, ¬ l[k] < x) ∧ r = (l.take k ++ [x]) ++ l.drop (if l[k]? = some x then k + 1 else k)
theorem WithR.len {l r : List Nat} {x : Nat} (h : WithR l x r) : r.length ≤ l.length + 1 := by
  obtain ⟨k, hk, _, _, rfl⟩ := h
  simp only [List.length_append, List.length_take, List.length_drop, List.length_cons, List.length_nil]
  split <;> omega
theorem WithR.mem {l r : List Nat} {x : Nat} (h : WithR l x r) (y : Nat) : y ∈ r ↔ y ∈ l ∨ y = x := by
  obtain ⟨k, hk, _, _, rfl⟩ := h
  have hl : l = l.take k ++ l.drop k := (List.take_append_drop k l).symm
  by_cases e : l[k]? = some x
  · rw [if_pos e]
    obtain ⟨hlt, e2⟩ := List.getElem?_eq_some_iff.1 e
    have hd : l.drop k = x :: l.drop (k + 1) := by rw [List.drop_eq_getElem_cons hlt, e2]
    conv => rhs; rw [hl, hd]
    simp only [List.mem_append, List.mem_cons, List.not_mem_nil, or_false]
    constructor
    · rintro ((h | h) | h)
      · exact .inl (.inl h)
      · exact .inr h
      · exact .inl (.inr (.inr h))
    · rintro ((h | h | h) | h)
      · exact .inl (.inl h)
      · exact .inl (.inr h)
      · exact .inr h
      · exact .inl (.inr h)
  · rw [if_neg e]
    conv => rhs; rw [hl]
    simp only [List.mem_append, List.mem_cons, List.not_mem_nil, or_false]
    constructor
    · rintro ((h | h) | h)
      · exact .inl (.inl h)
      · exact .inr h
      · exact .inl (.inr h)
    · rintro ((h | h) | h)
      · exact .inl (.inl h)
      · exact .inr h
      · exact .inl (.inr h)
theorem WithR.sorted {l r : List Nat} {x : Nat} (h : WithR l x r) (hs : l.Pairwise (· < ·)) : r.Pairwise (· < ·) := by
  obtain ⟨k, hk, h1, h2, rfl⟩ := h
  have hlt : ∀ a ∈ l.take k, a < x := by
    intro a ha
    obtain ⟨j, hj, rfl⟩ := List.getElem_of_mem ha
    simp only [List.length_take] at hj
    rw [List.getElem_take]
    exact h1 j (by omega) (by omega)
  have hge : ∀ b ∈ l.drop (if l[k]? = some x then k + 1 else k), x < b := by
    by_cases hkl : k < l.length
    · have hk2 := h2 hkl
      have hd : l.drop k = l[k] :: l.drop (k + 1) := List.drop_eq_getElem_cons hkl
      have hp := (hs.sublist (List.drop_sublist k l))
      rw [hd, List.pairwise_cons] at hp
      by_cases e : l[k]? = some x
      · rw [if_pos e]
        have e2 := (List.getElem?_eq_some_iff.1 e).2
        intro b hb
        have := hp.1 b hb
        omega
      · rw [if_neg e, hd]
        have hne : l[k] ≠ x := fun e2 => e (by rw [List.getElem?_eq_getElem hkl, e2])
        intro b hb
        rcases List.mem_cons.1 hb with rfl | hb
        · omega
        · have := hp.1 b hb; omega
    · intro b hb
      have : l.drop (if l[k]? = some x then k + 1 else k) = [] := List.drop_eq_nil_iff.2 (by split <;> omega)
      rw [this] at hb; cases hb
  rw [List.append_assoc, List.pairwise_append]
  refine ⟨hs.sublist (List.take_sublist k l), ?_, ?_⟩
  · show (x :: l.drop _).Pairwise _
    rw [List.pairwise_cons]
    exact ⟨hge, hs.sublist (List.drop_sublist _ l)⟩
  · intro a ha b hb
    rcases List.mem_cons.1 hb with rfl | hb
    · exact hlt a ha
    · have h3 := hlt a ha; have h4 := hge b hb; omega

theorem RowU.part {w : World} {b n cap : Nat} {l : List Nat} (h : RowU w (.slice (some ⟨b, 0, none⟩) n cap) l) (k : Nat) : ∀ j u, (encId (l.drop k))[j]? = some u → w.cell? ((⟨b, k, none⟩ : Addr).add j) = some u := by
  intro j u hj
  have hjl : k + j < l.length := by
    have := (List.getElem?_eq_some_iff.1 hj).1
    simp [encId] at this; omega
  obtain ⟨b', cap', e, _, hc⟩ := h.at hjl
  simp only [Value.slice.injEq, Option.some.injEq, Addr.mk.injEq, and_true] at e
  obtain ⟨rfl, _, _⟩ := e
  rw [Addr.add_lit, hc]
  simp [encId, hjl] at hj
  rw [← hj]

theorem WithR.fin {w wr w8 w9 : World} {y v9 : Value} {l r : List Nat} {x k m g8 cap8 : Nat} {xs : List Value} {o : Obj} (h1 : Fr [] w wr) (hq : ∀ q, y.ownBlock = some q → w.heap.size ≤ q) (hF8 : Fr y.ownBlock.toList (wr.alloc o) w8)
    (hgrow9 : w8.grownBy w9 (Value.slice (some ⟨g8, 0, none⟩) (k + 1) cap8).ownBlock) (hown9 : w9.ownsRow 0 22 1 v9 (k + 1 + m) xs) (hg8 : y.ownBlock = some g8 ∨ (wr.alloc o).heap.size ≤ g8)
    (hg9 : v9.ownBlock = (Value.slice (some ⟨g8, 0, none⟩) (k + 1) cap8).ownBlock ∨ v9.ownBlock = some w8.heap.size) (hr : r.length = k + 1 + m) (hx : encId r = xs) (HW : WithR l x r) :
    ∃ v' r', Ending.returned v9 = .returned v' ∧ RowU w9 v' r' ∧ WithR l x r' ∧ (∀ q, v'.ownBlock = some q → w.heap.size ≤ q) ∧ Fr [] w w9 := by
  have hs1 := h1.size
  have hs8 := hF8.size
  simp only [World.size_alloc] at hs8 hg8
  have hg : w.heap.size ≤ g8 := by
    rcases hg8 with e | e
    · exact hq _ e
    · omega
  have hF9 : Fr [g8] w8 w9 := (Fr.refl _ _).grown hgrow9 (fun q e => .inl (by simp [Value.ownBlock] at e; simp [e]))
  refine ⟨v9, r, rfl, by unfold RowU; rw [hr, hx]; exact hown9, HW, fun q hq9 => ?_, ((h1.alloc o).trans hF8 (fun q hq' => .inr (hq q (by simpa using hq')))).trans hF9 (fun q hq' => .inr (by simp at hq'; omega))⟩
  rcases hg9 with e | e
  · rw [hq9] at e; simp [Value.ownBlock] at e; omega
  · rw [hq9] at e; simp at e; omega

theorem encId_one (l : List Nat) : ∀ u ∈ encId l, u.oneCell' = true := by
  intro u hu; simp only [encId, List.mem_map] at hu; obtain ⟨_, _, rfl⟩ := hu; rfl
theorem with_w {w : World} {v : Value} {l : List Nat} (h : RowU w v l) (x : Nat) (hl : l.length ≤ 65536) :
    Calls Tryz.prog 75 #[v, .int .u64 x] w fun e w' => ∃ v' r, e = .returned v' ∧ RowU w' v' r ∧ WithR l x r ∧ (∀ q, v'.ownBlock = some q → w.heap.size ≤ q) ∧ Fr [] w w' := by
  by_cases hnil : v = .slice none 0 0
  · subst hnil
    have hl0 : l = [] := by
      rcases h.2 with ⟨_, h0⟩ | ⟨g, cap, cur, e, _⟩
      · exact List.eq_nil_of_length_eq_zero h0
      · cases e
    subst hl0
    have HB := Lib.hid (Blk.new w [.int .u64 x] 22)
    clear h hl
    go_enter Tryz.func75, Tryz.ntmps75
    go_wp2_with fail
    go_loopw [5, 6] (fun y z wr => wr = w ∧ y = .slice none 0 0 ∧ z = .int .i64 0) (fun _ _ _ => 0)
    case atStart => exact ⟨rfl, rfl, rfl⟩
    case round =>
      obtain ⟨rfl, rfl, rfl⟩ := hrel
      rename World => wr
      have d0 : decide ((0 : Int) < 0) = false := by decide
      go_wp2_with (first | (at_builtin; refine wpList_appK rfl _ _ 63 rfl 22 (.int .u64 0) 1 8 Tryz.underlying63 Tryz.info22 rfl (by decide) (.slice none 0 0) 0 [] rfl (World.ownsRow_nil _ _ _ _) wr.heap.size 22 [.int .u64 x] rfl HB.out rfl (by simp [Value.oneCell']) (by omega) (by decide) ?_; intro g8 cap8 w8 hown8 hgrow8 hg8) | (at_builtin; refine wpList_app_z rfl _ _ 63 rfl 22 (.int .u64 0) 1 8 Tryz.underlying63 Tryz.info22 _ _ _ rfl hown8 rfl ?_) | fail)
      go_ret
      have hF8 : Fr [] (wr.alloc (.cells #[.int .u64 x] 22)) w8 := (Fr.refl _ _).grown hgrow8 (fun q e => by cases e)
      refine ⟨.slice (some ⟨g8, 0, none⟩) 1 cap8, [x], rfl, hown8, ⟨0, Nat.le_refl _, fun j hj _ => absurd hj (Nat.not_lt_zero _), fun hk => absurd hk (Nat.not_lt_zero _), by simp⟩, fun q hq => ?_, ((Fr.refl [] wr).alloc _).trans' hF8⟩
      simp only [Value.ownBlock, Option.some.injEq] at hq
      subst hq
      rcases hg8 with h | h
      · cases h
      · simp only [World.size_alloc] at h; omega
  · obtain ⟨b, cv, rfl⟩ : ∃ b cv, v = .slice (some ⟨b, 0, none⟩) l.length cv := by
      rcases h.2 with ⟨e, _⟩ | ⟨g, cap, cur, e, _⟩
      · exact absurd e hnil
      · exact ⟨g, cap, e⟩
    have hcap : l.length ≤ cv := by
      rcases h.2 with ⟨e, _⟩ | ⟨g, cap, cur, e, _, _, hn, _⟩
      · cases e
      · simp only [Value.slice.injEq, true_and] at e; rw [e.2]; exact hn
    clear hnil
    have HV := Lib.hid h; clear h
    go_enter Tryz.func75, Tryz.ntmps75
    go_wp2_with fail
    go_loopw [5, 6] (fun y z wr => ∃ k : Nat, k ≤ l.length ∧ z = .int .i64 k ∧ okS y = true ∧ Hid (RowU wr y (l.take k) ∧ (∀ q, y.ownBlock = some q → w.heap.size ≤ q) ∧ Fr [] w wr ∧ ∀ j (hj : j < l.length), j < k → l[j] < x)) (fun _ z _ => l.length - (intOf z).toNat)
    case atStart => exact ⟨0, Nat.zero_le _, rfl, rfl, Lib.hid ⟨⟨rfl, .inl ⟨rfl, rfl⟩⟩, fun q e => (by cases e), Fr.refl _ _, fun j _ hj => absurd hj (Nat.not_lt_zero _)⟩⟩
    case round =>
      obtain ⟨k, hk, rfl, _, HS⟩ := hrel
      rename World => wr
      rename Value => y
      obtain ⟨ay, cy, rfl⟩ := HS.out.1.slice
      have hty : (l.take k).length = k := by rw [List.length_take]; omega
      rw [hty]
      have HVr := Lib.hid (HV.out.fr0 HS.out.2.2.1)
      have hsz := HS.out.2.2.1.size
      have hbl : b < w.heap.size := HV.out.lt rfl
      have HQ := Lib.hid (show ∀ q, (Value.slice ay k cy).ownBlock = some q → w.heap.size ≤ q from fun q hq => HS.out.2.1 q (by rw [hty]; exact hq))
      by_cases hin : ∃ hkl : k < l.length, l[k] < x
      · obtain ⟨hkl, hlt⟩ := hin
        have hii : (k : Int) < l.length := by omega
        have dk : decide ((k : Int) < l.length) = true := decide_eq_true hii
        obtain ⟨_, _, e, _, ck⟩ := HVr.out.at hkl
        simp only [Value.slice.injEq, Option.some.injEq, Addr.mk.injEq, and_true, true_and] at e
        obtain ⟨rfl, rfl⟩ := e
        obtain ⟨p, hp⟩ : ∃ p, p = l[k] := ⟨_, rfl⟩
        have HP := Lib.hid hp
        rw [← hp] at ck hlt
        have hlt' : (p : Int) < x := by omega
        have HLT := Lib.hid hlt
        clear hp hlt
        have hrow : (wr.alloc (.cells #[.int .u64 p] 22)).ownsRow 0 22 1 (.slice ay k cy) k (encId (l.take k)) := by
          have := (HS.out.1.fr0 ((Fr.refl [] wr).alloc (.cells #[.int .u64 p] 22)))
          unfold RowU at this
          rwa [hty] at this
        have HRW := Lib.hid hrow; clear hrow
        have HB := Lib.hid (show Blk (wr.alloc (.cells #[.int .u64 p] 22)) wr.heap.size 22 [.int .u64 p] from Blk.new wr [.int .u64 p] 22)
        go_wp2_with (first | (at_builtin; refine wpList_appK rfl _ _ 63 rfl 22 (.int .u64 0) 1 8 Tryz.underlying63 Tryz.info22 rfl (by decide) (.slice ay k cy) k _ rfl HRW.out wr.heap.size 22 [.int .u64 p] rfl HB.out rfl (by simp [Value.oneCell']) (by omega) (by decide) ?_; intro g8 cap8 w8 hown8 hgrow8 hg8; have hF8 : Fr (Value.slice ay k cy).ownBlock.toList (wr.alloc (.cells #[.int .u64 p] 22)) w8 := (Fr.refl _ _).grown hgrow8 (fun q e => .inl (by simp [e]))) | fail)
        refine ⟨⟨k + 1, by omega, by go_num, rfl, Lib.hid ⟨?_, fun q hq => ?_, ?_, fun j hj hjk => ?_⟩⟩, by simp [intOf]; omega⟩
        · unfold RowU
          have ht : l.take (k + 1) = l.take k ++ [p] := by rw [HP.out, List.take_succ_eq_append_getElem]
          rw [ht, List.length_append, hty]
          have : encId (l.take k ++ [p]) = encId (l.take k) ++ [.int .u64 p] := by simp [encId]
          rw [this]
          exact hown8
        · simp only [Value.ownBlock, Option.some.injEq] at hq
          subst hq
          rcases hg8 with h | h
          · exact HS.out.2.1 _ (by rw [hty]; exact h)
          · simp only [World.size_alloc] at h; omega
        · exact (HS.out.2.2.1.alloc _).trans hF8 (fun q hq => .inr (HS.out.2.1 q (by rw [hty]; simpa using hq)))
        · by_cases e1 : j = k
          · subst e1; rw [← HP.out]; exact HLT.out
          · exact HS.out.2.2.2 j hj (by omega)
      · have hrow : (wr.alloc (.cells #[.int .u64 x] 22)).ownsRow 0 22 1 (.slice ay k cy) k (encId (l.take k)) := by
          have := (HS.out.1.fr0 ((Fr.refl [] wr).alloc (.cells #[.int .u64 x] 22)))
          unfold RowU at this
          rwa [hty] at this
        have HRW := Lib.hid hrow; clear hrow
        have HB := Lib.hid (show Blk (wr.alloc (.cells #[.int .u64 x] 22)) wr.heap.size 22 [.int .u64 x] from Blk.new wr [.int .u64 x] 22)
        have HVA := Lib.hid (fun (w8 : World) (hF : Fr (Value.slice ay k cy).ownBlock.toList (wr.alloc (.cells #[.int .u64 x] 22)) w8) => ((HVr.out.fr0 ((Fr.refl [] wr).alloc _)).fr hF (fun q hq hm => by
          have h1 := HS.out.2.1 q (by rw [hty]; simpa using hm)
          simp only [Value.ownBlock, Option.some.injEq] at hq
          omega)))
        by_cases hkl : k < l.length
        · have hii : (k : Int) < l.length := by omega
          have dk : decide ((k : Int) < l.length) = true := decide_eq_true hii
          have hge : ¬ l[k] < x := fun e => hin ⟨hkl, e⟩
          obtain ⟨_, _, e, _, ck⟩ := HVr.out.at hkl
          simp only [Value.slice.injEq, Option.some.injEq, Addr.mk.injEq, and_true, true_and] at e
          obtain ⟨rfl, rfl⟩ := e
          obtain ⟨p, hp⟩ : ∃ p, p = l[k] := ⟨_, rfl⟩
          have HP := Lib.hid hp.symm
          rw [← hp] at ck hge
          have hge' : ¬ (p : Int) < x := by omega
          have dge : decide ((p : Int) < x) = false := decide_eq_false hge'
          by_cases hpx : p = x
          · have HW := Lib.hid (show WithR l x ((l.take k ++ [x]) ++ l.drop (k + 1)) from ⟨k, hk, fun j hj hjk => HS.out.2.2.2 j hj hjk, fun _ => by rw [← hp]; exact hge, by rw [if_pos (by rw [List.getElem?_eq_getElem hkl, ← hp, hpx])]⟩)
            have dpx : ((p : Int) == (x : Int)) = true := by simp; omega
            clear hin hp hge hpx
            obtain ⟨AA, hAA, hPP⟩ : ∃ AA : Addr, (if cv = k + 1 then some (⟨b, 0, none⟩ : Addr) else some ⟨b, k + 1, none⟩) = some AA ∧ Hid (∀ w', RowU w' (.slice (some ⟨b, 0, none⟩) l.length cv) l → ∀ jj u, (encId (l.drop (k + 1)))[jj]? = some u → w'.cell? (AA.add jj) = some u) := by
              by_cases e : cv = k + 1
              · refine ⟨_, if_pos e, Lib.hid (fun w' _ jj u hu => ?_)⟩
                have : l.drop (k + 1) = [] := List.drop_eq_nil_iff.2 (by omega)
                rw [this] at hu; simp [encId] at hu
              · exact ⟨_, if_neg e, Lib.hid (fun w' hw => hw.part _)⟩
            go_wp2_with (first | (at_builtin; refine wpList_appK rfl _ _ 63 rfl 22 (.int .u64 0) 1 8 Tryz.underlying63 Tryz.info22 rfl (by decide) (.slice ay k cy) k _ rfl HRW.out wr.heap.size 22 [.int .u64 x] rfl HB.out rfl (by simp [Value.oneCell']) (by omega) (by decide) ?_; intro g8 cap8 w8 hown8 hgrow8 hg8; have hF8 : Fr (Value.slice ay k cy).ownBlock.toList (wr.alloc (.cells #[.int .u64 x] 22)) w8 := (Fr.refl _ _).grown hgrow8 (fun q e => .inl (by simp [e])); have HV8 := Lib.hid (HVA.out w8 hF8); obtain ⟨_, _, e8, _, c8⟩ := HV8.out.at hkl; simp only [Value.slice.injEq, Option.some.injEq, Addr.mk.injEq, and_true, true_and] at e8; obtain ⟨rfl, rfl⟩ := e8; rw [HP.out] at c8) | (at_builtin; refine wpList_app_at rfl _ _ 63 rfl 22 (.int .u64 0) 1 8 Tryz.underlying63 Tryz.info22 rfl (by decide) _ _ _ rfl hown8 AA (l.length - (k + 1)) (cv - (k + 1)) (encId (l.drop (k + 1))) (by rfl) (by simp [encId]) (hPP.out _ HV8.out) (encId_one _) (by omega) (by decide) ?_; intro v9 w9 hown9 hgrow9 hg9) | fail)
            go_ret
            obtain ⟨_, r', e, h1, h2⟩ := WithR.fin HS.out.2.2.1 HQ.out hF8 hgrow9 hown9 hg8 hg9 (by simp <;> omega) (by simp [encId]) HW.out
            cases e
            first | exact ⟨_, r', rfl, h1, h2⟩ | exact ⟨_, rfl, r', h1, h2⟩
          · have HW := Lib.hid (show WithR l x ((l.take k ++ [x]) ++ l.drop k) from ⟨k, hk, fun j hj hjk => HS.out.2.2.2 j hj hjk, fun _ => by rw [← hp]; exact hge, by rw [if_neg (by rw [List.getElem?_eq_getElem hkl, ← hp]; simpa using hpx)]⟩)
            have dpx : ((p : Int) == (x : Int)) = false := by simp; omega
            clear hin hp hge hpx
            go_wp2_with (first | (at_builtin; refine wpList_appK rfl _ _ 63 rfl 22 (.int .u64 0) 1 8 Tryz.underlying63 Tryz.info22 rfl (by decide) (.slice ay k cy) k _ rfl HRW.out wr.heap.size 22 [.int .u64 x] rfl HB.out rfl (by simp [Value.oneCell']) (by omega) (by decide) ?_; intro g8 cap8 w8 hown8 hgrow8 hg8; have hF8 : Fr (Value.slice ay k cy).ownBlock.toList (wr.alloc (.cells #[.int .u64 x] 22)) w8 := (Fr.refl _ _).grown hgrow8 (fun q e => .inl (by simp [e])); have HV8 := Lib.hid (HVA.out w8 hF8); obtain ⟨_, _, e8, _, c8⟩ := HV8.out.at hkl; simp only [Value.slice.injEq, Option.some.injEq, Addr.mk.injEq, and_true, true_and] at e8; obtain ⟨rfl, rfl⟩ := e8; rw [HP.out] at c8) | (at_builtin; refine wpList_app_at rfl _ _ 63 rfl 22 (.int .u64 0) 1 8 Tryz.underlying63 Tryz.info22 rfl (by decide) _ _ _ rfl hown8 ⟨b, k, none⟩ (l.length - (k)) (cv - (k)) (encId (l.drop (k))) (by rfl) (by simp [encId]) (HV8.out.part _) (encId_one _) (by omega) (by decide) ?_; intro v9 w9 hown9 hgrow9 hg9) | fail)
            go_ret
            obtain ⟨_, r', e, h1, h2⟩ := WithR.fin HS.out.2.2.1 HQ.out hF8 hgrow9 hown9 hg8 hg9 (by simp <;> omega) (by simp [encId]) HW.out
            cases e
            first | exact ⟨_, r', rfl, h1, h2⟩ | exact ⟨_, rfl, r', h1, h2⟩
        · obtain rfl : k = l.length := by omega
          have dk : decide ((l.length : Int) < l.length) = false := decide_eq_false (by omega)
          have HW := Lib.hid (show WithR l x ((l.take l.length ++ [x]) ++ l.drop l.length) from ⟨l.length, hk, fun j hj hjk => HS.out.2.2.2 j hj hjk, fun h => absurd h (by omega), by rw [if_neg (by simp)]⟩)
          clear hin
          obtain ⟨AA, hAA, hPP⟩ : ∃ AA : Addr, (if cv = l.length then some (⟨b, 0, none⟩ : Addr) else some ⟨b, l.length, none⟩) = some AA ∧ Hid (∀ w', RowU w' (.slice (some ⟨b, 0, none⟩) l.length cv) l → ∀ jj u, (encId (l.drop (l.length)))[jj]? = some u → w'.cell? (AA.add jj) = some u) := by
            by_cases e : cv = l.length
            · refine ⟨_, if_pos e, Lib.hid (fun w' _ jj u hu => ?_)⟩
              have : l.drop (l.length) = [] := List.drop_eq_nil_iff.2 (by omega)
              rw [this] at hu; simp [encId] at hu
            · exact ⟨_, if_neg e, Lib.hid (fun w' hw => hw.part _)⟩
          go_wp2_with (first | (at_builtin; refine wpList_appK rfl _ _ 63 rfl 22 (.int .u64 0) 1 8 Tryz.underlying63 Tryz.info22 rfl (by decide) (.slice ay l.length cy) l.length _ rfl HRW.out wr.heap.size 22 [.int .u64 x] rfl HB.out rfl (by simp [Value.oneCell']) (by omega) (by decide) ?_; intro g8 cap8 w8 hown8 hgrow8 hg8; have hF8 : Fr (Value.slice ay l.length cy).ownBlock.toList (wr.alloc (.cells #[.int .u64 x] 22)) w8 := (Fr.refl _ _).grown hgrow8 (fun q e => .inl (by simp [e])); have HV8 := Lib.hid (HVA.out w8 hF8)) | (at_builtin; refine wpList_app_at rfl _ _ 63 rfl 22 (.int .u64 0) 1 8 Tryz.underlying63 Tryz.info22 rfl (by decide) _ _ _ rfl hown8 AA 0 (cv - l.length) [] (by rfl) rfl (fun j u hu => by simp at hu) (by simp) (by omega) (by decide) ?_; intro v9 w9 hown9 hgrow9 hg9) | fail)
          go_ret
          obtain ⟨_, r', e, h1, h2⟩ := WithR.fin HS.out.2.2.1 HQ.out hF8 hgrow9 hown9 hg8 hg9 (by simp <;> omega) (by simp [encId]) HW.out
          cases e
          first | exact ⟨_, r', rfl, h1, h2⟩ | exact ⟨_, rfl, r', h1, h2⟩
end Go.Proofs.YtbegdgnhpklceaaGreat
