/- The statement 'InternCopies': for every input the call returns true, and each argument reads afterwards as it read before. -/
import Derived.Test.YtciacnnelpijeaaInternCopiesZ11
import Derived.Test.YtciacnnelpijeaaInternCopiesZ1
/- A table and the document's, or none of both: New, Put, Del, Copy, agree. -/
namespace Go.Proofs.Ytciacnnelpijeaa
open Go.RowKit
set_option maxRecDepth 10000
set_option maxHeartbeats 800000

/-- None of the blocks of the two is n. -/
def PairI (W : World) (n : Nat) (wr : World) (qt qr : Option Addr) : Prop :=
  (qt = none ∧ qr = none ∧ Fr [] W wr) ∨ ∃ pt l pr vL vF M, qt = some ⟨pt, 0, none⟩ ∧ qr = some ⟨pr, 0, none⟩ ∧ BothI W wr pt l pr vL vF M ∧ (∀ b ∈ l, b ≠ n) ∧ ∀ q ∈ rTB pr vL vF, q ≠ n
theorem PairI.fr {W wr : World} {n : Nat} {qt qr : Option Addr} (h : PairI W n wr qt qr) : Fr [] W wr := by
  obtain ⟨rfl, rfl, hf⟩ | ⟨pt, l, pr, vL, vF, M, rfl, rfl, hB, _⟩ := h
  · exact hf
  · exact hB.fr
theorem PairI.keep {W wr w' : World} {n : Nat} {qt qr : Option Addr} (h : PairI W n wr qt qr) (hf : Fr [] wr w') : PairI W n w' qt qr := by
  obtain ⟨rfl, rfl, h2⟩ | ⟨pt, l, pr, vL, vF, M, rfl, rfl, hB, h3⟩ := h
  · exact .inl ⟨rfl, rfl, h2.trans' hf⟩
  · exact .inr ⟨pt, l, pr, vL, vF, M, rfl, rfl, hB.keep hf, h3⟩
theorem PairI.now {W wr : World} {n m : Nat} {qt qr : Option Addr} (h : PairI W n wr qt qr) (hm : wr.heap.size ≤ m) : PairI W m wr qt qr := by
  obtain h | ⟨pt, l, pr, vL, vF, M, h1, h2, hB, h3, h4⟩ := h
  · exact .inl h
  · exact .inr ⟨pt, l, pr, vL, vF, M, h1, h2, hB, fun b hb => by have := hB.tab.lt b hb; omega, fun b hb => by have := hB.ref.lt b hb; omega⟩

/-- Block n is as it was. -/
def Kept (n : Nat) (w w' : World) : Prop := n < w.heap.size → n < w'.heap.size ∧ w'.heap[n]? = w.heap[n]?
theorem Kept.blk {w w' : World} {b : Nat} (h : Kept b w w') {t : TypeId} {l : List Value} (hb : Blk w b t l) : Blk w' b t l := hb.of_same (h hb.lt).2
theorem Kept.refl (n : Nat) (w : World) : Kept n w w := fun h => ⟨h, rfl⟩
theorem Kept.of_fr {n : Nat} {S : List Nat} {w w' : World} (h : Fr S w w') (hs : ∀ q ∈ S, q ≠ n) : Kept n w w' := fun hn => ⟨Nat.lt_of_lt_of_le hn h.size, h.keep n hn (fun hm => hs n hm rfl)⟩

section
variable {W wr w1 w2 : World} {n : Nat} {pt : Nat} {l l' : List Nat} {pr : Nat} {vL vF vL' vF' : Value} {M M' : Md}
/-- Both were changed, the table first. -/
theorem BothI.did (h : BothI W wr pt l pr vL vF M) (ht : TabM w1 pt M' l') (h1 : Next l l' wr w1) (hr : RTab w2 pr vL' vF' M') (h2 : Fr (rTB pr vL vF) w1 w2) (hq : ∀ q ∈ rTB pr vL' vF', q ∈ rTB pr vL vF ∨ w1.heap.size ≤ q) : BothI W w2 pt l' pr vL' vF' M' := by
  have hlt := h.ref.lt
  have hl2 := ht.lt
  have hs1 := h1.1.size
  have hs0 := h.fr.size
  refine ⟨ht.fr h2 (fun b hb hm => ?_), hr, (h.fr.trans h1.1 (fun q hq => .inr (h.newT q hq))).trans h2 (fun q hq => .inr (h.newR q hq).1), fun b hb => ?_, fun q hqq => ?_⟩
  · rcases h1.2 b hb with e | e
    · exact (h.newR b hm).2 e
    · have := hlt b hm; omega
  · rcases h1.2 b hb with e | e
    · exact h.newT b e
    · omega
  · rcases hq q hqq with e | e
    · refine ⟨(h.newR q e).1, fun hm => ?_⟩
      rcases h1.2 q hm with e2 | e2
      · exact (h.newR q e).2 e2
      · have := hlt q e; omega
    · exact ⟨by omega, fun hm => by have := hl2 q hm; omega⟩
end

theorem newI (W : World) (n : Int) : Calls Try.prog 14 #[.int .i64 n] W fun e w1 => ∃ qt c, e = .returned (.tuple #[.pointer qt, .int .i64 (c : Nat)]) ∧
    Calls Try.prog 23 #[.int .i64 n] w1 fun e w2 => ∃ qr, e = .returned (.tuple #[.pointer qr, .int .i64 (c : Nat)]) ∧ PairI W w2.heap.size w2 qt qr ∧ Fr [] W w2 ∧ ((qt = none ∧ qr = none) ∨ ∃ pt pr, qt = some ⟨pt, 0, none⟩ ∧ qr = some ⟨pr, 0, none⟩) := by
  by_cases hbad : n < 0 ∨ 65536 < n
  · refine (table_new_no n W hbad).mono ?_
    rintro _ w1 ⟨rfl, rfl⟩
    refine ⟨none, 2, rfl, (rnew_bad _ n hbad).mono ?_⟩
    rintro _ w2 ⟨rfl, rfl⟩
    exact ⟨none, rfl, .inl ⟨rfl, rfl, Fr.refl _ _⟩, Fr.refl _ _, .inl ⟨rfl, rfl⟩⟩
  · obtain ⟨n, rfl⟩ : ∃ m : Nat, n = m := ⟨n.toNat, by omega⟩
    have hn : n ≤ 65536 := by omega
    refine (tab_new n W hn).mono ?_
    rintro _ w1 ⟨pt, rfl, l, h1, n1⟩
    refine ⟨_, 0, rfl, (rnew_w w1 n hn).mono ?_⟩
    rintro _ w2 ⟨pr, rfl, h2, f2, hp⟩
    have hl := h1.lt
    have hs1 := n1.1.size
    refine ⟨_, rfl, .inr ⟨pt, l, pr, _, _, Md.new n, rfl, rfl, ⟨h1.fr f2 (by simp), h2, n1.1.trans' f2, fun b hb => (n1.2 b hb).resolve_left (by simp), fun q hq => ?_⟩, fun b hb => ?_, fun q hq => ?_⟩, n1.1.trans' f2, .inr ⟨_, _, rfl, rfl⟩⟩
    · simp [rTB, Value.ownBlock] at hq
      subst hq
      exact ⟨by omega, fun hm => by have := hl _ hm; omega⟩
    · have := hl b hb; have := f2.size; omega
    · have := h2.lt q hq; omega

theorem agreeI {W wr : World} {n : Nat} {qt qr : Option Addr} (h : PairI W n wr qt qr) (id : Nat) (hid : id < 18446744073709551616) (i : Int) :
    Calls Try.prog 24 #[.pointer qt, .pointer qr, .int .u64 id, .int .i64 i] wr fun e w' => e = .returned (.bool true) ∧ PairI W n w' qt qr ∧ Kept n wr w' := by
  obtain ⟨rfl, rfl, h2⟩ | ⟨pt, l, pr, vL, vF, M, rfl, rfl, hB, h3⟩ := h
  · refine (nil_agree id i).mono ?_
    rintro _ w' ⟨rfl, hf⟩
    exact ⟨rfl, .inl ⟨rfl, rfl, h2.trans' hf⟩, Kept.of_fr hf (by simp)⟩
  · refine (agree_w hB id hid i).mono ?_
    rintro _ w' ⟨rfl, hf⟩
    exact ⟨rfl, .inr ⟨pt, l, pr, vL, vF, M, rfl, rfl, hB.keep hf, h3⟩, Kept.of_fr hf (by simp)⟩

theorem putI {W wr : World} {n : Nat} {qt qr : Option Addr} (h : PairI W n wr qt qr) (hn : n < wr.heap.size) (id : Nat) (hid : id < 18446744073709551616) :
    Calls Try.prog 16 #[.pointer qt, .int .u64 id] wr fun e w1 => ∃ (i : Nat) (a : Bool) (g : Nat), e = .returned (.tuple #[.int .i64 i, .bool a, .int .i64 g]) ∧ Kept n wr w1 ∧
      Calls Try.prog 28 #[.pointer qr, .int .u64 id] w1 fun e w2 => e = .returned (.tuple #[.int .i64 i, .bool a, .int .i64 g]) ∧ Kept n w1 w2 ∧ PairI W n w2 qt qr := by
  obtain ⟨rfl, rfl, h2⟩ | ⟨pt, l, pr, vL, vF, M, rfl, rfl, hB, h3, h4⟩ := h
  · refine (bad_put _ _ _ (.inl rfl)).mono ?_
    rintro _ w1 ⟨rfl, rfl⟩
    refine ⟨0, false, 1, rfl, Kept.refl _ _, (rnil_put id).mono ?_⟩
    rintro _ w2 ⟨rfl, rfl⟩
    exact ⟨rfl, Kept.refl _ _, .inl ⟨rfl, rfl, h2⟩⟩
  · have hok := hB.tab.ok
    refine (tab_put id hid hB.tab).mono ?_
    rintro _ w1 ⟨rfl, l', h1, n1⟩
    refine ⟨_, _, _, rfl, Kept.of_fr n1.1 h3, (rput_w (hB.ref.fr n1.1 (fun q hq => (hB.newR q hq).2)) hok id).mono ?_⟩
    rintro _ w2 ⟨rfl, vL', vF', hr, hf, hq⟩
    have hB2 := hB.did h1 n1 hr hf hq
    have hs1 := n1.1.size
    exact ⟨rfl, Kept.of_fr hf h4, .inr ⟨pt, l', pr, vL', vF', _, rfl, rfl, hB2, fun b hb => (n1.2 b hb).elim (h3 b) (fun e => by omega), fun q hqq => (hq q hqq).elim (h4 q) (fun e => by omega)⟩⟩

theorem delI {W wr : World} {n : Nat} {qt qr : Option Addr} (h : PairI W n wr qt qr) (hn : n < wr.heap.size) (id : Nat) (hid : id < 18446744073709551616) :
    Calls Try.prog 15 #[.pointer qt, .int .u64 id] wr fun e w1 => ∃ (g : Nat), e = .returned (.int .i64 g) ∧ Kept n wr w1 ∧
      Calls Try.prog 29 #[.pointer qr, .int .u64 id] w1 fun e w2 => e = .returned (.int .i64 g) ∧ Kept n w1 w2 ∧ PairI W n w2 qt qr := by
  obtain ⟨rfl, rfl, h2⟩ | ⟨pt, l, pr, vL, vF, M, rfl, rfl, hB, h3, h4⟩ := h
  · refine (bad_del _ _ _ (.inl rfl)).mono ?_
    rintro _ w1 ⟨rfl, rfl⟩
    refine ⟨1, rfl, Kept.refl _ _, (rnil_del id).mono ?_⟩
    rintro _ w2 ⟨rfl, rfl⟩
    exact ⟨rfl, Kept.refl _ _, .inl ⟨rfl, rfl, h2⟩⟩
  · have hok := hB.tab.ok
    refine (tab_del id hid hB.tab).mono ?_
    rintro _ w1 ⟨rfl, h1, n1⟩
    refine ⟨_, rfl, Kept.of_fr n1.1 h3, (rdel_w (hB.ref.fr n1.1 (fun q hq => (hB.newR q hq).2)) hok id).mono ?_⟩
    rintro _ w2 ⟨rfl, vL', vF', hr, hf, hq⟩
    have hB2 := hB.did h1 n1 hr hf hq
    have hs1 := n1.1.size
    exact ⟨rfl, Kept.of_fr hf h4, .inr ⟨pt, l, pr, vL', vF', _, rfl, rfl, hB2, fun b hb => (n1.2 b hb).elim (h3 b) (fun e => by omega), fun q hqq => (hq q hqq).elim (h4 q) (fun e => by omega)⟩⟩

theorem copyI {W wr : World} {n : Nat} {qt qr : Option Addr} (h : PairI W n wr qt qr) (hn : n < wr.heap.size) :
    Calls Try.prog 26 #[.pointer qt] wr fun e w1 => ∃ qt', e = .returned (.pointer qt') ∧ Kept n wr w1 ∧
      Calls Try.prog 30 #[.pointer qr] w1 fun e w2 => ∃ qr', e = .returned (.pointer qr') ∧ Kept n w1 w2 ∧ PairI W n w2 qt' qr' := by
  obtain ⟨rfl, rfl, h2⟩ | ⟨pt, l, pr, vL, vF, M, rfl, rfl, hB, h3, h4⟩ := h
  · refine (bad_copy _ _ (.inl rfl)).mono ?_
    rintro _ w1 ⟨rfl, rfl⟩
    refine ⟨none, rfl, Kept.refl _ _, rnil_copy.mono ?_⟩
    rintro _ w2 ⟨rfl, rfl⟩
    exact ⟨none, rfl, Kept.refl _ _, .inl ⟨rfl, rfl, h2⟩⟩
  · have hok := hB.tab.ok
    refine (tab_copy hB.tab).mono ?_
    rintro _ w1 ⟨pt', rfl, l', h1, f1, hl1⟩
    refine ⟨_, rfl, Kept.of_fr f1 (by simp), (rcopy_w (hB.ref.fr0 f1) hok).mono ?_⟩
    rintro _ w2 ⟨pr', vL', vF', rfl, hr, f2, hq⟩
    have hs0 := hB.fr.size
    have hs1 := f1.size
    have ht2 := h1.fr f2 (by simp)
    refine ⟨_, rfl, Kept.of_fr f2 (by simp), .inr ⟨pt', l', pr', vL', vF', M, rfl, rfl, ⟨ht2, hr, (hB.fr.trans' f1).trans' f2, fun b hb => by have := hl1 b hb; omega, fun q hqq => ?_⟩, fun b hb => by have := hl1 b hb; omega, fun q hqq => by have := hq q hqq; omega⟩⟩
    have h5 := hq q hqq
    exact ⟨by omega, fun hm => by have := h1.lt q hm; omega⟩
end Go.Proofs.Ytciacnnelpijeaa

/- InternNews: the walk. -/
namespace Go.Proofs.Ytciacnnelpijeaa
open Go.RowKit
set_option maxRecDepth 10000
set_option maxHeartbeats 800000

theorem nat_u64 {a : Int} (h : (Lit.int .u64 a).wf = true) : ∃ m : Nat, a = m ∧ m < 18446744073709551616 := by
  have := bounds_u64 h
  exact ⟨a.toNat, by omega, by omega⟩

theorem walk_internNews (W : World) (n : Int) (_wn : (Lit.int .i64 n).wf = true) (a : Int) (wa : (Lit.int .u64 a).wf = true) (i : Int) (_wi : (Lit.int .i64 i).wf = true) :
    Calls Try.prog 8 #[.int .i64 n, .int .u64 a, .int .i64 i] W fun e w' => e = .returned (.bool true) ∧ Below W.heap.size W w' := by
  obtain ⟨id, rfl, hid⟩ := nat_u64 wa
  clear _wn _wi wa
  have HN := Lib.hid (newI W n)
  have HA := Lib.hid (fun (w2 : World) (qt qr : Option Addr) (h : PairI W w2.heap.size w2 qt qr) => agreeI h id hid i)
  clear hid
  go_enter Try.func8, Try.ntmps8
  go_wp2_with fail
  refine HN.out.mono ?_
  rintro _ w1 ⟨qt, c, rfl, hN2⟩
  have HN2 := Lib.hid hN2; clear hN2 HN
  go_wp2_with fail
  refine HN2.out.mono ?_
  rintro _ w2 ⟨qr, rfl, hP, hF, hq⟩
  have HP := Lib.hid hP; clear hP HN2
  have HF := Lib.hid hF; clear hF
  have t1 : ((c : Int) != (c : Int)) = false := by simp
  rcases hq with ⟨rfl, rfl⟩ | ⟨pt, pr, rfl, rfl⟩
  all_goals
    have HA2 := Lib.hid (HA.out _ _ _ HP.out)
    clear HA
    go_wp2_with fail
    refine HA2.out.mono ?_
    rintro _ w3 ⟨rfl, hP3, _⟩
    have HF3 := Lib.hid hP3.fr; clear hP3
    go_wp2_with fail
    refine (works_w _).mono ?_
    rintro _ w4 ⟨rfl, hB⟩
    go_wp2
    go_ret
    exact ⟨rfl, (HF3.out.below (by simp)).trans (hB.mono HF3.out.size)⟩
end Go.Proofs.Ytciacnnelpijeaa

/- 'filled': a table into which ids were put; the indexes that they got. -/
namespace Go.Proofs.Ytciacnnelpijeaa
open Go.RowKit

/-- A slice of len integers that came in reads f. -/
def RowF (k : IntKind) (w : World) (a : Option Addr) (len : Nat) (f : Nat → Nat) : Prop :=
  ∀ i, i < len → ∃ b off, a = some ⟨b, off, none⟩ ∧ b < w.heap.size ∧ w.cell? ⟨b, off + i, none⟩ = some (.int k (f i))

theorem RowF.below {k : IntKind} {w w' : World} {a : Option Addr} {len : Nat} {f : Nat → Nat} (h : RowF k w a len f) (hb : Below w.heap.size w w') : RowF k w' a len f := by
  intro i hi
  obtain ⟨b, off, rfl, hlt, hc⟩ := h i hi
  exact ⟨b, off, rfl, Nat.lt_of_lt_of_le hlt hb.size, (hb.cell (p := ⟨b, off + i, none⟩) hlt).trans hc⟩

theorem row_u64 {w : World} {a : Option Addr} {len cap : Nat} {zs : List Int} (h : IsRow .u64 w a len cap zs) : ∃ f : Nat → Nat, RowF .u64 w a len f ∧ (∀ i, f i < 18446744073709551616) ∧ len ≤ 9223372036854775807 := by
  rcases h with ⟨rfl, rfl, rfl, rfl⟩ | ⟨x, rfl, hl, hm, hz, hc, hwf⟩
  · exact ⟨fun _ => 0, fun i hi => absurd hi (Nat.not_lt_zero _), fun _ => by simp, by decide⟩
  · refine ⟨fun i => (zs.getD i 0).toNat, fun i hi => ?_, fun i => ?_, by unfold maxLen at hm; omega⟩
    · have h1 := hc i (by omega)
      have hn : 0 ≤ zs.getD i 0 := by
        rw [List.getD_eq_getElem?_getD, List.getElem?_eq_getElem (by omega)]
        exact (bounds_u64 (hwf _ (List.getElem_mem (by omega)))).1
      obtain ⟨b, off, sp⟩ := x
      cases sp with
      | none =>
        rw [Addr.add_lit] at h1
        exact ⟨b, off, rfl, cell_lt h1, by rw [Int.toNat_of_nonneg hn]; exact h1⟩
      | some s =>
        exfalso
        have hs : ∀ W : World, ∀ y : Addr, y.spot.isSome = true → W.cell? y = none := by
          intro W y hy
          unfold World.cell?
          split
          · rw [if_pos hy]
          · rfl
        have h2 := hc 0 (by omega)
        rw [hs _ _ rfl] at h2
        cases h2
    · show (zs.getD i 0).toNat < _
      by_cases hi : i < zs.length
      · rw [List.getD_eq_getElem?_getD, List.getElem?_eq_getElem hi]
        have := bounds_u64 (hwf _ (List.getElem_mem hi))
        simp only [Option.getD_some]; omega
      · rw [List.getD_eq_getElem?_getD, List.getElem?_eq_none (by omega)]; decide

/-- The different ids among the first k, in the order in which they came. -/
def firsts (f : Nat → Nat) : Nat → List Nat
  | 0 => []
  | k + 1 => if f k ∈ firsts f k then firsts f k else firsts f k ++ [f k]

def Mf (slots : Nat) (D : List Nat) : Md := { slots := slots, L := D.zipIdx, free := [], given := D.length }

theorem firsts_nodup (f : Nat → Nat) (k : Nat) : (firsts f k).Nodup := by
  induction k with
  | zero => simp [firsts]
  | succ k ih =>
    simp only [firsts]
    split
    · exact ih
    · rename_i h
      rw [List.nodup_append]
      exact ⟨ih, by simp, fun a ha b hb e => h (by simp at hb; rw [← hb, ← e]; exact ha)⟩
theorem firsts_len (f : Nat → Nat) (k : Nat) : (firsts f k).length ≤ k := by
  induction k with
  | zero => simp [firsts]
  | succ k ih =>
    simp only [firsts]; split
    · omega
    · simp; omega
theorem firsts_mem (f : Nat → Nat) (k j : Nat) (h : j < k) : f j ∈ firsts f k := by
  induction k with
  | zero => omega
  | succ k ih =>
    simp only [firsts]
    by_cases e : j = k
    · subst e; split
      · assumption
      · simp
    · have := ih (by omega)
      split
      · exact this
      · simp [this]
theorem firsts_of_mem (f : Nat → Nat) (k x : Nat) (h : x ∈ firsts f k) : ∃ j, j < k ∧ f j = x := by
  induction k with
  | zero => simp [firsts] at h
  | succ k ih =>
    simp only [firsts] at h
    split at h
    · obtain ⟨j, hj, e⟩ := ih h; exact ⟨j, by omega, e⟩
    · simp only [List.mem_append, List.mem_singleton] at h
      rcases h with h | h
      · obtain ⟨j, hj, e⟩ := ih h; exact ⟨j, by omega, e⟩
      · exact ⟨k, by omega, h.symm⟩
theorem idxOf_firsts (f : Nat → Nat) (k x : Nat) (h : x ∈ firsts f k) : (firsts f (k + 1)).idxOf x = (firsts f k).idxOf x := by
  simp only [firsts]
  split
  · rfl
  · rw [List.idxOf_append, if_pos h]
theorem idxOf_firsts_le (f : Nat → Nat) (k n x : Nat) (hk : k ≤ n) (h : x ∈ firsts f k) : (firsts f n).idxOf x = (firsts f k).idxOf x ∧ x ∈ firsts f n := by
  induction n with
  | zero => obtain rfl : k = 0 := by omega
            exact ⟨rfl, h⟩
  | succ n ih =>
    by_cases e : k = n + 1
    · subst e; exact ⟨rfl, h⟩
    · obtain ⟨h1, h2⟩ := ih (by omega)
      refine ⟨(idxOf_firsts f n x h2).trans h1, ?_⟩
      simp only [firsts]; split
      · exact h2
      · simp [h2]

theorem Mf_find {slots : Nat} {D : List Nat} (hnd : D.Nodup) (id : Nat) : (Mf slots D).find id = if id ∈ D then some (D.idxOf id) else none := by
  split
  · rename_i h
    apply Md.mem_find
    · simp only [Mf, List.zipIdx_map_fst]; exact hnd
    · simp only [Mf]
      rw [List.mem_zipIdx_iff_getElem?]
      have hl := List.idxOf_lt_length_of_mem h
      rw [List.getElem?_eq_getElem hl, List.getElem_idxOf]
  · rename_i h
    rw [Md.find_none]
    intro i hm
    simp only [Mf, List.mem_zipIdx_iff_getElem?] at hm
    exact h (List.mem_of_getElem? hm)

theorem Mf_put_old {slots : Nat} {D : List Nat} (hnd : D.Nodup) {id : Nat} (h : id ∈ D) : (Mf slots D).put id = ⟨D.idxOf id, false, 0, Mf slots D⟩ := by
  unfold Md.put; rw [Mf_find hnd, if_pos h]
theorem Mf_put_new {slots : Nat} {D : List Nat} (hnd : D.Nodup) {id : Nat} (h : id ∉ D) (hs : D.length < slots) : (Mf slots D).put id = ⟨D.length, true, 0, Mf slots (D ++ [id])⟩ := by
  unfold Md.put; rw [Mf_find hnd, if_neg h]
  have : (Mf slots D).next = some D.length := by simp [Md.next, Mf, hs]
  rw [this]
  simp [Md.add, Mf, List.zipIdx_append]

theorem Mf_put (slots : Nat) (f : Nat → Nat) (k : Nat) (hs : (firsts f k).length < slots) :
    ∃ a, (Mf slots (firsts f k)).put (f k) = ⟨(firsts f (k + 1)).idxOf (f k), a, 0, Mf slots (firsts f (k + 1))⟩ := by
  have hnd := firsts_nodup f k
  by_cases h : f k ∈ firsts f k
  · refine ⟨false, ?_⟩
    rw [Mf_put_old hnd h]; simp only [firsts, if_pos h]
  · refine ⟨true, ?_⟩
    rw [Mf_put_new hnd h hs]; simp only [firsts, if_neg h]
    rw [List.idxOf_append, if_neg h]; simp

set_option maxRecDepth 10000
set_option maxHeartbeats 400000

/-- The indexes that the first k ids got. -/
def atF (f : Nat → Nat) (n : Nat) : Nat → Nat := fun j => (firsts f n).idxOf (f j)

theorem fnRow_succ_cells (m : Nat) (C : Nat → Nat) (x : Nat) (C' : Nat → Nat) (h : ∀ j, j < m → C' j = C j) (hx : C' m = x) : fnRow m (cellF C) ++ [.int .i64 x] = fnRow (m + 1) (cellF C') := by
  simp only [fnRow, List.range_succ, List.map_append, List.map_cons, List.map_nil]
  congr 1
  · apply List.map_congr_left
    intro a ha
    simp at ha
    simp only [cellF]; rw [h a ha]
  · simp [cellF, hx]

theorem filled_w (w : World) (slots len cap : Nat) (a : Option Addr) (f : Nat → Nat) (hR : RowF .u64 w a len f) (hf : ∀ i, f i < 18446744073709551616) (hl : len ≤ slots) (hs : slots ≤ 65536) :
    Calls Try.prog 18 #[.int .i64 slots, .slice a len cap] w fun e w' => ∃ pt l v, e = .returned (.tuple #[ptr pt, v, .bool true]) ∧ TabM w' pt (Mf slots (firsts f len)) l ∧
      w'.ownsRow 0 3 1 v len (fnRow len (cellF (atF f len))) ∧ Next [] (v.ownBlock.toList ++ l) w w' ∧ ∀ b, v.ownBlock = some b → b ∉ l := by
  have HR := Lib.hid hR; clear hR
  have Hf := Lib.hid hf; clear hf
  go_enter Try.func18, Try.ntmps18
  go_wp2_with fail
  refine (tab_new slots w hs).mono ?_
  rintro e w1 ⟨pt, rfl, l1, h1, n1⟩
  go_wp2
  go_loopw [9, 10] (fun v x wr => ∃ (k : Nat) (l : List Nat), k ≤ len ∧ x = .int .i64 k ∧ TabM wr pt (Mf slots (firsts f k)) l ∧ wr.ownsRow 0 3 1 v k (fnRow k (cellF (atF f k))) ∧ Next [] (v.ownBlock.toList ++ l) w wr ∧ ∀ b, v.ownBlock = some b → b ∉ l) (fun _ x _ => len - (intOf x).toNat)
  case atStart => exact ⟨0, l1, Nat.zero_le _, rfl, h1, World.ownsRow_nil _ _ _ _, by simpa [Value.ownBlock] using n1, by simp [Value.ownBlock]⟩
  case round =>
    obtain ⟨k, l, hk, rfl, hT, hown, hN, hdis⟩ := hrel
    have hB : Below w.heap.size w wr := hN.1.below (by simp)
    obtain ⟨a9, c9, rfl⟩ := ownsRow_slice hown
    by_cases hlt : k < len
    · obtain ⟨b, off, rfl, hbl, hc⟩ := HR.out k hlt
      have hcw := (hB.cell (p := ⟨b, off + k, none⟩) hbl).trans hc
      obtain ⟨ad, hput⟩ := Mf_put slots f k (by have := firsts_len f k; omega)
      have HP := Lib.hid hput; clear hput
      go_wp2_with fail
      refine (tab_put_eq (Hf.out k) hT HP.out).mono ?_
      rintro e w2 ⟨rfl, l2, hT2, hN2⟩
      have hBs2 : wr.heap.size ≤ w2.heap.size := hN2.1.size
      have hown2 : w2.ownsRow 0 3 1 (.slice a9 k c9) k (fnRow k (cellF (atF f k))) := ownsRow_same hown (fun q hq => hN2.1.keep q (hown.lt q hq).2 (hdis q hq))
      go_wp2_with (at_builtin; refine wpList_app1 rfl _ _ 38 rfl 3 (.int .i64 0) 8 Try.underlying38 Try.info3 rfl (.slice a9 k c9) k _ rfl (hown2.alloc _) w2.heap.size (.int .i64 ((firsts f (k + 1)).idxOf (f k) : Nat)) rfl (cell_new1 _ _ _ _ rfl) rfl (by omega) (by decide) ?_; intro g' cap' w3 hown3 hgrow3 hg3)
      go_roundw
      case rel =>
        have hsz3 := hgrow3.size
        simp only [World.size_alloc] at hsz3 hg3
        have hv2 : ∀ q, (Value.slice a9 k c9).ownBlock = some q → q < wr.heap.size := fun q hq => (hown.lt q hq).2
        have hl2 : ∀ b ∈ l2, (Value.slice a9 k c9).ownBlock ≠ some b := by
          intro b hb e
          rcases hN2.2 b hb with h | h
          · exact hdis b e h
          · have := hv2 b e; omega
        have hF3 : Fr (Value.slice a9 k c9).ownBlock.toList w2 w3 := ⟨hgrow3.os, hgrow3.tape, hgrow3.output, by omega, fun q hq hn => by
          rw [hgrow3.block q (by simp; omega) (fun e => hn (by simp [← e])), Below.heap_alloc _ _ _ hq]⟩
        refine ⟨k + 1, l2, by omega, by go_num, ?_, ?_, ?_, ?_⟩
        · exact hT2.fr hF3 (fun b hb hm => hl2 b hb (by simpa using hm))
        · have e := fnRow_succ_cells k (atF f k) ((firsts f (k + 1)).idxOf (f k)) (atF f (k + 1)) (fun j hj => idxOf_firsts f k (f j) (firsts_mem f k j hj)) rfl
          rw [e] at hown3
          exact hown3
        · have hx := (hN.1.trans (S' := l) hN2.1 (fun b hb => .inr ((hN.2 b (by simp [hb])).resolve_left (by simp))))
          have hx2 := hx.trans hF3 (fun b hb => .inr ((hN.2 b (by simp only [List.mem_append]; exact .inl hb)).resolve_left (by simp)))
          refine ⟨hx2, fun b hb => .inr ?_⟩
          simp only [Value.ownBlock, Option.toList_some, List.cons_append, List.nil_append, List.mem_cons] at hb
          rcases hb with rfl | hb
          · rcases hg3 with h | h
            · exact (hN.2 b (by simp [h])).resolve_left (by simp)
            · have := hx.size; omega
          · rcases hN2.2 b hb with h | h
            · exact (hN.2 b (by simp [h])).resolve_left (by simp)
            · have := hN.1.size; omega
        · intro b hb
          simp only [Value.ownBlock, Option.some.injEq] at hb
          subst hb
          rcases hg3 with h | h
          · exact fun hm => hl2 _ hm h
          · intro hm; have := hT2.lt _ hm; omega
      case measure => simp [intOf]; omega
    · obtain rfl : k = len := by omega
      go_wp2
      go_ret3
      exact ⟨pt, l, _, rfl, hT, hown, hN, hdis⟩

end Go.Proofs.Ytciacnnelpijeaa

/- InternCopies: the walk. -/
namespace Go.Proofs.Ytciacnnelpijeaa
open Go.RowKit
set_option maxRecDepth 10000
set_option maxHeartbeats 800000

/-- A table whose blocks are all of the call's own. -/
def TabN (W w : World) (pt : Nat) (M : Md) (l : List Nat) : Prop := TabM w pt M l ∧ Fr [] W w ∧ ∀ b ∈ l, W.heap.size ≤ b
theorem TabN.next {W w w' : World} {pt pt' : Nat} {M M' : Md} {l l' : List Nat} (h : TabN W w pt M l) (ht : TabM w' pt' M' l') (hn : Next l l' w w') : TabN W w' pt' M' l' := by
  refine ⟨ht, h.2.1.trans hn.1 (fun b hb => .inr (h.2.2 b hb)), fun b hb => (hn.2 b hb).elim (h.2.2 b) (fun e => ?_)⟩
  have := h.2.1.size; omega
theorem TabN.below {W w : World} {pt : Nat} {M : Md} {l : List Nat} (h : TabN W w pt M l) : Below W.heap.size W w := h.2.1.below (by simp)
theorem TabN.keep {W w w' : World} {pt : Nat} {M : Md} {l : List Nat} (h : TabN W w pt M l) (hf : Fr [] w w') : TabN W w' pt M l := ⟨h.1.fr hf (by simp), h.2.1.trans' hf, h.2.2⟩
/-- A change to other blocks of the call's own. -/
theorem TabN.aside {W w w' : World} {pt : Nat} {M : Md} {l S : List Nat} (h : TabN W w pt M l) (hf : Fr S w w') (hs : ∀ b ∈ S, W.heap.size ≤ b ∧ b ∉ l) : TabN W w' pt M l :=
  ⟨h.1.fr hf (fun b hb hm => (hs b hm).2 hb), h.2.1.trans hf (fun b hb => .inr (hs b hb).1), h.2.2⟩

def delsM (f : Nat → Nat) (M : Md) : Nat → Md
  | 0 => M
  | k + 1 => ((delsM f M k).del (f k)).M

theorem filledN (w : World) (slots len cap : Nat) (a : Option Addr) (f : Nat → Nat) (hR : RowF .u64 w a len f) (hf : ∀ i, f i < 18446744073709551616) (hl : len ≤ slots) (hs : slots ≤ 65536) :
    Calls Try.prog 18 #[.int .i64 slots, .slice a len cap] w fun e w' => ∃ pt l a1 c1, e = .returned (.tuple #[ptr pt, .slice a1 len c1, .bool true]) ∧ TabN w w' pt (Mf slots (firsts f len)) l := by
  refine (filled_w w slots len cap a f hR hf hl hs).mono ?_
  rintro e w' ⟨pt, l, v, rfl, hT, hown, hN, hdis⟩
  obtain ⟨a1, c1, rfl⟩ := ownsRow_slice hown
  exact ⟨pt, l, a1, c1, rfl, hT, hN.1, fun b hb => (hN.2 b (by simp [hb])).resolve_left (by simp)⟩

theorem delN {W w : World} {pt : Nat} {M : Md} {l : List Nat} (h : TabN W w pt M l) (id : Nat) (hid : id < 18446744073709551616) :
    Calls Try.prog 15 #[ptr pt, .int .u64 id] w fun e w' => e = .returned (.int .i64 (M.del id).err) ∧ TabN W w' pt (M.del id).M l ∧ Fr l w w' := by
  refine (tab_del id hid h.1).mono ?_
  rintro e w' ⟨rfl, h1, n1⟩
  exact ⟨rfl, h.next h1 n1, n1.1⟩
theorem putN {W w : World} {pt : Nat} {M : Md} {l : List Nat} (h : TabN W w pt M l) (id : Nat) (hid : id < 18446744073709551616) :
    Calls Try.prog 16 #[ptr pt, .int .u64 id] w fun e w' => e = .returned (.tuple #[.int .i64 (M.put id).idx, .bool (M.put id).added, .int .i64 (M.put id).err]) ∧ ∃ l', TabN W w' pt (M.put id).M l' ∧ Next l l' w w' := by
  refine (tab_put id hid h.1).mono ?_
  rintro e w' ⟨rfl, l', h1, n1⟩
  exact ⟨rfl, l', h.next h1 n1, n1⟩

/-- Two tables whose blocks are apart. -/
structure Two (W w : World) (pt : Nat) (M : Md) (l : List Nat) (pc : Nat) (C : Md) (lc : List Nat) : Prop where
  t : TabN W w pt M l
  c : TabN W w pc C lc
  ap : ∀ b ∈ l, b ∉ lc
section
variable {W w w' : World} {pt pc : Nat} {M M' C C' : Md} {l l' lc lc' : List Nat} (h : Two W w pt M l pc C lc)
include h
theorem Two.keep (hf : Fr [] w w') : Two W w' pt M l pc C lc := ⟨h.t.keep hf, h.c.keep hf, h.ap⟩
theorem Two.nextT (ht : TabN W w' pt M' l') (hn : Next l l' w w') : Two W w' pt M' l' pc C lc := by
  refine ⟨ht, h.c.aside hn.1 (fun b hb => ⟨h.t.2.2 b hb, h.ap b hb⟩), fun b hb hm => ?_⟩
  rcases hn.2 b hb with e | e
  · exact h.ap b e hm
  · have := h.c.1.lt b hm; omega
theorem Two.nextC (hc : TabN W w' pc C' lc') (hn : Next lc lc' w w') : Two W w' pt M l pc C' lc' := by
  refine ⟨h.t.aside hn.1 (fun b hb => ⟨h.c.2.2 b hb, fun hm => h.ap b hm hb⟩), hc, fun b hb hm => ?_⟩
  rcases hn.2 b hm with e | e
  · exact h.ap b hb e
  · have := h.t.1.lt b hb; omega
end

theorem walk_internCopies (W : World) (a0 : Option Addr) (len0 cap0 : Nat) (z0 : List Int) (w0 : IsRow .u64 W a0 len0 cap0 z0) (a1 : Option Addr) (len1 cap1 : Nat) (z1 : List Int) (w1 : IsRow .u64 W a1 len1 cap1 z1)
    (x : Int) (wx : (Lit.int .u64 x).wf = true) (y : Int) (wy : (Lit.int .u64 y).wf = true) :
    Calls Try.prog 10 #[.slice a0 len0 cap0, .slice a1 len1 cap1, .int .u64 x, .int .u64 y] W fun e w' => e = .returned (.bool true) ∧ Below W.heap.size W w' := by
  obtain ⟨x, rfl, hx⟩ := nat_u64 wx
  obtain ⟨y, rfl, hy⟩ := nat_u64 wy
  obtain ⟨f, hR, hf, hl0⟩ := row_u64 w0
  obtain ⟨fg, hRg, hfg, hl1⟩ := row_u64 w1
  clear wx wy w0 w1
  have HR := Lib.hid (And.intro hR hf); clear hR hf
  have HG := Lib.hid (And.intro hRg hfg); clear hRg hfg
  by_cases hb0 : 300 < len0
  · have hd : decide ((300 : Int) < (len0 : Int)) = true := decide_eq_true (by omega)
    clear hb0
    go_enter Try.func10, Try.ntmps10
    go_wp2_with (go_at_call 13; refine (works_w _).mono ?_; rintro e w3 ⟨rfl, hB3⟩)
    go_ret
    exact ⟨rfl, hB3⟩
  have hd0 : decide ((300 : Int) < (len0 : Int)) = false := decide_eq_false (by omega)
  by_cases hb1 : 300 < len1
  · have hd : decide ((300 : Int) < (len1 : Int)) = true := decide_eq_true (by omega)
    clear hb0 hb1
    go_enter Try.func10, Try.ntmps10
    go_wp2_with (go_at_call 13; refine (works_w _).mono ?_; rintro e w3 ⟨rfl, hB3⟩)
    go_ret
    exact ⟨rfl, hB3⟩
  have hd1 : decide ((300 : Int) < (len1 : Int)) = false := decide_eq_false (by omega)
  have hl0' : len0 ≤ 300 := by omega
  have hl1' : len1 ≤ 300 := by omega
  clear hb0 hb1
  go_enter Try.func10, Try.ntmps10
  go_wp2_with fail
  refine (filledN W 303 len0 cap0 a0 f HR.out.1 HR.out.2 (by omega) (by decide)).mono ?_
  rintro e w1 ⟨pt, l, a9, c9, rfl, hT⟩
  have HT := Lib.hid hT; clear hT HR hd0 hd1
  generalize Mf 303 (firsts f len0) = M0 at *
  go_wp2
  go_loopw [12] (fun sy wr => ∃ k : Nat, k ≤ len1 ∧ sy = .int .i64 k ∧ Hid (TabN W wr pt (delsM fg M0 k) l)) (fun sy _ => len1 - (intOf sy).toNat)
  case atStart => exact ⟨0, Nat.zero_le _, rfl, HT⟩
  case round =>
    obtain ⟨k, hk, rfl, HT⟩ := hrel
    by_cases hlt : k < len1
    · obtain ⟨b, off, rfl, hbl, hc⟩ := HG.out.1 k hlt
      have hcw := (HT.out.below.cell (p := ⟨b, off + k, none⟩) hbl).trans hc
      have HD := Lib.hid (delN HT.out (fg k) (HG.out.2 k))
      have hk1 : (k : Int) < len1 := by omega
      have hk0 : (0 : Int) ≤ k := by omega
      have HM : Hid (delsM fg M0 (k + 1) = ((delsM fg M0 k).del (fg k)).M) := Lib.hid rfl
      clear hc
      generalize fg k = z at *
      generalize delsM fg M0 k = M at *
      go_wp2_with fail
      refine HD.out.mono ?_
      rintro e w2 ⟨rfl, hT2, _⟩
      have HT2 := Lib.hid hT2; clear hT2 HD
      go_wp2
      go_roundw
      case rel => exact ⟨k + 1, by omega, by go_num, by rw [HM.out]; exact HT2⟩
      case measure => simp [intOf]; omega
    · obtain rfl : k = len1 := by omega
      generalize delsM fg M0 k = M at *
      have hlen := HT.out.1.ok.len
      have hok := HT.out.1.ok
      have HL := Lib.hid (tab_list HT.out.1)
      go_wp2_with fail
      refine HL.out.mono ?_
      rintro _ w2 ⟨v2, rfl, ho2, hq2, hf2⟩
      have hT2 := HT.out.keep hf2
      have hls : (sortN (M.L.map (·.1))).length = M.L.length := by rw [sortN_len]; simp
      have hhead : (sortN (M.L.map (·.1))).getD 0 0 < 18446744073709551616 := by
        by_cases h0 : 0 < (sortN (M.L.map (·.1))).length
        · rw [List.getD_eq_getElem?_getD, List.getElem?_eq_getElem h0]
          have : (sortN (M.L.map (·.1)))[0]'h0 ∈ M.L.map (·.1) := sortN_mem.1 (List.getElem_mem _)
          obtain ⟨p, hp, e⟩ := List.mem_map.1 this
          show (sortN (M.L.map (·.1)))[0]'h0 < _
          rw [← e]; exact hok.u64 p hp
        · rw [List.getD_eq_getElem?_getD, List.getElem?_eq_none (by omega)]; decide
      obtain ⟨a2, cp2, rfl⟩ := ownsRow_slice ho2
      have hnewv : ∀ q, (Value.slice a2 M.L.length cp2).ownBlock = some q → W.heap.size ≤ q ∧ q ∉ l := fun q hq => by
        have h1 := hq2 q hq
        have h2 := HT.out.2.1.size
        exact ⟨by omega, fun hm => by have := HT.out.1.lt q hm; omega⟩
      have HL2 := Lib.hid ho2
      have HT2 := Lib.hid hT2; clear ho2 hT2 hq2 hf2 HL HT
      have Hhead := Lib.hid hhead; clear hhead
      have Hnv := Lib.hid hnewv; clear hnewv
      have Hok := Lib.hid hok; clear hok
      have HC := Lib.hid (tab_copy HT2.out.1)
      go_wp2_with fail
      refine HC.out.mono ?_
      rintro _ w3 ⟨pc, rfl, lc, hc3, hf3, hlc⟩
      have hs2 := HT2.out.2.1.size
      have hTw : Two W w3 pt M l pc M lc := ⟨HT2.out.keep hf3, ⟨hc3, HT2.out.2.1.trans' hf3, fun b hb => by have := hlc b hb; omega⟩, fun b hb hm => by have := HT2.out.1.lt b hb; have := hlc b hm; omega⟩
      have hvl : ∀ q, (Value.slice a2 M.L.length cp2).ownBlock = some q → q ∉ lc := fun q hq hm => by have := (HL2.out.lt q hq).2; have := hlc q hm; omega
      have HV : Hid (∀ q, (Value.slice a2 M.L.length cp2).ownBlock = some q → W.heap.size ≤ q ∧ q ∉ l ∧ q ∉ lc) := Lib.hid (fun q hq => ⟨(Hnv.out q hq).1, (Hnv.out q hq).2, hvl q hq⟩)
      have HR3 : Hid (w3.ownsRow 0 23 1 (.slice a2 M.L.length cp2) M.L.length (encId (sortN (M.L.map (·.1))))) := Lib.hid (ownsRow_same HL2.out (fun q hq => hf3.keep q (HL2.out.lt q hq).2 (by simp)))
      have HW3 := Lib.hid hTw
      clear hc3 hf3 hlc hTw hvl HC HT2 HL2 Hnv
      generalize hs : sortN (M.L.map (·.1)) = s at *
      have Hs := Lib.hid hs; clear hs
      have Hls := Lib.hid hls; clear hls
      have HLc := Lib.hid (tab_list HW3.out.c.1)
      go_wp2_with fail
      refine HLc.out.mono ?_
      rintro _ w4 ⟨v4, rfl, ho4, hq4, hf4⟩
      rw [Hs.out] at ho4
      obtain ⟨a4, cp4, rfl⟩ := ownsRow_slice ho4
      have ho3 := ownsRow_same HR3.out (fun q hq => hf4.keep q (HR3.out.lt q hq).2 (by simp))
      have HR4 := Lib.hid ho3
      have HW4 := Lib.hid (HW3.out.keep hf4)
      rw [← Hls.out] at ho4 ho3
      have hsm := sameU_w ho4 ho3 (by rw [Hls.out]; exact hlen)
      rw [decide_eq_true rfl, Hls.out] at hsm
      have HSm := Lib.hid hsm; clear hsm ho4 ho3 hf4 hq4 HLc HW3 HR3
      go_wp2_with fail
      refine HSm.out.mono ?_
      rintro _ _ ⟨rfl, k5, rfl⟩
      have HW5 := Lib.hid (HW4.out.keep ((Fr.refl _ _).drewN k5))
      have HR5 : Hid ((w4.drewN k5).ownsRow 0 23 1 (.slice a2 M.L.length cp2) M.L.length (encId s)) := Lib.hid (ownsRow_same HR4.out (fun q hq => rfl))
      clear HSm HW4 HR4
      generalize w4.drewN k5 = w5 at *
      -- c.Put(x)
      have HPc := Lib.hid (putN HW5.out.c x hx)
      go_wp2_with fail
      refine HPc.out.mono ?_
      rintro _ w6 ⟨rfl, lc6, hc6, hn6⟩
      have HW6 := Lib.hid (HW5.out.nextC hc6 hn6)
      have HR6 : Hid (w6.ownsRow 0 23 1 (.slice a2 M.L.length cp2) M.L.length (encId s)) := Lib.hid (ownsRow_same HR5.out (fun q hq => hn6.1.keep q (HR5.out.lt q hq).2 (HV.out q hq).2.2))
      have HV6 : Hid (∀ q, (Value.slice a2 M.L.length cp2).ownBlock = some q → q ∉ lc6 ∧ q ∉ l) := Lib.hid (fun q hq => ⟨fun hm => (hn6.2 q hm).elim (HV.out q hq).2.2 (fun e => by have := (HR5.out.lt q hq).2; omega), (HV.out q hq).2.1⟩)
      clear hc6 hn6 HPc HW5 HR5 HV
      generalize hpx : M.put x = PX at *
      have Hpx := Lib.hid hpx; clear hpx
      -- c.Del(l[0])
      have hcase : (M.L.length = 0) ∨ (0 < M.L.length ∧ ∃ g, a2 = some ⟨g, 0, none⟩ ∧ w6.cell? ⟨g, 0, none⟩ = some (.int .u64 (s.getD 0 0 : Nat))) := by
        by_cases h0 : 0 < M.L.length
        · obtain ⟨g, cap', e, _, hgl, hgc, _⟩ := ownsRow_at HR6.out h0
          simp only [Value.slice.injEq, true_and] at e
          obtain ⟨rfl, rfl⟩ := e
          refine .inr ⟨h0, g, rfl, hgc.trans ?_⟩
          have h1 : 0 < s.length := by rw [Hls.out]; exact h0
          rw [List.getD_eq_getElem?_getD, List.getElem?_eq_getElem h1]
          simp [encId, h1]
        · exact .inl (by omega)
      have HDc := Lib.hid (delN HW6.out.c (s.getD 0 0) Hhead.out)
      have u1 : ((PX.idx : Int) != (PX.idx : Int)) = false := by simp
      have u2 : (PX.added != PX.added) = false := by simp
      have u3 : ((PX.err : Int) != (PX.err : Int)) = false := by simp
      have key : ∃ C7 : Md, True := ⟨PX.M, trivial⟩
      clear key
      generalize hn : M.L.length = n at *
      have Hn := Lib.hid hn; clear hn
      generalize s.getD 0 0 = s0 at *
      have hnl : n ≤ 65536 := by omega
      rcases hcase with h0 | ⟨h0, g2, rfl, hc0⟩
      · have d0 : decide (0 < n) = false := decide_eq_false (by omega)
        have HW7 := HW6
        have HR7 := HR6
        clear HDc HW6 HR6 h0
        have HLt := Lib.hid (tab_list HW7.out.t.1)
        go_wp2_with fail
        refine HLt.out.mono ?_
        rintro _ w8 ⟨v8, rfl, ho8, hq8, hf8⟩
        rw [Hs.out, Hn.out] at ho8
        obtain ⟨a8, cp8, rfl⟩ := ownsRow_slice ho8
        have ho3 := ownsRow_same HR7.out (fun q hq => hf8.keep q (HR7.out.lt q hq).2 (by simp))
        have HW8 := Lib.hid (HW7.out.keep hf8)
        rw [← Hls.out] at ho8 ho3
        have hsm := sameU_w ho8 ho3 (by rw [Hls.out]; exact hnl)
        rw [decide_eq_true rfl, Hls.out] at hsm
        have HSm := Lib.hid hsm; clear hsm ho8 ho3 hf8 hq8 HLt HW7 HR7 HV6
        go_wp2_with fail
        refine HSm.out.mono ?_
        rintro _ _ ⟨rfl, k9, rfl⟩
        have HW9 := Lib.hid (HW8.out.keep ((Fr.refl _ _).drewN k9))
        clear HSm HW8
        generalize w8.drewN k9 = w9 at *
        have hpt := putN HW9.out.t x hx
        rw [Hpx.out] at hpt
        have HPt := Lib.hid hpt; clear hpt
        go_wp2_with fail
        refine HPt.out.mono ?_
        rintro _ w10 ⟨rfl, l10, ht10, hn10⟩
        have HW10 := Lib.hid (HW9.out.nextT ht10 hn10)
        clear HPt HW9 ht10 hn10
        have HLc := Lib.hid (tab_list HW10.out.c.1)
        go_wp2_with fail
        refine HLc.out.mono ?_
        rintro _ w11 ⟨v11, rfl, ho11, hq11, hf11⟩
        have hcl := HW10.out.c.1.ok.len
        have hcs : (sortN (PX.M.L.map (·.1))).length = PX.M.L.length := by rw [sortN_len]; simp
        have HLc2 := Lib.hid (fun (w' : World) (h : TabM w' pc PX.M lc6) => tab_list h)
        have hw10 := HW10.out.c.2.1.size
        have HV11 : Hid (∀ q, v11.ownBlock = some q → q ∉ l10 ∧ q < w11.heap.size) := Lib.hid (fun q hq => ⟨fun hm => by have := hq11 q hq; have := HW10.out.t.1.lt q hm; omega, (ho11.lt q hq).2⟩)
        have HW11 := Lib.hid (HW10.out.keep hf11)
        have HR11 := Lib.hid ho11
        obtain ⟨a11, cp11, rfl⟩ := ownsRow_slice ho11
        clear ho11 hq11 hf11 HLc HW10
        generalize sortN (PX.M.L.map (·.1)) = sc at *
        generalize PX.M.L.length = nc at *
        have Hcs := Lib.hid hcs; clear hcs
        have HPy := Lib.hid (putN HW11.out.t y hy)
        go_wp2_with fail
        refine HPy.out.mono ?_
        rintro _ w12 ⟨rfl, l12, ht12, hn12⟩
        have HW12 := Lib.hid (HW11.out.nextT ht12 hn12)
        have HR12 : Hid (w12.ownsRow 0 23 1 (.slice a11 nc cp11) nc (encId sc)) := Lib.hid (ownsRow_same HR11.out (fun q hq => hn12.1.keep q (HR11.out.lt q hq).2 (HV11.out q hq).1))
        have HV12 : Hid (∀ q, (Value.slice a11 nc cp11).ownBlock = some q → q ∉ l12) := Lib.hid (fun q hq hm => (hn12.2 q hm).elim (HV11.out q hq).1 (fun e => by have := (HV11.out q hq).2; omega))
        clear ht12 hn12 HPy HW11 HR11 HV11
        have HDx := Lib.hid (delN HW12.out.t x hx)
        go_wp2_with fail
        refine HDx.out.mono ?_
        rintro _ w13 ⟨rfl, ht13, hf13⟩
        have HW13 := Lib.hid (HW12.out.nextT ht13 ⟨hf13, fun _ h => .inl h⟩)
        have HR13 : Hid (w13.ownsRow 0 23 1 (.slice a11 nc cp11) nc (encId sc)) := Lib.hid (ownsRow_same HR12.out (fun q hq => hf13.keep q (HR12.out.lt q hq).2 (HV12.out q hq)))
        clear ht13 hf13 HDx HW12 HR12 HV12
        have HLz := Lib.hid (HLc2.out _ HW13.out.c.1)
        go_wp2_with fail
        refine HLz.out.mono ?_
        rintro _ w14 ⟨v14, rfl, ho14, hq14, hf14⟩
        obtain ⟨a14, cp14, rfl⟩ := ownsRow_slice ho14
        have hoz := ownsRow_same HR13.out (fun q hq => hf14.keep q (HR13.out.lt q hq).2 (by simp))
        have HF14 := Lib.hid (HW13.out.c.2.1.trans' hf14)
        rw [← Hcs.out] at ho14 hoz
        have hsm := sameU_w ho14 hoz (by rw [Hcs.out]; exact hcl)
        rw [decide_eq_true rfl, Hcs.out] at hsm
        have HSm := Lib.hid hsm; clear hsm ho14 hoz hf14 hq14 HLz HW13 HR13
        go_wp2_with fail
        refine HSm.out.mono ?_
        rintro _ _ ⟨rfl, k15, rfl⟩
        have HF15 := Lib.hid (HF14.out.drewN k15)
        clear HSm HF14
        go_wp2_with fail
        refine (works_w _).mono ?_
        rintro _ w16 ⟨rfl, hB⟩
        go_wp2
        go_ret
        exact ⟨rfl, (HF15.out.below (by simp)).trans (hB.mono HF15.out.size)⟩
      · have d0 : decide (0 < n) = true := decide_eq_true h0
        have h0i : (0 : Int) < n := by omega
        go_wp2_with fail
        refine HDc.out.mono ?_
        rintro _ w7 ⟨rfl, hc7, hf7⟩
        have HW7 := Lib.hid (HW6.out.nextC hc7 ⟨hf7, fun _ h => .inl h⟩)
        have HR7 : Hid (w7.ownsRow 0 23 1 (.slice (some ⟨g2, 0, none⟩) n cp2) n (encId s)) := Lib.hid (ownsRow_same HR6.out (fun q hq => hf7.keep q (HR6.out.lt q hq).2 (HV6.out q hq).1))
        clear hc7 hf7 HDc HW6 HR6 hc0 h0 h0i
        generalize (PX.M.del s0).M = C7 at *
        have HLt := Lib.hid (tab_list HW7.out.t.1)
        go_wp2_with fail
        refine HLt.out.mono ?_
        rintro _ w8 ⟨v8, rfl, ho8, hq8, hf8⟩
        rw [Hs.out, Hn.out] at ho8
        obtain ⟨a8, cp8, rfl⟩ := ownsRow_slice ho8
        have ho3 := ownsRow_same HR7.out (fun q hq => hf8.keep q (HR7.out.lt q hq).2 (by simp))
        have HW8 := Lib.hid (HW7.out.keep hf8)
        rw [← Hls.out] at ho8 ho3
        have hsm := sameU_w ho8 ho3 (by rw [Hls.out]; exact hnl)
        rw [decide_eq_true rfl, Hls.out] at hsm
        have HSm := Lib.hid hsm; clear hsm ho8 ho3 hf8 hq8 HLt HW7 HR7 HV6
        go_wp2_with fail
        refine HSm.out.mono ?_
        rintro _ _ ⟨rfl, k9, rfl⟩
        have HW9 := Lib.hid (HW8.out.keep ((Fr.refl _ _).drewN k9))
        clear HSm HW8
        generalize w8.drewN k9 = w9 at *
        have hpt := putN HW9.out.t x hx
        rw [Hpx.out] at hpt
        have HPt := Lib.hid hpt; clear hpt
        go_wp2_with fail
        refine HPt.out.mono ?_
        rintro _ w10 ⟨rfl, l10, ht10, hn10⟩
        have HW10 := Lib.hid (HW9.out.nextT ht10 hn10)
        clear HPt HW9 ht10 hn10
        have HLc := Lib.hid (tab_list HW10.out.c.1)
        go_wp2_with fail
        refine HLc.out.mono ?_
        rintro _ w11 ⟨v11, rfl, ho11, hq11, hf11⟩
        have hcl := HW10.out.c.1.ok.len
        have hcs : (sortN (C7.L.map (·.1))).length = C7.L.length := by rw [sortN_len]; simp
        have HLc2 := Lib.hid (fun (w' : World) (h : TabM w' pc C7 lc6) => tab_list h)
        have hw10 := HW10.out.c.2.1.size
        have HV11 : Hid (∀ q, v11.ownBlock = some q → q ∉ l10 ∧ q < w11.heap.size) := Lib.hid (fun q hq => ⟨fun hm => by have := hq11 q hq; have := HW10.out.t.1.lt q hm; omega, (ho11.lt q hq).2⟩)
        have HW11 := Lib.hid (HW10.out.keep hf11)
        have HR11 := Lib.hid ho11
        obtain ⟨a11, cp11, rfl⟩ := ownsRow_slice ho11
        clear ho11 hq11 hf11 HLc HW10
        generalize sortN (C7.L.map (·.1)) = sc at *
        generalize C7.L.length = nc at *
        have Hcs := Lib.hid hcs; clear hcs
        have HPy := Lib.hid (putN HW11.out.t y hy)
        go_wp2_with fail
        refine HPy.out.mono ?_
        rintro _ w12 ⟨rfl, l12, ht12, hn12⟩
        have HW12 := Lib.hid (HW11.out.nextT ht12 hn12)
        have HR12 : Hid (w12.ownsRow 0 23 1 (.slice a11 nc cp11) nc (encId sc)) := Lib.hid (ownsRow_same HR11.out (fun q hq => hn12.1.keep q (HR11.out.lt q hq).2 (HV11.out q hq).1))
        have HV12 : Hid (∀ q, (Value.slice a11 nc cp11).ownBlock = some q → q ∉ l12) := Lib.hid (fun q hq hm => (hn12.2 q hm).elim (HV11.out q hq).1 (fun e => by have := (HV11.out q hq).2; omega))
        clear ht12 hn12 HPy HW11 HR11 HV11
        have HDx := Lib.hid (delN HW12.out.t x hx)
        go_wp2_with fail
        refine HDx.out.mono ?_
        rintro _ w13 ⟨rfl, ht13, hf13⟩
        have HW13 := Lib.hid (HW12.out.nextT ht13 ⟨hf13, fun _ h => .inl h⟩)
        have HR13 : Hid (w13.ownsRow 0 23 1 (.slice a11 nc cp11) nc (encId sc)) := Lib.hid (ownsRow_same HR12.out (fun q hq => hf13.keep q (HR12.out.lt q hq).2 (HV12.out q hq)))
        clear ht13 hf13 HDx HW12 HR12 HV12
        have HLz := Lib.hid (HLc2.out _ HW13.out.c.1)
        go_wp2_with fail
        refine HLz.out.mono ?_
        rintro _ w14 ⟨v14, rfl, ho14, hq14, hf14⟩
        obtain ⟨a14, cp14, rfl⟩ := ownsRow_slice ho14
        have hoz := ownsRow_same HR13.out (fun q hq => hf14.keep q (HR13.out.lt q hq).2 (by simp))
        have HF14 := Lib.hid (HW13.out.c.2.1.trans' hf14)
        rw [← Hcs.out] at ho14 hoz
        have hsm := sameU_w ho14 hoz (by rw [Hcs.out]; exact hcl)
        rw [decide_eq_true rfl, Hcs.out] at hsm
        have HSm := Lib.hid hsm; clear hsm ho14 hoz hf14 hq14 HLz HW13 HR13
        go_wp2_with fail
        refine HSm.out.mono ?_
        rintro _ _ ⟨rfl, k15, rfl⟩
        have HF15 := Lib.hid (HF14.out.drewN k15)
        clear HSm HF14
        go_wp2_with fail
        refine (works_w _).mono ?_
        rintro _ w16 ⟨rfl, hB⟩
        go_wp2
        go_ret
        exact ⟨rfl, (HF15.out.below (by simp)).trans (hB.mono HF15.out.size)⟩
end Go.Proofs.Ytciacnnelpijeaa

namespace Go.Proofs.Ytciacnnelpijeaa.internCopies
open Go.ChangeShapes Go.WideShapes Go.ChangeAt Go.RowKit
set_option linter.unusedVariables false

theorem own : ownKnob Try.prog.godebug = none := by kernel_rfl
theorem laidOut : laidOutB Try.prog = true := by kernel_rfl

set_option maxRecDepth 100000 in
theorem lifted (os : Os) (started : os.Started) (H : Type) (enc : TypeId × Value → H) :
    ReturnsInHanded {} Try.checked os 10 .any (Rows.internCopiesSpec.pre6 enc Try.prog Try.f10 Rows.internCopiesRow.domain false) (Rows.internCopiesSpec.post enc Try.prog Try.f10 false true false false) := by
  refine returnsInHanded_of_change (C := Try.checked) own started (by kernel_rfl) Try.func10
    (ChangeSpec.witness6 (enc := enc) (C := Try.checked) false ⟨#[], #[.slice none 0 0, .slice none 0 0, .int .u64 0, .int .u64 0], []⟩ 8 (by kernel_rfl) (by kernel_rfl) (by kernel_rfl) (by kernel_rfl)) ?_
  intro W base args ds gs before hval0 hW hcnd _
  have hval : ∀ (j : Nat) t v, Try.f10.params[j]? = some t → args[j]? = some v → Value.okWide Try.prog W .any base t v := hval0
  have hW' := hW
  obtain ⟨p, q, hA0, hV, rfl, hfz, hnd⟩ := hW
  have hA : DataW.TrodAll enc Try.prog W 0 (fun _ => true) true Try.f10.params.toList args.toList ds p := hA0
  rw [Try.params10] at hA hval
  obtain ⟨v0, vs0, d0, ds0, p0, q0, hargs, rfl, rfl, h0, r0⟩ := trodAll_cons hA
  obtain ⟨v1, vs1, d1, ds1, p1, q1, rfl, rfl, rfl, h1, r1⟩ := trodAll_cons r0
  obtain ⟨v2, vs2, d2, ds2, p2, q2, rfl, rfl, rfl, h2, r2⟩ := trodAll_cons r1
  obtain ⟨v3, vs3, d3, ds3, p3, q3, rfl, rfl, rfl, h3, r3⟩ := trodAll_cons r2
  obtain ⟨rfl, rfl, rfl⟩ := trodAll_nil r3
  obtain rfl : args = #[v0, v1, v2, v3] := by cases args; simp_all
  obtain ⟨rfl, rfl⟩ := trodVars_none hV
  obtain ⟨a0, len0, cap0, rfl⟩ := okWide_slice Try.underlying37 (hval 0 37 v0 rfl rfl)
  have k0 := h0
  have lt0 : ∀ x ∈ p0, x.block < W.heap.size := by obtain ⟨m, hm⟩ := k0; exact DataW.trod_lt m _ _ _ hm
  obtain ⟨z0, w0⟩ := open_row Try.underlying37 Try.underlying23 (by kernel_rfl) h0
  obtain ⟨a1, len1, cap1, rfl⟩ := okWide_slice Try.underlying37 (hval 1 37 v1 rfl rfl)
  have k1 := h1
  have lt1 : ∀ x ∈ p1, x.block < W.heap.size := by obtain ⟨m, hm⟩ := k1; exact DataW.trod_lt m _ _ _ hm
  obtain ⟨z1, w1⟩ := open_row Try.underlying37 Try.underlying23 (by kernel_rfl) h1
  obtain ⟨a2, rfl, rfl, rfl, w2⟩ := open_int Try.underlying23 (hval 2 23 v2 rfl rfl) h2
  obtain ⟨a3, rfl, rfl, rfl, w3⟩ := open_int Try.underlying23 (hval 3 23 v3 rfl rfl) h3
  clear hA0 hval0
  refine (walk_internCopies W a0 len0 cap0 z0 w0 a1 len1 cap1 z1 w1 a2 w2 a3 w3).mono fun e W' ⟨he, bel⟩ => ?_
  subst he
  exact ⟨_, rfl, _, _, _, [], _, [], hW', trodAll_mk1 (shut_bool Try.underlying4 _), (trodAll_cons_mk (Below.trod laidOut (by kernel_rfl) (of_decide_eq_true (by kernel_rfl)) k0 bel lt0) (trodAll_cons_mk (Below.trod laidOut (by kernel_rfl) (of_decide_eq_true (by kernel_rfl)) k1 bel lt1) (trodAll_cons_mk (shut_int Try.underlying23 w2) (trodAll_cons_mk (shut_int Try.underlying23 w3) trodAll_mk0)))), rfl, bel.frame _, fun h => by cases h⟩

theorem over : Rows.internCopiesRow.holds Try.pinned (OpenSpec.ofChange Rows.internCopiesSpec) :=
  OpenClaim.holds_of_wide 10 Try.f10 rfl rfl rfl rfl rfl rfl rfl ⟨rfl, rfl, rfl, rfl, rfl⟩ rfl rfl rfl rfl rfl (by kernel_rfl) Try.func10 (by kernel_rfl)
    (of_decide_eq_true (by kernel_rfl)) (by unfold Func.isWrapper; first | (rw [if_pos (by decide +kernel)]; kernel_rfl) | (rw [if_neg (by decide +kernel)]; exact ⟨rfl, rfl⟩))
    (fun os started H enc _ => lifted os started H enc)

end Go.Proofs.Ytciacnnelpijeaa.internCopies

namespace Go.Proofs.Ytciacnnelpijeaa
theorem internCopies_holds : Rows.InternCopiesSaid := internCopies.over
#print axioms internCopies_holds
end Go.Proofs.Ytciacnnelpijeaa
