/- The statement 'InternPlays': for every input the call returns true, and each argument reads afterwards as it read before. -/
import Derived.Test.YtciacnnelpijeaaInternPlaysZ11
import Derived.Test.YtciacnnelpijeaaInternPlaysZ1
import Derived.Deep.Slices
import Derived.ChangeSame
/- A table and the document's, or none of both: New, Put, Del, Copy, agree. -/
namespace Go.Proofs.Ytciacnnelpijeaa
open Go.RowKit
set_option maxRecDepth 10000
set_option maxHeartbeats 800000

/-- None of the blocks of the two is n. -/
def PairI (W : World) (n : Nat) (wr : World) (qt qr : Option Addr) : Prop :=
  (qt = none ∧ qr = none ∧ Fr [] W wr) ∨ ∃ pt l pr vL vF M, qt = some ⟨pt, 0, none⟩ ∧ qr = some ⟨pr, 0, none⟩ ∧ BothI W wr pt l pr vL vF M ∧ (∀ b ∈ l, b ≠ n) ∧ ∀ q ∈ rTB pr vL vF, q ≠ n
theorem PairI.fr {W wr : World} {n : Nat} {qt qr : Option Addr} (h : PairI W n wr qt qr) : Fr [] W wr := by
  obtain ⟨rfl, rfl, hf⟩ | ⟨pt, l, pr, vL, vF, M, rfl, rfl, hB, _⟩ := h
  · exact hf
  · exact hB.fr
theorem PairI.keep {W wr w' : World} {n : Nat} {qt qr : Option Addr} (h : PairI W n wr qt qr) (hf : Fr [] wr w') : PairI W n w' qt qr := by
  obtain ⟨rfl, rfl, h2⟩ | ⟨pt, l, pr, vL, vF, M, rfl, rfl, hB, h3⟩ := h
  · exact .inl ⟨rfl, rfl, h2.trans' hf⟩
  · exact .inr ⟨pt, l, pr, vL, vF, M, rfl, rfl, hB.keep hf, h3⟩
theorem PairI.now {W wr : World} {n m : Nat} {qt qr : Option Addr} (h : PairI W n wr qt qr) (hm : wr.heap.size ≤ m) : PairI W m wr qt qr := by
  obtain h | ⟨pt, l, pr, vL, vF, M, h1, h2, hB, h3, h4⟩ := h
  · exact .inl h
  · exact .inr ⟨pt, l, pr, vL, vF, M, h1, h2, hB, fun b hb => by have := hB.tab.lt b hb; omega, fun b hb => by have := hB.ref.lt b hb; omega⟩

/-- Block n is as it was. -/
def Kept (n : Nat) (w w' : World) : Prop := n < w.heap.size → n < w'.heap.size ∧ w'.heap[n]? = w.heap[n]?
theorem Kept.blk {w w' : World} {b : Nat} (h : Kept b w w') {t : TypeId} {l : List Value} (hb : Blk w b t l) : Blk w' b t l := hb.of_same (h hb.lt).2
theorem Kept.refl (n : Nat) (w : World) : Kept n w w := fun h => ⟨h, rfl⟩
theorem Kept.of_fr {n : Nat} {S : List Nat} {w w' : World} (h : Fr S w w') (hs : ∀ q ∈ S, q ≠ n) : Kept n w w' := fun hn => ⟨Nat.lt_of_lt_of_le hn h.size, h.keep n hn (fun hm => hs n hm rfl)⟩

section
variable {W wr w1 w2 : World} {n : Nat} {pt : Nat} {l l' : List Nat} {pr : Nat} {vL vF vL' vF' : Value} {M M' : Md}
/-- Both were changed, the table first. -/
theorem BothI.did (h : BothI W wr pt l pr vL vF M) (ht : TabM w1 pt M' l') (h1 : Next l l' wr w1) (hr : RTab w2 pr vL' vF' M') (h2 : Fr (rTB pr vL vF) w1 w2) (hq : ∀ q ∈ rTB pr vL' vF', q ∈ rTB pr vL vF ∨ w1.heap.size ≤ q) : BothI W w2 pt l' pr vL' vF' M' := by
  have hlt := h.ref.lt
  have hl2 := ht.lt
  have hs1 := h1.1.size
  have hs0 := h.fr.size
  refine ⟨ht.fr h2 (fun b hb hm => ?_), hr, (h.fr.trans h1.1 (fun q hq => .inr (h.newT q hq))).trans h2 (fun q hq => .inr (h.newR q hq).1), fun b hb => ?_, fun q hqq => ?_⟩
  · rcases h1.2 b hb with e | e
    · exact (h.newR b hm).2 e
    · have := hlt b hm; omega
  · rcases h1.2 b hb with e | e
    · exact h.newT b e
    · omega
  · rcases hq q hqq with e | e
    · refine ⟨(h.newR q e).1, fun hm => ?_⟩
      rcases h1.2 q hm with e2 | e2
      · exact (h.newR q e).2 e2
      · have := hlt q e; omega
    · exact ⟨by omega, fun hm => by have := hl2 q hm; omega⟩
end

theorem newI (W : World) (n : Int) : Calls Try.prog 14 #[.int .i64 n] W fun e w1 => ∃ qt c, e = .returned (.tuple #[.pointer qt, .int .i64 (c : Nat)]) ∧
    Calls Try.prog 23 #[.int .i64 n] w1 fun e w2 => ∃ qr, e = .returned (.tuple #[.pointer qr, .int .i64 (c : Nat)]) ∧ PairI W w2.heap.size w2 qt qr ∧ Fr [] W w2 ∧ ((qt = none ∧ qr = none) ∨ ∃ pt pr, qt = some ⟨pt, 0, none⟩ ∧ qr = some ⟨pr, 0, none⟩) := by
  by_cases hbad : n < 0 ∨ 65536 < n
  · refine (table_new_no n W hbad).mono ?_
    rintro _ w1 ⟨rfl, rfl⟩
    refine ⟨none, 2, rfl, (rnew_bad _ n hbad).mono ?_⟩
    rintro _ w2 ⟨rfl, rfl⟩
    exact ⟨none, rfl, .inl ⟨rfl, rfl, Fr.refl _ _⟩, Fr.refl _ _, .inl ⟨rfl, rfl⟩⟩
  · obtain ⟨n, rfl⟩ : ∃ m : Nat, n = m := ⟨n.toNat, by omega⟩
    have hn : n ≤ 65536 := by omega
    refine (tab_new n W hn).mono ?_
    rintro _ w1 ⟨pt, rfl, l, h1, n1⟩
    refine ⟨_, 0, rfl, (rnew_w w1 n hn).mono ?_⟩
    rintro _ w2 ⟨pr, rfl, h2, f2, hp⟩
    have hl := h1.lt
    have hs1 := n1.1.size
    refine ⟨_, rfl, .inr ⟨pt, l, pr, _, _, Md.new n, rfl, rfl, ⟨h1.fr f2 (by simp), h2, n1.1.trans' f2, fun b hb => (n1.2 b hb).resolve_left (by simp), fun q hq => ?_⟩, fun b hb => ?_, fun q hq => ?_⟩, n1.1.trans' f2, .inr ⟨_, _, rfl, rfl⟩⟩
    · simp [rTB, Value.ownBlock] at hq
      subst hq
      exact ⟨by omega, fun hm => by have := hl _ hm; omega⟩
    · have := hl b hb; have := f2.size; omega
    · have := h2.lt q hq; omega

theorem agreeI {W wr : World} {n : Nat} {qt qr : Option Addr} (h : PairI W n wr qt qr) (id : Nat) (hid : id < 18446744073709551616) (i : Int) :
    Calls Try.prog 24 #[.pointer qt, .pointer qr, .int .u64 id, .int .i64 i] wr fun e w' => e = .returned (.bool true) ∧ PairI W n w' qt qr ∧ Kept n wr w' := by
  obtain ⟨rfl, rfl, h2⟩ | ⟨pt, l, pr, vL, vF, M, rfl, rfl, hB, h3⟩ := h
  · refine (nil_agree id i).mono ?_
    rintro _ w' ⟨rfl, hf⟩
    exact ⟨rfl, .inl ⟨rfl, rfl, h2.trans' hf⟩, Kept.of_fr hf (by simp)⟩
  · refine (agree_w hB id hid i).mono ?_
    rintro _ w' ⟨rfl, hf⟩
    exact ⟨rfl, .inr ⟨pt, l, pr, vL, vF, M, rfl, rfl, hB.keep hf, h3⟩, Kept.of_fr hf (by simp)⟩

theorem putI {W wr : World} {n : Nat} {qt qr : Option Addr} (h : PairI W n wr qt qr) (hn : n < wr.heap.size) (id : Nat) (hid : id < 18446744073709551616) :
    Calls Try.prog 16 #[.pointer qt, .int .u64 id] wr fun e w1 => ∃ (i : Nat) (a : Bool) (g : Nat), e = .returned (.tuple #[.int .i64 i, .bool a, .int .i64 g]) ∧ Kept n wr w1 ∧
      Calls Try.prog 28 #[.pointer qr, .int .u64 id] w1 fun e w2 => e = .returned (.tuple #[.int .i64 i, .bool a, .int .i64 g]) ∧ Kept n w1 w2 ∧ PairI W n w2 qt qr := by
  obtain ⟨rfl, rfl, h2⟩ | ⟨pt, l, pr, vL, vF, M, rfl, rfl, hB, h3, h4⟩ := h
  · refine (bad_put _ _ _ (.inl rfl)).mono ?_
    rintro _ w1 ⟨rfl, rfl⟩
    refine ⟨0, false, 1, rfl, Kept.refl _ _, (rnil_put id).mono ?_⟩
    rintro _ w2 ⟨rfl, rfl⟩
    exact ⟨rfl, Kept.refl _ _, .inl ⟨rfl, rfl, h2⟩⟩
  · have hok := hB.tab.ok
    refine (tab_put id hid hB.tab).mono ?_
    rintro _ w1 ⟨rfl, l', h1, n1⟩
    refine ⟨_, _, _, rfl, Kept.of_fr n1.1 h3, (rput_w (hB.ref.fr n1.1 (fun q hq => (hB.newR q hq).2)) hok id).mono ?_⟩
    rintro _ w2 ⟨rfl, vL', vF', hr, hf, hq⟩
    have hB2 := hB.did h1 n1 hr hf hq
    have hs1 := n1.1.size
    exact ⟨rfl, Kept.of_fr hf h4, .inr ⟨pt, l', pr, vL', vF', _, rfl, rfl, hB2, fun b hb => (n1.2 b hb).elim (h3 b) (fun e => by omega), fun q hqq => (hq q hqq).elim (h4 q) (fun e => by omega)⟩⟩

theorem delI {W wr : World} {n : Nat} {qt qr : Option Addr} (h : PairI W n wr qt qr) (hn : n < wr.heap.size) (id : Nat) (hid : id < 18446744073709551616) :
    Calls Try.prog 15 #[.pointer qt, .int .u64 id] wr fun e w1 => ∃ (g : Nat), e = .returned (.int .i64 g) ∧ Kept n wr w1 ∧
      Calls Try.prog 29 #[.pointer qr, .int .u64 id] w1 fun e w2 => e = .returned (.int .i64 g) ∧ Kept n w1 w2 ∧ PairI W n w2 qt qr := by
  obtain ⟨rfl, rfl, h2⟩ | ⟨pt, l, pr, vL, vF, M, rfl, rfl, hB, h3, h4⟩ := h
  · refine (bad_del _ _ _ (.inl rfl)).mono ?_
    rintro _ w1 ⟨rfl, rfl⟩
    refine ⟨1, rfl, Kept.refl _ _, (rnil_del id).mono ?_⟩
    rintro _ w2 ⟨rfl, rfl⟩
    exact ⟨rfl, Kept.refl _ _, .inl ⟨rfl, rfl, h2⟩⟩
  · have hok := hB.tab.ok
    refine (tab_del id hid hB.tab).mono ?_
    rintro _ w1 ⟨rfl, h1, n1⟩
    refine ⟨_, rfl, Kept.of_fr n1.1 h3, (rdel_w (hB.ref.fr n1.1 (fun q hq => (hB.newR q hq).2)) hok id).mono ?_⟩
    rintro _ w2 ⟨rfl, vL', vF', hr, hf, hq⟩
    have hB2 := hB.did h1 n1 hr hf hq
    have hs1 := n1.1.size
    exact ⟨rfl, Kept.of_fr hf h4, .inr ⟨pt, l, pr, vL', vF', _, rfl, rfl, hB2, fun b hb => (n1.2 b hb).elim (h3 b) (fun e => by omega), fun q hqq => (hq q hqq).elim (h4 q) (fun e => by omega)⟩⟩

theorem copyI {W wr : World} {n : Nat} {qt qr : Option Addr} (h : PairI W n wr qt qr) (hn : n < wr.heap.size) :
    Calls Try.prog 26 #[.pointer qt] wr fun e w1 => ∃ qt', e = .returned (.pointer qt') ∧ Kept n wr w1 ∧
      Calls Try.prog 30 #[.pointer qr] w1 fun e w2 => ∃ qr', e = .returned (.pointer qr') ∧ Kept n w1 w2 ∧ PairI W n w2 qt' qr' := by
  obtain ⟨rfl, rfl, h2⟩ | ⟨pt, l, pr, vL, vF, M, rfl, rfl, hB, h3, h4⟩ := h
  · refine (bad_copy _ _ (.inl rfl)).mono ?_
    rintro _ w1 ⟨rfl, rfl⟩
    refine ⟨none, rfl, Kept.refl _ _, rnil_copy.mono ?_⟩
    rintro _ w2 ⟨rfl, rfl⟩
    exact ⟨none, rfl, Kept.refl _ _, .inl ⟨rfl, rfl, h2⟩⟩
  · have hok := hB.tab.ok
    refine (tab_copy hB.tab).mono ?_
    rintro _ w1 ⟨pt', rfl, l', h1, f1, hl1⟩
    refine ⟨_, rfl, Kept.of_fr f1 (by simp), (rcopy_w (hB.ref.fr0 f1) hok).mono ?_⟩
    rintro _ w2 ⟨pr', vL', vF', rfl, hr, f2, hq⟩
    have hs0 := hB.fr.size
    have hs1 := f1.size
    have ht2 := h1.fr f2 (by simp)
    refine ⟨_, rfl, Kept.of_fr f2 (by simp), .inr ⟨pt', l', pr', vL', vF', M, rfl, rfl, ⟨ht2, hr, (hB.fr.trans' f1).trans' f2, fun b hb => by have := hl1 b hb; omega, fun q hqq => ?_⟩, fun b hb => by have := hl1 b hb; omega, fun q hqq => by have := hq q hqq; omega⟩⟩
    have h5 := hq q hqq
    exact ⟨by omega, fun hm => by have := h1.lt q hm; omega⟩
end Go.Proofs.Ytciacnnelpijeaa

/- InternNews: the walk. -/
namespace Go.Proofs.Ytciacnnelpijeaa
open Go.RowKit
set_option maxRecDepth 10000
set_option maxHeartbeats 800000

theorem nat_u64 {a : Int} (h : (Lit.int .u64 a).wf = true) : ∃ m : Nat, a = m ∧ m < 18446744073709551616 := by
  have := bounds_u64 h
  exact ⟨a.toNat, by omega, by omega⟩

theorem walk_internNews (W : World) (n : Int) (_wn : (Lit.int .i64 n).wf = true) (a : Int) (wa : (Lit.int .u64 a).wf = true) (i : Int) (_wi : (Lit.int .i64 i).wf = true) :
    Calls Try.prog 8 #[.int .i64 n, .int .u64 a, .int .i64 i] W fun e w' => e = .returned (.bool true) ∧ Below W.heap.size W w' := by
  obtain ⟨id, rfl, hid⟩ := nat_u64 wa
  clear _wn _wi wa
  have HN := Lib.hid (newI W n)
  have HA := Lib.hid (fun (w2 : World) (qt qr : Option Addr) (h : PairI W w2.heap.size w2 qt qr) => agreeI h id hid i)
  clear hid
  go_enter Try.func8, Try.ntmps8
  go_wp2_with fail
  refine HN.out.mono ?_
  rintro _ w1 ⟨qt, c, rfl, hN2⟩
  have HN2 := Lib.hid hN2; clear hN2 HN
  go_wp2_with fail
  refine HN2.out.mono ?_
  rintro _ w2 ⟨qr, rfl, hP, hF, hq⟩
  have HP := Lib.hid hP; clear hP HN2
  have HF := Lib.hid hF; clear hF
  have t1 : ((c : Int) != (c : Int)) = false := by simp
  rcases hq with ⟨rfl, rfl⟩ | ⟨pt, pr, rfl, rfl⟩
  all_goals
    have HA2 := Lib.hid (HA.out _ _ _ HP.out)
    clear HA
    go_wp2_with fail
    refine HA2.out.mono ?_
    rintro _ w3 ⟨rfl, hP3, _⟩
    have HF3 := Lib.hid hP3.fr; clear hP3
    go_wp2_with fail
    refine (works_w _).mono ?_
    rintro _ w4 ⟨rfl, hB⟩
    go_wp2
    go_ret
    exact ⟨rfl, (HF3.out.below (by simp)).trans (hB.mono HF3.out.size)⟩
end Go.Proofs.Ytciacnnelpijeaa

/- 'filled': a table into which ids were put; the indexes that they got. -/
namespace Go.Proofs.Ytciacnnelpijeaa
open Go.RowKit

/-- A slice of len integers that came in reads f. -/
def RowF (k : IntKind) (w : World) (a : Option Addr) (len : Nat) (f : Nat → Nat) : Prop :=
  ∀ i, i < len → ∃ b off, a = some ⟨b, off, none⟩ ∧ b < w.heap.size ∧ w.cell? ⟨b, off + i, none⟩ = some (.int k (f i))

theorem RowF.below {k : IntKind} {w w' : World} {a : Option Addr} {len : Nat} {f : Nat → Nat} (h : RowF k w a len f) (hb : Below w.heap.size w w') : RowF k w' a len f := by
  intro i hi
  obtain ⟨b, off, rfl, hlt, hc⟩ := h i hi
  exact ⟨b, off, rfl, Nat.lt_of_lt_of_le hlt hb.size, (hb.cell (p := ⟨b, off + i, none⟩) hlt).trans hc⟩

theorem row_u64 {w : World} {a : Option Addr} {len cap : Nat} {zs : List Int} (h : IsRow .u64 w a len cap zs) : ∃ f : Nat → Nat, RowF .u64 w a len f ∧ (∀ i, f i < 18446744073709551616) ∧ len ≤ 9223372036854775807 := by
  rcases h with ⟨rfl, rfl, rfl, rfl⟩ | ⟨x, rfl, hl, hm, hz, hc, hwf⟩
  · exact ⟨fun _ => 0, fun i hi => absurd hi (Nat.not_lt_zero _), fun _ => by simp, by decide⟩
  · refine ⟨fun i => (zs.getD i 0).toNat, fun i hi => ?_, fun i => ?_, by unfold maxLen at hm; omega⟩
    · have h1 := hc i (by omega)
      have hn : 0 ≤ zs.getD i 0 := by
        rw [List.getD_eq_getElem?_getD, List.getElem?_eq_getElem (by omega)]
        exact (bounds_u64 (hwf _ (List.getElem_mem (by omega)))).1
      obtain ⟨b, off, sp⟩ := x
      cases sp with
      | none =>
        rw [Addr.add_lit] at h1
        exact ⟨b, off, rfl, cell_lt h1, by rw [Int.toNat_of_nonneg hn]; exact h1⟩
      | some s =>
        exfalso
        have hs : ∀ W : World, ∀ y : Addr, y.spot.isSome = true → W.cell? y = none := by
          intro W y hy
          unfold World.cell?
          split
          · rw [if_pos hy]
          · rfl
        have h2 := hc 0 (by omega)
        rw [hs _ _ rfl] at h2
        cases h2
    · show (zs.getD i 0).toNat < _
      by_cases hi : i < zs.length
      · rw [List.getD_eq_getElem?_getD, List.getElem?_eq_getElem hi]
        have := bounds_u64 (hwf _ (List.getElem_mem hi))
        simp only [Option.getD_some]; omega
      · rw [List.getD_eq_getElem?_getD, List.getElem?_eq_none (by omega)]; decide

/-- The different ids among the first k, in the order in which they came. -/
def firsts (f : Nat → Nat) : Nat → List Nat
  | 0 => []
  | k + 1 => if f k ∈ firsts f k then firsts f k else firsts f k ++ [f k]

def Mf (slots : Nat) (D : List Nat) : Md := { slots := slots, L := D.zipIdx, free := [], given := D.length }

theorem firsts_nodup (f : Nat → Nat) (k : Nat) : (firsts f k).Nodup := by
  induction k with
  | zero => simp [firsts]
  | succ k ih =>
    simp only [firsts]
    split
    · exact ih
    · rename_i h
      rw [List.nodup_append]
      exact ⟨ih, by simp, fun a ha b hb e => h (by simp at hb; rw [← hb, ← e]; exact ha)⟩
theorem firsts_len (f : Nat → Nat) (k : Nat) : (firsts f k).length ≤ k := by
  induction k with
  | zero => simp [firsts]
  | succ k ih =>
    simp only [firsts]; split
    · omega
    · simp; omega
theorem firsts_mem (f : Nat → Nat) (k j : Nat) (h : j < k) : f j ∈ firsts f k := by
  induction k with
  | zero => omega
  | succ k ih =>
    simp only [firsts]
    by_cases e : j = k
    · subst e; split
      · assumption
      · simp
    · have := ih (by omega)
      split
      · exact this
      · simp [this]
theorem firsts_of_mem (f : Nat → Nat) (k x : Nat) (h : x ∈ firsts f k) : ∃ j, j < k ∧ f j = x := by
  induction k with
  | zero => simp [firsts] at h
  | succ k ih =>
    simp only [firsts] at h
    split at h
    · obtain ⟨j, hj, e⟩ := ih h; exact ⟨j, by omega, e⟩
    · simp only [List.mem_append, List.mem_singleton] at h
      rcases h with h | h
      · obtain ⟨j, hj, e⟩ := ih h; exact ⟨j, by omega, e⟩
      · exact ⟨k, by omega, h.symm⟩
theorem idxOf_firsts (f : Nat → Nat) (k x : Nat) (h : x ∈ firsts f k) : (firsts f (k + 1)).idxOf x = (firsts f k).idxOf x := by
  simp only [firsts]
  split
  · rfl
  · rw [List.idxOf_append, if_pos h]
theorem idxOf_firsts_le (f : Nat → Nat) (k n x : Nat) (hk : k ≤ n) (h : x ∈ firsts f k) : (firsts f n).idxOf x = (firsts f k).idxOf x ∧ x ∈ firsts f n := by
  induction n with
  | zero => obtain rfl : k = 0 := by omega
            exact ⟨rfl, h⟩
  | succ n ih =>
    by_cases e : k = n + 1
    · subst e; exact ⟨rfl, h⟩
    · obtain ⟨h1, h2⟩ := ih (by omega)
      refine ⟨(idxOf_firsts f n x h2).trans h1, ?_⟩
      simp only [firsts]; split
      · exact h2
      · simp [h2]

theorem Mf_find {slots : Nat} {D : List Nat} (hnd : D.Nodup) (id : Nat) : (Mf slots D).find id = if id ∈ D then some (D.idxOf id) else none := by
  split
  · rename_i h
    apply Md.mem_find
    · simp only [Mf, List.zipIdx_map_fst]; exact hnd
    · simp only [Mf]
      rw [List.mem_zipIdx_iff_getElem?]
      have hl := List.idxOf_lt_length_of_mem h
      rw [List.getElem?_eq_getElem hl, List.getElem_idxOf]
  · rename_i h
    rw [Md.find_none]
    intro i hm
    simp only [Mf, List.mem_zipIdx_iff_getElem?] at hm
    exact h (List.mem_of_getElem? hm)

theorem Mf_put_old {slots : Nat} {D : List Nat} (hnd : D.Nodup) {id : Nat} (h : id ∈ D) : (Mf slots D).put id = ⟨D.idxOf id, false, 0, Mf slots D⟩ := by
  unfold Md.put; rw [Mf_find hnd, if_pos h]
theorem Mf_put_new {slots : Nat} {D : List Nat} (hnd : D.Nodup) {id : Nat} (h : id ∉ D) (hs : D.length < slots) : (Mf slots D).put id = ⟨D.length, true, 0, Mf slots (D ++ [id])⟩ := by
  unfold Md.put; rw [Mf_find hnd, if_neg h]
  have : (Mf slots D).next = some D.length := by simp [Md.next, Mf, hs]
  rw [this]
  simp [Md.add, Mf, List.zipIdx_append]

theorem Mf_put (slots : Nat) (f : Nat → Nat) (k : Nat) (hs : (firsts f k).length < slots) :
    ∃ a, (Mf slots (firsts f k)).put (f k) = ⟨(firsts f (k + 1)).idxOf (f k), a, 0, Mf slots (firsts f (k + 1))⟩ := by
  have hnd := firsts_nodup f k
  by_cases h : f k ∈ firsts f k
  · refine ⟨false, ?_⟩
    rw [Mf_put_old hnd h]; simp only [firsts, if_pos h]
  · refine ⟨true, ?_⟩
    rw [Mf_put_new hnd h hs]; simp only [firsts, if_neg h]
    rw [List.idxOf_append, if_neg h]; simp

set_option maxRecDepth 10000
set_option maxHeartbeats 400000

/-- The indexes that the first k ids got. -/
def atF (f : Nat → Nat) (n : Nat) : Nat → Nat := fun j => (firsts f n).idxOf (f j)

theorem fnRow_succ_cells (m : Nat) (C : Nat → Nat) (x : Nat) (C' : Nat → Nat) (h : ∀ j, j < m → C' j = C j) (hx : C' m = x) : fnRow m (cellF C) ++ [.int .i64 x] = fnRow (m + 1) (cellF C') := by
  simp only [fnRow, List.range_succ, List.map_append, List.map_cons, List.map_nil]
  congr 1
  · apply List.map_congr_left
    intro a ha
    simp at ha
    simp only [cellF]; rw [h a ha]
  · simp [cellF, hx]

theorem filled_w (w : World) (slots len cap : Nat) (a : Option Addr) (f : Nat → Nat) (hR : RowF .u64 w a len f) (hf : ∀ i, f i < 18446744073709551616) (hl : len ≤ slots) (hs : slots ≤ 65536) :
    Calls Try.prog 18 #[.int .i64 slots, .slice a len cap] w fun e w' => ∃ pt l v, e = .returned (.tuple #[ptr pt, v, .bool true]) ∧ TabM w' pt (Mf slots (firsts f len)) l ∧
      w'.ownsRow 0 3 1 v len (fnRow len (cellF (atF f len))) ∧ Next [] (v.ownBlock.toList ++ l) w w' ∧ ∀ b, v.ownBlock = some b → b ∉ l := by
  have HR := Lib.hid hR; clear hR
  have Hf := Lib.hid hf; clear hf
  go_enter Try.func18, Try.ntmps18
  go_wp2_with fail
  refine (tab_new slots w hs).mono ?_
  rintro e w1 ⟨pt, rfl, l1, h1, n1⟩
  go_wp2
  go_loopw [9, 10] (fun v x wr => ∃ (k : Nat) (l : List Nat), k ≤ len ∧ x = .int .i64 k ∧ TabM wr pt (Mf slots (firsts f k)) l ∧ wr.ownsRow 0 3 1 v k (fnRow k (cellF (atF f k))) ∧ Next [] (v.ownBlock.toList ++ l) w wr ∧ ∀ b, v.ownBlock = some b → b ∉ l) (fun _ x _ => len - (intOf x).toNat)
  case atStart => exact ⟨0, l1, Nat.zero_le _, rfl, h1, World.ownsRow_nil _ _ _ _, by simpa [Value.ownBlock] using n1, by simp [Value.ownBlock]⟩
  case round =>
    obtain ⟨k, l, hk, rfl, hT, hown, hN, hdis⟩ := hrel
    have hB : Below w.heap.size w wr := hN.1.below (by simp)
    obtain ⟨a9, c9, rfl⟩ := ownsRow_slice hown
    by_cases hlt : k < len
    · obtain ⟨b, off, rfl, hbl, hc⟩ := HR.out k hlt
      have hcw := (hB.cell (p := ⟨b, off + k, none⟩) hbl).trans hc
      obtain ⟨ad, hput⟩ := Mf_put slots f k (by have := firsts_len f k; omega)
      have HP := Lib.hid hput; clear hput
      go_wp2_with fail
      refine (tab_put_eq (Hf.out k) hT HP.out).mono ?_
      rintro e w2 ⟨rfl, l2, hT2, hN2⟩
      have hBs2 : wr.heap.size ≤ w2.heap.size := hN2.1.size
      have hown2 : w2.ownsRow 0 3 1 (.slice a9 k c9) k (fnRow k (cellF (atF f k))) := ownsRow_same hown (fun q hq => hN2.1.keep q (hown.lt q hq).2 (hdis q hq))
      go_wp2_with (at_builtin; refine wpList_app1 rfl _ _ 38 rfl 3 (.int .i64 0) 8 Try.underlying38 Try.info3 rfl (.slice a9 k c9) k _ rfl (hown2.alloc _) w2.heap.size (.int .i64 ((firsts f (k + 1)).idxOf (f k) : Nat)) rfl (cell_new1 _ _ _ _ rfl) rfl (by omega) (by decide) ?_; intro g' cap' w3 hown3 hgrow3 hg3)
      go_roundw
      case rel =>
        have hsz3 := hgrow3.size
        simp only [World.size_alloc] at hsz3 hg3
        have hv2 : ∀ q, (Value.slice a9 k c9).ownBlock = some q → q < wr.heap.size := fun q hq => (hown.lt q hq).2
        have hl2 : ∀ b ∈ l2, (Value.slice a9 k c9).ownBlock ≠ some b := by
          intro b hb e
          rcases hN2.2 b hb with h | h
          · exact hdis b e h
          · have := hv2 b e; omega
        have hF3 : Fr (Value.slice a9 k c9).ownBlock.toList w2 w3 := ⟨hgrow3.os, hgrow3.tape, hgrow3.output, by omega, fun q hq hn => by
          rw [hgrow3.block q (by simp; omega) (fun e => hn (by simp [← e])), Below.heap_alloc _ _ _ hq]⟩
        refine ⟨k + 1, l2, by omega, by go_num, ?_, ?_, ?_, ?_⟩
        · exact hT2.fr hF3 (fun b hb hm => hl2 b hb (by simpa using hm))
        · have e := fnRow_succ_cells k (atF f k) ((firsts f (k + 1)).idxOf (f k)) (atF f (k + 1)) (fun j hj => idxOf_firsts f k (f j) (firsts_mem f k j hj)) rfl
          rw [e] at hown3
          exact hown3
        · have hx := (hN.1.trans (S' := l) hN2.1 (fun b hb => .inr ((hN.2 b (by simp [hb])).resolve_left (by simp))))
          have hx2 := hx.trans hF3 (fun b hb => .inr ((hN.2 b (by simp only [List.mem_append]; exact .inl hb)).resolve_left (by simp)))
          refine ⟨hx2, fun b hb => .inr ?_⟩
          simp only [Value.ownBlock, Option.toList_some, List.cons_append, List.nil_append, List.mem_cons] at hb
          rcases hb with rfl | hb
          · rcases hg3 with h | h
            · exact (hN.2 b (by simp [h])).resolve_left (by simp)
            · have := hx.size; omega
          · rcases hN2.2 b hb with h | h
            · exact (hN.2 b (by simp [h])).resolve_left (by simp)
            · have := hN.1.size; omega
        · intro b hb
          simp only [Value.ownBlock, Option.some.injEq] at hb
          subst hb
          rcases hg3 with h | h
          · exact fun hm => hl2 _ hm h
          · intro hm; have := hT2.lt _ hm; omega
      case measure => simp [intOf]; omega
    · obtain rfl : k = len := by omega
      go_wp2
      go_ret3
      exact ⟨pt, l, _, rfl, hT, hown, hN, hdis⟩

end Go.Proofs.Ytciacnnelpijeaa

/- How a slice of steps (a number, an id) reads. -/
namespace Go.Proofs.Ytciacnnelpijeaa
open Go.ChangeShapes Go.WideShapes Go.ChangeAt Go.RowKit Go.Deep

/-- A slice of len steps reads D and I. -/
def StepsF (w : World) (a : Option Addr) (len : Nat) (z : (Nat → Int) × (Nat → Nat)) : Prop :=
  len ≤ 9223372036854775807 ∧ (∀ i, i < len → z.2 i < 18446744073709551616) ∧
  ∀ i, i < len → ∃ b off, a = some ⟨b, off, none⟩ ∧ b < w.heap.size ∧ w.cell? ⟨b, off + i * 2, none⟩ = some (.int .i64 (z.1 i)) ∧ w.cell? ⟨b, off + i * 2 + 1, none⟩ = some (.int .u64 (z.2 i))

theorem StepsF.below {w w' : World} {a : Option Addr} {len : Nat} {z : (Nat → Int) × (Nat → Nat)} (h : StepsF w a len z) (hb : Below w.heap.size w w') : StepsF w' a len z := by
  refine ⟨h.1, h.2.1, fun i hi => ?_⟩
  obtain ⟨b, off, rfl, hlt, h1, h2⟩ := h.2.2 i hi
  exact ⟨b, off, rfl, Nat.lt_of_lt_of_le hlt hb.size, (hb.cell (p := ⟨b, off + i * 2, none⟩) hlt).trans h1, (hb.cell (p := ⟨b, off + i * 2 + 1, none⟩) hlt).trans h2⟩

theorem cell_no_spot {W : World} {y : Addr} {v : Value} (h : W.cell? y = some v) : y.spot = none := by
  unfold World.cell? at h
  split at h
  · by_cases hs : y.spot.isSome = true
    · rw [if_pos hs] at h; cases h
    · cases hy : y.spot with
      | none => rfl
      | some s => rw [hy] at hs; exact absurd rfl hs
  · cases h

theorem stepFields : ∃ f0 f1 : Field, Try.prog.underlying 30 = some (.struct #[f0, f1]) ∧ f0.type = 3 ∧ f0.offset = 0 ∧ f1.type = 23 ∧ f1.offset = 1 :=
  ⟨_, _, Try.underlying30, rfl, rfl, rfl, rfl⟩

theorem open_steps {H : Type} {enc : TypeId × Value → H} {W : World} {a : Option Addr} {len cap : Nat} {d : DataW H} {p : List MemPlace}
    (h : DataW.Trod enc Try.prog W 0 (fun _ => true) true 22 (.slice a len cap) d p) : ∃ z, StepsF W a len z := by
  obtain ⟨fuel, hf⟩ := h
  have c3 : Try.prog.cellsOf 3 = 1 := by kernel_rfl
  have c23 : Try.prog.cellsOf 23 = 1 := by kernel_rfl
  have c30 : Try.prog.cellsOf 30 = 2 := by kernel_rfl
  rcases open_slice Try.underlying22 hf with ⟨hcs, _⟩ | ⟨x, l, c, m, n, D, Pl, hcs, _, hl, hm, hmm, _, hel⟩
  · simp [Value.cells] at hcs
    obtain ⟨rfl, rfl, rfl⟩ := hcs
    exact ⟨(fun _ => 0, fun _ => 0), by omega, fun i hi => absurd hi (Nat.not_lt_zero _), fun i hi => absurd hi (Nat.not_lt_zero _)⟩
  · simp [Value.cells] at hcs
    obtain ⟨rfl, rfl, rfl⟩ := hcs
    have hml : len ≤ m := by rw [hmm]; simpa using hl
    have key : ∀ i, i < len → ∃ (u : Int) (y : Nat), y < 18446744073709551616 ∧ W.cell? (x.add (i * 2)) = some (.int .i64 u) ∧ W.cell? ((x.add (i * 2)).add 1) = some (.int .u64 y) := by
      intro i hi
      obtain ⟨cs', hc, ht⟩ := hel i (by omega)
      rw [c30] at hc
      obtain ⟨f0, f1, hu, t0, o0, t1, o1⟩ := stepFields
      obtain ⟨y0, y1, n', _, hlen, h0, h1⟩ := trod_struct2 hu ht
      obtain ⟨_, _, hat⟩ := World.cells?_some hc
      rw [t0, o0, c3] at h0
      rw [t1, o1, c23] at h1
      rw [c30] at hlen
      obtain ⟨n0, e0, _, _⟩ := DataW.trod_int Try.underlying3 h0
      obtain ⟨n1, e1, _, wf1⟩ := DataW.trod_int Try.underlying23 h1
      have b1 := bounds_u64 wf1
      have g0 := hat 0 (by decide)
      have g1 := hat 1 (by decide)
      have q0 : cs'[0]? = some (.int .i64 n0) := by
        have := congrArg (fun l => l[0]?) e0; simpa using this
      have q1 : cs'[1]? = some (.int .u64 n1) := by
        have := congrArg (fun l => l[0]?) e1; simpa using this
      have z0 : ∀ y : Addr, y.add 0 = y := fun y => by simp [Addr.add]
      rw [z0] at g0
      refine ⟨n0, n1.toNat, by omega, g0.trans q0, ?_⟩
      rw [Int.toNat_of_nonneg b1.1]; exact g1.trans q1
    have key2 : ∀ i, ∃ u : Int × Nat, i < len → u.2 < 18446744073709551616 ∧ W.cell? (x.add (i * 2)) = some (.int .i64 u.1) ∧ W.cell? ((x.add (i * 2)).add 1) = some (.int .u64 u.2) := by
      intro i
      by_cases hi : i < len
      · obtain ⟨u, y, h⟩ := key i hi
        exact ⟨(u, y), fun _ => h⟩
      · exact ⟨(0, 0), fun h => absurd h hi⟩
    obtain ⟨F, hF⟩ := Classical.axiomOfChoice key2
    refine ⟨(fun i => (F i).1, fun i => (F i).2), by unfold maxLen at hm; omega, fun i hi => (hF i hi).1, fun i hi => ?_⟩
    obtain ⟨_, h1, h2⟩ := hF i hi
    have hsp := cell_no_spot (hF 0 (by omega)).2.1
    have z0 : ∀ y : Addr, y.add (0 * 2) = y := fun y => by simp [Addr.add]
    rw [z0] at hsp
    obtain ⟨b, off, sp⟩ := x
    simp only at hsp
    subst hsp
    rw [Addr.add_lit] at h1
    rw [Addr.add_lit, Addr.add_lit] at h2
    exact ⟨b, off, rfl, cell_lt h1, h1, h2⟩

end Go.Proofs.Ytciacnnelpijeaa

/- InternPlays: the walk. -/
namespace Go.Proofs.Ytciacnnelpijeaa
open Go.RowKit
set_option maxRecDepth 10000
set_option maxHeartbeats 800000

theorem walk_internPlays (W : World) (n : Int) (_wn : (Lit.int .i64 n).wf = true) (a : Option Addr) (len cap : Nat) (z : (Nat → Int) × (Nat → Nat)) (hz : StepsF W a len z) (i : Int) (_wi : (Lit.int .i64 i).wf = true) :
    Calls Try.prog 11 #[.int .i64 n, .slice a len cap, .int .i64 i] W fun e w' => e = .returned (.bool true) ∧ Below W.heap.size W w' := by
  clear _wn _wi
  have hl63 := hz.1
  have HZ := Lib.hid hz; clear hz
  have HN := Lib.hid (newI W n)
  by_cases hlen : 200 < len
  · have t2 : decide ((len : Int) > 200) = true := decide_eq_true (by omega)
    clear hlen
    go_enter Try.func11, Try.ntmps11
    go_wp2_with fail
    refine HN.out.mono ?_
    rintro _ w1 ⟨qt, c, rfl, hN2⟩
    have HN2 := Lib.hid hN2; clear hN2 HN
    go_wp2_with fail
    refine HN2.out.mono ?_
    rintro _ w2 ⟨qr, rfl, hP, hF, hq⟩
    clear hP HN2
    have HF := Lib.hid hF; clear hF
    have t1 : ((c : Int) != (c : Int)) = false := by simp
    have t3 : ((c : Int) == (c : Int)) = true := by simp
    rcases hq with ⟨rfl, rfl⟩ | ⟨pt, pr, rfl, rfl⟩
    all_goals
      go_wp2_with fail
      refine (works_w _).mono ?_
      rintro _ w4 ⟨rfl, hB⟩
      go_wp2
      go_ret
      exact ⟨rfl, (HF.out.below (by simp)).trans (hB.mono HF.out.size)⟩
  · have t2 : decide ((len : Int) > 200) = false := decide_eq_false (by omega)
    have hl2 : len ≤ 200 := by omega
    clear hlen
    go_enter Try.func11, Try.ntmps11
    go_wp2_with fail
    refine HN.out.mono ?_
    rintro _ w1 ⟨qt, c, rfl, hN2⟩
    have HN2 := Lib.hid hN2; clear hN2 HN
    go_wp2_with fail
    refine HN2.out.mono ?_
    rintro _ w2 ⟨qr, rfl, hP, hF, hq⟩
    have HP := Lib.hid hP; clear hP HN2 hF
    have t1 : ((c : Int) != (c : Int)) = false := by simp
    rcases hq with ⟨rfl, rfl⟩ | ⟨pt, pr, rfl, rfl⟩
    all_goals
      go_wp2
      clear t1 t2
      go_loopw [7, 9, 11] (fun vt vr y wr => ∃ (k : Nat) (qt qr : Option Addr), k ≤ len ∧ y = .int .i64 k ∧ vt = .pointer qt ∧ vr = .pointer qr ∧ Hid (PairI W wr.heap.size wr qt qr)) (fun _ _ y _ => len - (intOf y).toNat)
      case atStart => exact ⟨0, _, _, Nat.zero_le _, rfl, rfl, rfl, HP⟩
      case round =>
        clear HP
        obtain ⟨k, qt, qr, hk, rfl, rfl, rfl, HP⟩ := hrel
        have hF := HP.out.fr
        by_cases hlt : k < len
        · obtain ⟨b, off, rfl, hb, x0, x1⟩ := (HZ.out.below (hF.below (by simp))).2.2 k hlt
          have hid := HZ.out.2.1 k hlt
          have hkl : (k : Int) < len := by omega
          have hk0 : (0 : Int) ≤ k := by omega
          generalize z.1 k = d at *
          generalize z.2 k = id at *
          clear hF
          have hbx := Blk.new wr [.int .i64 d, .int .u64 id] 30
          have HX := Lib.hid hbx; clear hbx
          have HP0 := Lib.hid (HP.out.keep ((Fr.refl [] wr).alloc (.cells #[.int .i64 d, .int .u64 id] 30)))
          have hsz0 : (wr.alloc (.cells #[.int .i64 d, .int .u64 id] 30)).heap.size = wr.heap.size + 1 := by simp
          have HAg := Lib.hid (fun (w2 : World) (qt qr : Option Addr) (h : PairI W wr.heap.size w2 qt qr) (j : Int) => agreeI h id hid j)
          have HPut := Lib.hid (putI HP0.out (by simp) id hid)
          have HDel := Lib.hid (delI (HP0.out.keep ((Fr.refl _ _).drew)) (by simp) id hid)
          have HCpy := Lib.hid (copyI HP0.out (by simp))
          clear hid HP
          by_cases d0 : d = 0
          · subst d0
            clear HDel HCpy HP0
            go_wp2_with fail
            refine HPut.out.mono ?_
            rintro _ w3 ⟨ix, ad, g, rfl, hk3, hp3⟩
            have hx3 := hk3.blk HX.out
            have HX3 := Lib.hid hx3
            have c1 := hx3.cell 1
            simp only [List.getElem?_cons_zero, List.getElem?_cons_succ] at c1
            have Hp3 := Lib.hid hp3; clear hp3 hk3 hx3 HPut
            go_wp2_with fail
            refine Hp3.out.mono ?_
            rintro _ w4 ⟨rfl, hk4, hp4⟩
            have u1 : ((ix : Int) != (ix : Int)) = false := by simp
            have u2 : (ad != ad) = false := by simp
            have u3 : ((g : Int) != (g : Int)) = false := by simp
            have hx4 := hk4.blk HX3.out
            have HP4 := Lib.hid hp4; clear hp4 hk4 Hp3 HX3 c1
            have c1 := hx4.cell 1
            simp only [List.getElem?_cons_zero, List.getElem?_cons_succ] at c1
            have HX4 := Lib.hid hx4; clear hx4
            have HA1 := Lib.hid (HAg.out _ _ _ HP4.out (((ix : Nat) : Int)))
            go_wp2_with fail
            refine HA1.out.mono ?_
            rintro _ w5 ⟨rfl, hp5, hk5⟩
            have hx5 := hk5.blk HX4.out
            have c1' := hx5.cell 1
            simp only [List.getElem?_cons_zero, List.getElem?_cons_succ] at c1'
            have HA2 := Lib.hid (HAg.out _ _ _ hp5 i)
            clear hp5 hk5 hx5 HA1
            go_wp2_with fail
            refine HA2.out.mono ?_
            rintro _ w6 ⟨rfl, hp6, _⟩
            have HP6 := Lib.hid (hp6.now (Nat.le_refl _)); clear hp6 HA2
            go_wp2
            go_roundw
            case rel => exact ⟨k + 1, qt, qr, by omega, by go_num, rfl, rfl, HP6⟩
            case measure => simp [intOf]; omega
          · have q0 : (d == 0) = false := beq_eq_false_iff_ne.2 d0
            clear d0 HPut
            by_cases d1 : d = 1
            · subst d1
              clear HCpy HP0
              go_wp2
              go_region_held3 (fun w' => w'.cell? ⟨wr.heap.size, 1, none⟩ = some (.int .u64 id))
                (first
                  | go_keep
                  | (exact (hk3.blk (HX.out.drew)).cell 1)
                  | (exact (hk4.blk (hk3.blk (HX.out.drew))).cell 1))
                (first
                  | (go_at_call 15; refine HDel.out.mono ?_; rintro e w3 ⟨g, rfl, hk3, hp3⟩)
                  | (go_at_call 29; refine hp3.mono ?_; rintro e w4 ⟨rfl, hk4, hp4⟩))
              have u3 : ((g : Int) != (g : Int)) = false := by simp
              have hx4 := hk4.blk (hk3.blk (HX.out.drew))
              have HP4 := Lib.hid hp4; clear hp4 hk4 hk3 hp3 HDel
              have c1 := hx4.cell 1
              simp only [List.getElem?_cons_zero, List.getElem?_cons_succ] at c1
              have HX4 := Lib.hid hx4; clear hx4
              have HA1 := Lib.hid (HAg.out _ _ _ HP4.out (i))
              go_wp2_with fail
              refine HA1.out.mono ?_
              rintro _ w5 ⟨rfl, hp5, hk5⟩
              have hx5 := hk5.blk HX4.out
              have c1' := hx5.cell 1
              simp only [List.getElem?_cons_zero, List.getElem?_cons_succ] at c1'
              have HA2 := Lib.hid (HAg.out _ _ _ hp5 i)
              clear hp5 hk5 hx5 HA1
              go_wp2_with fail
              refine HA2.out.mono ?_
              rintro _ w6 ⟨rfl, hp6, _⟩
              have HP6 := Lib.hid (hp6.now (Nat.le_refl _)); clear hp6 HA2
              go_wp2
              go_roundw
              case rel => exact ⟨k + 1, qt, qr, by omega, by go_num, rfl, rfl, HP6⟩
              case measure => simp [intOf]; omega
            · have q1 : (d == 1) = false := beq_eq_false_iff_ne.2 d1
              clear d1 HDel
              by_cases d2 : d = 2
              · subst d2
                clear HP0
                go_wp2_with fail
                refine HCpy.out.mono ?_
                rintro _ w3 ⟨qt', rfl, hk3, hp3⟩
                have hx3 := hk3.blk HX.out
                have Hp3 := Lib.hid hp3; clear hp3 hk3 HCpy
                go_wp2_with fail
                refine Hp3.out.mono ?_
                rintro _ w4 ⟨qr', rfl, hk4, hp4⟩
                have hx4 := hk4.blk hx3
                have HP4 := Lib.hid hp4; clear hp4 hk4 Hp3 hx3
                have c1 := hx4.cell 1
                simp only [List.getElem?_cons_zero, List.getElem?_cons_succ] at c1
                have HX4 := Lib.hid hx4; clear hx4
                have HA1 := Lib.hid (HAg.out _ _ _ HP4.out (i))
                go_wp2_with fail
                refine HA1.out.mono ?_
                rintro _ w5 ⟨rfl, hp5, hk5⟩
                have hx5 := hk5.blk HX4.out
                have c1' := hx5.cell 1
                simp only [List.getElem?_cons_zero, List.getElem?_cons_succ] at c1'
                have HA2 := Lib.hid (HAg.out _ _ _ hp5 i)
                clear hp5 hk5 hx5 HA1
                go_wp2_with fail
                refine HA2.out.mono ?_
                rintro _ w6 ⟨rfl, hp6, _⟩
                have HP6 := Lib.hid (hp6.now (Nat.le_refl _)); clear hp6 HA2
                go_wp2
                go_roundw
                case rel => exact ⟨k + 1, qt', qr', by omega, by go_num, rfl, rfl, HP6⟩
                case measure => simp [intOf]; omega
              · have q2 : (d == 2) = false := beq_eq_false_iff_ne.2 d2
                clear d2 HCpy
                have hx4 := HX.out
                have HP4 := HP0; clear HP0
                have c1 := hx4.cell 1
                simp only [List.getElem?_cons_zero, List.getElem?_cons_succ] at c1
                have HX4 := Lib.hid hx4; clear hx4
                have HA1 := Lib.hid (HAg.out _ _ _ HP4.out (i))
                go_wp2_with fail
                refine HA1.out.mono ?_
                rintro _ w5 ⟨rfl, hp5, hk5⟩
                have hx5 := hk5.blk HX4.out
                have c1' := hx5.cell 1
                simp only [List.getElem?_cons_zero, List.getElem?_cons_succ] at c1'
                have HA2 := Lib.hid (HAg.out _ _ _ hp5 i)
                clear hp5 hk5 hx5 HA1
                go_wp2_with fail
                refine HA2.out.mono ?_
                rintro _ w6 ⟨rfl, hp6, _⟩
                have HP6 := Lib.hid (hp6.now (Nat.le_refl _)); clear hp6 HA2
                go_wp2
                go_roundw
                case rel => exact ⟨k + 1, qt, qr, by omega, by go_num, rfl, rfl, HP6⟩
                case measure => simp [intOf]; omega
        · obtain rfl : k = len := by omega
          go_wp2_with fail
          refine (works_w _).mono ?_
          rintro _ w6 ⟨rfl, hB⟩
          go_wp2
          go_ret
          exact ⟨rfl, (hF.below (by simp)).trans (hB.mono hF.size)⟩
end Go.Proofs.Ytciacnnelpijeaa

namespace Go.Proofs.Ytciacnnelpijeaa.internPlays
open Go.ChangeShapes Go.WideShapes Go.ChangeAt Go.RowKit
set_option linter.unusedVariables false

theorem own : ownKnob Try.prog.godebug = none := by kernel_rfl
theorem laidOut : laidOutB Try.prog = true := by kernel_rfl

set_option maxRecDepth 100000 in
theorem lifted (os : Os) (started : os.Started) (H : Type) (enc : TypeId × Value → H) :
    ReturnsInHanded {} Try.checked os 11 .any (Rows.internPlaysSpec.pre6 enc Try.prog Try.f11 Rows.internPlaysRow.domain false) (Rows.internPlaysSpec.post enc Try.prog Try.f11 false true false false) := by
  refine returnsInHanded_of_change (C := Try.checked) own started (by kernel_rfl) Try.func11
    (ChangeSpec.witness6 (enc := enc) (C := Try.checked) false ⟨#[], #[.int .i64 0, .slice none 0 0, .int .i64 0], []⟩ 8 (by kernel_rfl) (by kernel_rfl) (by kernel_rfl) (by kernel_rfl)) ?_
  intro W base args ds gs before hval0 hW hcnd _
  have hval : ∀ (j : Nat) t v, Try.f11.params[j]? = some t → args[j]? = some v → Value.okWide Try.prog W .any base t v := hval0
  have hW' := hW
  obtain ⟨p, q, hA0, hV, rfl, hfz, hnd⟩ := hW
  have hA : DataW.TrodAll enc Try.prog W 0 (fun _ => true) true Try.f11.params.toList args.toList ds p := hA0
  rw [Try.params11] at hA hval
  obtain ⟨v0, vs0, d0, ds0, p0, q0, hargs, rfl, rfl, h0, r0⟩ := trodAll_cons hA
  obtain ⟨v1, vs1, d1, ds1, p1, q1, rfl, rfl, rfl, h1, r1⟩ := trodAll_cons r0
  obtain ⟨v2, vs2, d2, ds2, p2, q2, rfl, rfl, rfl, h2, r2⟩ := trodAll_cons r1
  obtain ⟨rfl, rfl, rfl⟩ := trodAll_nil r2
  obtain rfl : args = #[v0, v1, v2] := by cases args; simp_all
  obtain ⟨rfl, rfl⟩ := trodVars_none hV
  obtain ⟨a0, rfl, rfl, rfl, w0⟩ := open_int Try.underlying3 (hval 0 3 v0 rfl rfl) h0
  obtain ⟨a1, len1, cap1, rfl⟩ := okWide_slice Try.underlying22 (hval 1 22 v1 rfl rfl)
  have k1 := h1
  have lt1 : ∀ x ∈ p1, x.block < W.heap.size := by obtain ⟨m, hm⟩ := k1; exact DataW.trod_lt m _ _ _ hm
  obtain ⟨z1, w1⟩ := open_steps h1
  obtain ⟨a2, rfl, rfl, rfl, w2⟩ := open_int Try.underlying3 (hval 2 3 v2 rfl rfl) h2
  clear hA0 hval0
  refine (walk_internPlays W a0 w0 a1 len1 cap1 z1 w1 a2 w2).mono fun e W' ⟨he, bel⟩ => ?_
  subst he
  exact ⟨_, rfl, _, _, _, [], _, [], hW', trodAll_mk1 (shut_bool Try.underlying4 _), (trodAll_cons_mk (shut_int Try.underlying3 w0) (trodAll_cons_mk (Below.trod laidOut (by kernel_rfl) (of_decide_eq_true (by kernel_rfl)) k1 bel lt1) (trodAll_cons_mk (shut_int Try.underlying3 w2) trodAll_mk0))), rfl, bel.frame _, fun h => by cases h⟩

theorem over : Rows.internPlaysRow.holds Try.pinned (OpenSpec.ofChange Rows.internPlaysSpec) :=
  OpenClaim.holds_of_wide 11 Try.f11 rfl rfl rfl rfl rfl rfl rfl ⟨rfl, rfl, rfl, rfl, rfl⟩ rfl rfl rfl rfl rfl (by kernel_rfl) Try.func11 (by kernel_rfl)
    (of_decide_eq_true (by kernel_rfl)) (by unfold Func.isWrapper; first | (rw [if_pos (by decide +kernel)]; kernel_rfl) | (rw [if_neg (by decide +kernel)]; exact ⟨rfl, rfl⟩))
    (fun os started H enc _ => lifted os started H enc)

end Go.Proofs.Ytciacnnelpijeaa.internPlays

namespace Go.Proofs.Ytciacnnelpijeaa
theorem internPlays_holds : Rows.InternPlaysSaid := internPlays.over
#print axioms internPlays_holds
end Go.Proofs.Ytciacnnelpijeaa
