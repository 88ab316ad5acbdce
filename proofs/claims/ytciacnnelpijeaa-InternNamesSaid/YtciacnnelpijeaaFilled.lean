/- 'filled': a table into which ids were put; the indexes that they got. -/
import Derived.Test.YtciacnnelpijeaaWorks
import Derived.Test.YtciacnnelpijeaaLawKit
namespace Go.Proofs.Ytciacnnelpijeaa
open Go.RowKit

/-- A slice of len integers that came in reads f. -/
def RowF (k : IntKind) (w : World) (a : Option Addr) (len : Nat) (f : Nat → Nat) : Prop :=
  ∀ i, i < len → ∃ b off, a = some ⟨b, off, none⟩ ∧ b < w.heap.size ∧ w.cell? ⟨b, off + i, none⟩ = some (.int k (f i))

theorem RowF.below {k : IntKind} {w w' : World} {a : Option Addr} {len : Nat} {f : Nat → Nat} (h : RowF k w a len f) (hb : Below w.heap.size w w') : RowF k w' a len f := by
  intro i hi
  obtain ⟨b, off, rfl, hlt, hc⟩ := h i hi
  exact ⟨b, off, rfl, Nat.lt_of_lt_of_le hlt hb.size, (hb.cell (p := ⟨b, off + i, none⟩) hlt).trans hc⟩

theorem row_u64 {w : World} {a : Option Addr} {len cap : Nat} {zs : List Int} (h : IsRow .u64 w a len cap zs) : ∃ f : Nat → Nat, RowF .u64 w a len f ∧ (∀ i, f i < 18446744073709551616) ∧ len ≤ 9223372036854775807 := by
  rcases h with ⟨rfl, rfl, rfl, rfl⟩ | ⟨x, rfl, hl, hm, hz, hc, hwf⟩
  · exact ⟨fun _ => 0, fun i hi => absurd hi (Nat.not_lt_zero _), fun _ => by simp, by decide⟩
  · refine ⟨fun i => (zs.getD i 0).toNat, fun i hi => ?_, fun i => ?_, by unfold maxLen at hm; omega⟩
    · have h1 := hc i (by omega)
      have hn : 0 ≤ zs.getD i 0 := by
        rw [List.getD_eq_getElem?_getD, List.getElem?_eq_getElem (by omega)]
        exact (bounds_u64 (hwf _ (List.getElem_mem (by omega)))).1
      obtain ⟨b, off, sp⟩ := x
      cases sp with
      | none =>
        rw [Addr.add_lit] at h1
        exact ⟨b, off, rfl, cell_lt h1, by rw [Int.toNat_of_nonneg hn]; exact h1⟩
      | some s =>
        exfalso
        have hs : ∀ W : World, ∀ y : Addr, y.spot.isSome = true → W.cell? y = none := by
          intro W y hy
          unfold World.cell?
          split
          · rw [if_pos hy]
          · rfl
        have h2 := hc 0 (by omega)
        rw [hs _ _ rfl] at h2
        cases h2
    · show (zs.getD i 0).toNat < _
      by_cases hi : i < zs.length
      · rw [List.getD_eq_getElem?_getD, List.getElem?_eq_getElem hi]
        have := bounds_u64 (hwf _ (List.getElem_mem hi))
        simp only [Option.getD_some]; omega
      · rw [List.getD_eq_getElem?_getD, List.getElem?_eq_none (by omega)]; decide

/-- The different ids among the first k, in the order in which they came. -/
def firsts (f : Nat → Nat) : Nat → List Nat
  | 0 => []
  | k + 1 => if f k ∈ firsts f k then firsts f k else firsts f k ++ [f k]

def Mf (slots : Nat) (D : List Nat) : Md := { slots := slots, L := D.zipIdx, free := [], given := D.length }

theorem firsts_nodup (f : Nat → Nat) (k : Nat) : (firsts f k).Nodup := by
  induction k with
  | zero => simp [firsts]
  | succ k ih =>
    simp only [firsts]
    split
    · exact ih
    · rename_i h
      rw [List.nodup_append]
      exact ⟨ih, by simp, fun a ha b hb e => h (by simp at hb; rw [← hb, ← e]; exact ha)⟩
theorem firsts_len (f : Nat → Nat) (k : Nat) : (firsts f k).length ≤ k := by
  induction k with
  | zero => simp [firsts]
  | succ k ih =>
    simp only [firsts]; split
    · omega
    · simp; omega
theorem firsts_mem (f : Nat → Nat) (k j : Nat) (h : j < k) : f j ∈ firsts f k := by
  induction k with
  | zero => omega
  | succ k ih =>
    simp only [firsts]
    by_cases e : j = k
    · subst e; split
      · assumption
      · simp
    · have := ih (by omega)
      split
      · exact this
      · simp [this]
theorem firsts_of_mem (f : Nat → Nat) (k x : Nat) (h : x ∈ firsts f k) : ∃ j, j < k ∧ f j = x := by
  induction k with
  | zero => simp [firsts] at h
  | succ k ih =>
    simp only [firsts] at h
    split at h
    · obtain ⟨j, hj, e⟩ := ih h; exact ⟨j, by omega, e⟩
    · simp only [List.mem_append, List.mem_singleton] at h
      rcases h with h | h
      · obtain ⟨j, hj, e⟩ := ih h; exact ⟨j, by omega, e⟩
      · exact ⟨k, by omega, h.symm⟩
theorem idxOf_firsts (f : Nat → Nat) (k x : Nat) (h : x ∈ firsts f k) : (firsts f (k + 1)).idxOf x = (firsts f k).idxOf x := by
  simp only [firsts]
  split
  · rfl
  · rw [List.idxOf_append, if_pos h]
theorem idxOf_firsts_le (f : Nat → Nat) (k n x : Nat) (hk : k ≤ n) (h : x ∈ firsts f k) : (firsts f n).idxOf x = (firsts f k).idxOf x ∧ x ∈ firsts f n := by
  induction n with
  | zero => obtain rfl : k = 0 := by omega
            exact ⟨rfl, h⟩
  | succ n ih =>
    by_cases e : k = n + 1
    · subst e; exact ⟨rfl, h⟩
    · obtain ⟨h1, h2⟩ := ih (by omega)
      refine ⟨(idxOf_firsts f n x h2).trans h1, ?_⟩
      simp only [firsts]; split
      · exact h2
      · simp [h2]

theorem Mf_find {slots : Nat} {D : List Nat} (hnd : D.Nodup) (id : Nat) : (Mf slots D).find id = if id ∈ D then some (D.idxOf id) else none := by
  split
  · rename_i h
    apply Md.mem_find
    · simp only [Mf, List.zipIdx_map_fst]; exact hnd
    · simp only [Mf]
      rw [List.mem_zipIdx_iff_getElem?]
      have hl := List.idxOf_lt_length_of_mem h
      rw [List.getElem?_eq_getElem hl, List.getElem_idxOf]
  · rename_i h
    rw [Md.find_none]
    intro i hm
    simp only [Mf, List.mem_zipIdx_iff_getElem?] at hm
    exact h (List.mem_of_getElem? hm)

theorem Mf_put_old {slots : Nat} {D : List Nat} (hnd : D.Nodup) {id : Nat} (h : id ∈ D) : (Mf slots D).put id = ⟨D.idxOf id, false, 0, Mf slots D⟩ := by
  unfold Md.put; rw [Mf_find hnd, if_pos h]
theorem Mf_put_new {slots : Nat} {D : List Nat} (hnd : D.Nodup) {id : Nat} (h : id ∉ D) (hs : D.length < slots) : (Mf slots D).put id = ⟨D.length, true, 0, Mf slots (D ++ [id])⟩ := by
  unfold Md.put; rw [Mf_find hnd, if_neg h]
  have : (Mf slots D).next = some D.length := by simp [Md.next, Mf, hs]
  rw [this]
  simp [Md.add, Mf, List.zipIdx_append]

theorem Mf_put (slots : Nat) (f : Nat → Nat) (k : Nat) (hs : (firsts f k).length < slots) :
    ∃ a, (Mf slots (firsts f k)).put (f k) = ⟨(firsts f (k + 1)).idxOf (f k), a, 0, Mf slots (firsts f (k + 1))⟩ := by
  have hnd := firsts_nodup f k
  by_cases h : f k ∈ firsts f k
  · refine ⟨false, ?_⟩
    rw [Mf_put_old hnd h]; simp only [firsts, if_pos h]
  · refine ⟨true, ?_⟩
    rw [Mf_put_new hnd h hs]; simp only [firsts, if_neg h]
    rw [List.idxOf_append, if_neg h]; simp

set_option maxRecDepth 10000
set_option maxHeartbeats 400000

/-- The indexes that the first k ids got. -/
def atF (f : Nat → Nat) (n : Nat) : Nat → Nat := fun j => (firsts f n).idxOf (f j)

theorem fnRow_succ_cells (m : Nat) (C : Nat → Nat) (x : Nat) (C' : Nat → Nat) (h : ∀ j, j < m → C' j = C j) (hx : C' m = x) : fnRow m (cellF C) ++ [.int .i64 x] = fnRow (m + 1) (cellF C') := by
  simp only [fnRow, List.range_succ, List.map_append, List.map_cons, List.map_nil]
  congr 1
  · apply List.map_congr_left
    intro a ha
    simp at ha
    simp only [cellF]; rw [h a ha]
  · simp [cellF, hx]

theorem filled_w (w : World) (slots len cap : Nat) (a : Option Addr) (f : Nat → Nat) (hR : RowF .u64 w a len f) (hf : ∀ i, f i < 18446744073709551616) (hl : len ≤ slots) (hs : slots ≤ 65536) :
    Calls Try.prog 18 #[.int .i64 slots, .slice a len cap] w fun e w' => ∃ pt l v, e = .returned (.tuple #[ptr pt, v, .bool true]) ∧ TabM w' pt (Mf slots (firsts f len)) l ∧
      w'.ownsRow 0 3 1 v len (fnRow len (cellF (atF f len))) ∧ Next [] (v.ownBlock.toList ++ l) w w' ∧ ∀ b, v.ownBlock = some b → b ∉ l := by
  have HR := Lib.hid hR; clear hR
  have Hf := Lib.hid hf; clear hf
  go_enter Try.func18, Try.ntmps18
  go_wp2_with fail
  refine (tab_new slots w hs).mono ?_
  rintro e w1 ⟨pt, rfl, l1, h1, n1⟩
  go_wp2
  go_loopw [9, 10] (fun v x wr => ∃ (k : Nat) (l : List Nat), k ≤ len ∧ x = .int .i64 k ∧ TabM wr pt (Mf slots (firsts f k)) l ∧ wr.ownsRow 0 3 1 v k (fnRow k (cellF (atF f k))) ∧ Next [] (v.ownBlock.toList ++ l) w wr ∧ ∀ b, v.ownBlock = some b → b ∉ l) (fun _ x _ => len - (intOf x).toNat)
  case atStart => exact ⟨0, l1, Nat.zero_le _, rfl, h1, World.ownsRow_nil _ _ _ _, by simpa [Value.ownBlock] using n1, by simp [Value.ownBlock]⟩
  case round =>
    obtain ⟨k, l, hk, rfl, hT, hown, hN, hdis⟩ := hrel
    have hB : Below w.heap.size w wr := hN.1.below (by simp)
    obtain ⟨a9, c9, rfl⟩ := ownsRow_slice hown
    by_cases hlt : k < len
    · obtain ⟨b, off, rfl, hbl, hc⟩ := HR.out k hlt
      have hcw := (hB.cell (p := ⟨b, off + k, none⟩) hbl).trans hc
      obtain ⟨ad, hput⟩ := Mf_put slots f k (by have := firsts_len f k; omega)
      have HP := Lib.hid hput; clear hput
      go_wp2_with fail
      refine (tab_put_eq (Hf.out k) hT HP.out).mono ?_
      rintro e w2 ⟨rfl, l2, hT2, hN2⟩
      have hBs2 : wr.heap.size ≤ w2.heap.size := hN2.1.size
      have hown2 : w2.ownsRow 0 3 1 (.slice a9 k c9) k (fnRow k (cellF (atF f k))) := ownsRow_same hown (fun q hq => hN2.1.keep q (hown.lt q hq).2 (hdis q hq))
      go_wp2_with (at_builtin; refine wpList_app1 rfl _ _ 38 rfl 3 (.int .i64 0) 8 Try.underlying38 Try.info3 rfl (.slice a9 k c9) k _ rfl (hown2.alloc _) w2.heap.size (.int .i64 ((firsts f (k + 1)).idxOf (f k) : Nat)) rfl (cell_new1 _ _ _ _ rfl) rfl (by omega) (by decide) ?_; intro g' cap' w3 hown3 hgrow3 hg3)
      go_roundw
      case rel =>
        have hsz3 := hgrow3.size
        simp only [World.size_alloc] at hsz3 hg3
        have hv2 : ∀ q, (Value.slice a9 k c9).ownBlock = some q → q < wr.heap.size := fun q hq => (hown.lt q hq).2
        have hl2 : ∀ b ∈ l2, (Value.slice a9 k c9).ownBlock ≠ some b := by
          intro b hb e
          rcases hN2.2 b hb with h | h
          · exact hdis b e h
          · have := hv2 b e; omega
        have hF3 : Fr (Value.slice a9 k c9).ownBlock.toList w2 w3 := ⟨hgrow3.os, hgrow3.tape, hgrow3.output, by omega, fun q hq hn => by
          rw [hgrow3.block q (by simp; omega) (fun e => hn (by simp [← e])), Below.heap_alloc _ _ _ hq]⟩
        refine ⟨k + 1, l2, by omega, by go_num, ?_, ?_, ?_, ?_⟩
        · exact hT2.fr hF3 (fun b hb hm => hl2 b hb (by simpa using hm))
        · have e := fnRow_succ_cells k (atF f k) ((firsts f (k + 1)).idxOf (f k)) (atF f (k + 1)) (fun j hj => idxOf_firsts f k (f j) (firsts_mem f k j hj)) rfl
          rw [e] at hown3
          exact hown3
        · have hx := (hN.1.trans (S' := l) hN2.1 (fun b hb => .inr ((hN.2 b (by simp [hb])).resolve_left (by simp))))
          have hx2 := hx.trans hF3 (fun b hb => .inr ((hN.2 b (by simp only [List.mem_append]; exact .inl hb)).resolve_left (by simp)))
          refine ⟨hx2, fun b hb => .inr ?_⟩
          simp only [Value.ownBlock, Option.toList_some, List.cons_append, List.nil_append, List.mem_cons] at hb
          rcases hb with rfl | hb
          · rcases hg3 with h | h
            · exact (hN.2 b (by simp [h])).resolve_left (by simp)
            · have := hx.size; omega
          · rcases hN2.2 b hb with h | h
            · exact (hN.2 b (by simp [h])).resolve_left (by simp)
            · have := hN.1.size; omega
        · intro b hb
          simp only [Value.ownBlock, Option.some.injEq] at hb
          subst hb
          rcases hg3 with h | h
          · exact fun hm => hl2 _ hm h
          · intro hm; have := hT2.lt _ hm; omega
      case measure => simp [intOf]; omega
    · obtain rfl : k = len := by omega
      go_wp2
      go_ret3
      exact ⟨pt, l, _, rfl, hT, hown, hN, hdis⟩

end Go.Proofs.Ytciacnnelpijeaa
