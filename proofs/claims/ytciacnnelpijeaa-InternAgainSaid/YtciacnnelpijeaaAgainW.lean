/- InternAgain: the plain law, and the walk. -/
import Derived.Test.YtciacnnelpijeaaReusesW
namespace Go.Proofs.Ytciacnnelpijeaa
open Go.RowKit

/-- The first m ids of D are in the table; the indexes behind them are free, the lowest one first. -/
def Mt (slots : Nat) (D : List Nat) (m : Nat) : Md := { slots := slots, L := (D.take m).zipIdx, free := List.range' m (D.length - m), given := D.length }

theorem firsts_take (f : Nat → Nat) (k n : Nat) (h : k ≤ n) : firsts f k = (firsts f n).take (firsts f k).length := by
  induction n with
  | zero => obtain rfl : k = 0 := by omega
            simp [firsts]
  | succ n ih =>
    by_cases e : k = n + 1
    · subst e; simp
    · have h1 := ih (by omega)
      simp only [firsts]
      split
      · exact h1
      · rw [List.take_append_of_le_length]
        · exact h1
        · rw [h1, List.length_take]; omega

theorem Mt_full (slots : Nat) (D : List Nat) : Mt slots D D.length = Mf slots D := by simp [Mt, Mf]

section
variable {slots : Nat} {D : List Nat} (hnd : D.Nodup)
include hnd
theorem Mt_find_in {m x : Nat} (h : x ∈ D.take m) : (Mt slots D m).find x = some (D.idxOf x) := by
  have h1 := Mf_find (slots := slots) ((List.take_sublist m D).nodup hnd) x
  rw [if_pos h] at h1
  have e : D.idxOf x = (D.take m).idxOf x := by
    conv => lhs; rw [← List.take_append_drop m D]
    rw [List.idxOf_append, if_pos h]
  rw [e]; exact h1
theorem Mt_find_out {m x : Nat} (h : x ∉ D.take m) : (Mt slots D m).find x = none := by
  have h1 := Mf_find (slots := slots) ((List.take_sublist m D).nodup hnd) x
  rw [if_neg h] at h1
  exact h1
theorem not_mem_take {m : Nat} (h : m < D.length) : D[m] ∉ D.take m := by
  intro hm
  obtain ⟨j, hj⟩ := List.getElem?_of_mem hm
  have hj2 : j < m := by have := (List.getElem?_eq_some_iff.1 hj).1; simp at this; omega
  rw [List.getElem?_take, if_pos hj2] at hj
  have := nodup_idx hnd hj (List.getElem?_eq_getElem h)
  omega
theorem Mt_put_in {m x : Nat} (h : x ∈ D.take m) : (Mt slots D m).put x = ⟨D.idxOf x, false, 0, Mt slots D m⟩ := by
  unfold Md.put; rw [Mt_find_in hnd h]
theorem Mt_put_next {m : Nat} (h : m < D.length) : (Mt slots D m).put D[m] = ⟨m, true, 0, Mt slots D (m + 1)⟩ := by
  unfold Md.put; rw [Mt_find_out hnd (not_mem_take hnd h)]
  obtain ⟨q, hq⟩ : ∃ q, D.length - m = q + 1 := ⟨D.length - m - 1, by omega⟩
  have hn : (Mt slots D m).next = some m := by simp [Md.next, Mt, hq, List.range'_succ]
  rw [hn]
  simp only [Md.add, Mt, hq, List.range'_succ, List.tail_cons]
  have e1 : (D.take m).zipIdx ++ [(D[m], m)] = (D.take (m + 1)).zipIdx := by
    rw [List.take_succ_eq_append_getElem h, List.zipIdx_append]
    simp; omega
  rw [e1, show D.length - (m + 1) = q by omega]
theorem Mt_del {m : Nat} (h : m < D.length) : (Mt slots D (m + 1)).del D[m] = ⟨0, Mt slots D m⟩ := by
  have hin : D[m] ∈ D.take (m + 1) := by rw [List.take_succ_eq_append_getElem h]; exact List.mem_append_right _ (List.mem_singleton.2 rfl)
  have hidx : D.idxOf D[m] = m := by
    have h1 := List.idxOf_lt_length_of_mem (List.getElem_mem h)
    exact nodup_idx hnd (by rw [List.getElem?_eq_getElem h1, List.getElem_idxOf]) (List.getElem?_eq_getElem h)
  unfold Md.del; rw [Mt_find_in hnd hin, hidx]
  simp only [Md.rem, Mt]
  have hnm := not_mem_take hnd h
  have e1 : ((D.take (m + 1)).zipIdx).filter (fun x => x.1 != D[m]) = (D.take m).zipIdx := by
    rw [List.take_succ_eq_append_getElem h, List.zipIdx_append, List.filter_append]
    have h1 : ((D.take m).zipIdx).filter (fun x => x.1 != D[m]) = (D.take m).zipIdx := List.filter_eq_self.2 (fun x hx => by
      simp only [bne_iff_ne]; intro e
      rw [List.mem_zipIdx_iff_getElem?] at hx
      exact hnm (e ▸ List.mem_of_getElem? hx))
    rw [h1]; simp
  rw [e1]
  obtain ⟨q, hq⟩ : ∃ q, D.length - m = q + 1 := ⟨D.length - m - 1, by omega⟩
  rw [hq, List.range'_succ, show D.length - (m + 1) = q by omega]
omit hnd in
theorem Mt_at {m : Nat} (h : m < D.length) : (Mt slots D (m + 1)).at (m : Int) = some D[m] := by
  unfold Md.at
  rw [if_pos (by omega)]
  apply Md.mem_idOf
  · simp only [Mt, List.zipIdx_map_snd]; exact List.nodup_range'
  · simp only [Mt, Int.toNat_natCast, List.mem_zipIdx_iff_getElem?]
    rw [List.getElem?_take, if_pos (by omega), List.getElem?_eq_getElem h]
end

theorem again_put (slots : Nat) (f : Nat → Nat) (n k : Nat) (hk : k < n) :
    ∃ a, (Mt slots (firsts f n) (firsts f k).length).put (f k) = ⟨atF f n k, a, 0, Mt slots (firsts f n) (firsts f (k + 1)).length⟩ := by
  have hnd := firsts_nodup f n
  have ht := firsts_take f k n (by omega)
  have ht1 := firsts_take f (k + 1) n (by omega)
  by_cases h : f k ∈ firsts f k
  · refine ⟨false, ?_⟩
    have h2 := h
    rw [ht] at h2
    rw [Mt_put_in hnd h2]
    simp only [firsts, if_pos h, atF]
  · refine ⟨true, ?_⟩
    have hs : firsts f (k + 1) = firsts f k ++ [f k] := by simp only [firsts, if_neg h]
    have hlen : (firsts f (k + 1)).length = (firsts f k).length + 1 := by rw [hs]; simp
    have hlt : (firsts f k).length < (firsts f n).length := by
      have := congrArg List.length ht1
      rw [List.length_take, hlen] at this; omega
    have he : (firsts f n)[(firsts f k).length] = f k := by
      have h3 : (firsts f (k + 1))[(firsts f k).length]? = some (f k) := by rw [hs]; simp
      rw [ht1, List.getElem?_take, if_pos (by omega), List.getElem?_eq_getElem hlt] at h3
      simpa using h3
    have hp := Mt_put_next (slots := slots) hnd hlt
    rw [he] at hp
    rw [hp, hlen]
    have hat : atF f n k = (firsts f k).length := by
      unfold atF
      have h1 := (idxOf_firsts_le f (k + 1) n (f k) (by omega) (firsts_mem f (k + 1) k (by omega))).1
      rw [h1, hs, List.idxOf_append, if_neg h]; simp
    rw [hat]

/-- 'most' after k rounds. -/
theorem again_most (f : Nat → Nat) (n k : Nat) (hk : k < n) : atF f n k ≤ (firsts f k).length ∧ max (((firsts f k).length : Int) - 1) (atF f n k) = ((firsts f (k + 1)).length : Int) - 1 := by
  have h1 := (idxOf_firsts_le f (k + 1) n (f k) (by omega) (firsts_mem f (k + 1) k (by omega))).1
  unfold atF
  rw [h1]
  by_cases h : f k ∈ firsts f k
  · have e : firsts f (k + 1) = firsts f k := by simp only [firsts, if_pos h]
    rw [e]
    have := List.idxOf_lt_length_of_mem h
    omega
  · have e : firsts f (k + 1) = firsts f k ++ [f k] := by simp only [firsts, if_neg h]
    rw [e, List.idxOf_append, if_neg h]
    simp; omega

set_option maxRecDepth 10000
set_option maxHeartbeats 400000

theorem walk_internAgain (w : World) (a0 : Option Addr) (len0 cap0 : Nat) (z0 : List Int) (w0 : IsRow .u64 w a0 len0 cap0 z0) :
    Calls Try.prog 5 #[.slice a0 len0 cap0] w fun e w' => e = .returned (.bool true) ∧ Below w.heap.size w w' := by
  obtain ⟨f, hR, hf, hlen⟩ := row_u64 w0
  clear w0
  have HR := Lib.hid hR; clear hR
  have Hf := Lib.hid hf; clear hf
  by_cases h300 : 300 < len0
  · have hd : decide ((300 : Int) < (len0 : Int)) = true := decide_eq_true (by omega)
    go_enter Try.func5, Try.ntmps5
    go_wp2_with (go_at_call 13; refine (works_w _).mono ?_; rintro e w3 ⟨rfl, hB3⟩)
    go_ret
    exact ⟨rfl, hB3⟩
  have hd : decide ((300 : Int) < (len0 : Int)) = false := decide_eq_false (by omega)
  go_enter Try.func5, Try.ntmps5
  go_wp2_with fail
  refine (filled_w w 300 len0 cap0 _ f HR.out Hf.out (by omega) (by decide)).mono ?_
  rintro e w1 ⟨pt, l, v, rfl, hT, hown, hN, hdis⟩
  obtain ⟨av, cv, rfl⟩ := ownsRow_slice hown
  have HO := Lib.hid hown; clear hown
  have hB1 : Below w.heap.size w w1 := hN.1.below (by simp)
  have hDl := firsts_len f len0
  go_wp2
  go_loop [6, 7] (fun m x => ∃ k : Nat, k ≤ len0 ∧ x = .int .i64 k ∧ m = .int .i64 (((firsts f k).length : Int) - 1)) (fun _ x => len0 - (intOf x).toNat)
  case atStart => exact ⟨0, Nat.zero_le _, rfl, rfl⟩
  case round =>
    obtain ⟨k, hk, rfl, rfl⟩ := hrel
    by_cases hlt : k < len0
    · obtain ⟨g, cg, e, hcg, hgl, hgc, _⟩ := ownsRow_at HO.out hlt
      simp only [Value.slice.injEq, true_and] at e
      obtain ⟨rfl, rfl⟩ := e
      rw [fnRow_at hlt] at hgc
      simp only [cellF] at hgc
      obtain ⟨hm1, hm2⟩ := again_most f len0 k hlt
      have hfl := firsts_len f k
      have hd1 : decide (((firsts f k).length : Int) - 1 + 1 < (atF f len0 k : Int)) = false := decide_eq_false (by omega)
      generalize atF f len0 k = ak at *
      generalize (firsts f k).length = fk at *
      go_wp2
      go_round
      case rel =>
        refine ⟨k + 1, by omega, by go_num, ?_⟩
        refine congrArg (Value.int .i64) (Eq.trans ?_ hm2)
        split <;> omega
      case measure => simp [intOf]; omega
    · obtain rfl : k = len0 := by omega
      go_wp2
      go_loopw [8] (fun x wr => ∃ (m : Nat) (l' : List Nat), m ≤ (firsts f k).length ∧ x = .int .i64 ((m : Int) - 1) ∧ TabM wr pt (Mt 300 (firsts f k) m) l' ∧ Next l l' w1 wr) (fun x _ => (intOf x + 1).toNat)
      case atStart => exact ⟨_, l, Nat.le_refl _, rfl, by rw [Mt_full]; exact hT, Next.refl _ _⟩
      case round =>
        obtain ⟨m, l2, hm, rfl, hT2, hN2⟩ := hrel
        by_cases hm0 : m = 0
        · subst hm0
          have hL : Calls Try.prog 17 #[ptr pt] wr fun e w' => e = .returned (.int .i64 0) ∧ wr = w' := by
            have := tab_len hT2; simpa [Mt] using this
          have HL := Lib.hid hL; clear hL
          go_wp2_with (go_at_call 17; refine HL.out.mono ?_; rintro e w' ⟨rfl, rfl⟩)
          obtain ⟨wo, hwo⟩ : ∃ wo : World, wo = wr := ⟨_, rfl⟩
          subst hwo
          go_loopw [11] (fun x wr => ∃ (j : Nat) (l' : List Nat), j ≤ k ∧ x = .int .i64 j ∧ TabM wr pt (Mt 300 (firsts f k) (firsts f j).length) l' ∧ Next l l' w1 wr) (fun x _ => k - (intOf x).toNat)
          case atStart => exact ⟨0, l2, Nat.zero_le _, rfl, hT2, hN2⟩
          case round =>
            obtain ⟨j, l3, hj, rfl, hT3, hN3⟩ := hrel
            by_cases hjl : j < k
            · obtain ⟨b, off, rfl, hbl, hc⟩ := HR.out j hjl
              obtain ⟨g, cg, e, hcg, hgl, hgc, _⟩ := ownsRow_at HO.out hjl
              simp only [Value.slice.injEq, true_and] at e
              obtain ⟨rfl, rfl⟩ := e
              rw [fnRow_at hjl] at hgc
              simp only [cellF] at hgc
              have hgd : g ∉ l := hdis g rfl
              have hbd : b ∉ l := fun hm => by have := (hN.2 b (by simp [hm])).resolve_left (by simp); omega
              have c1 := (hN3.cell ((hB1.cell (p := ⟨b, off + j, none⟩) hbl).trans hc) hbd)
              have c2 := (hN3.cell hgc hgd)
              obtain ⟨ad, hput⟩ := again_put 300 f k j hjl
              have HP := Lib.hid hput; clear hput
              obtain ⟨c1, hb3⟩ := c1
              obtain ⟨c2, hg3⟩ := c2
              clear hc hgc
              go_wp2_with fail
              refine (tab_put_eq (Hf.out j) hT3 HP.out).mono ?_
              rintro e w5 ⟨rfl, l5, hT5, hN5⟩
              have c5 := (hN5.cell c2 hg3).1
              clear c1 c2
              go_wp2
              go_roundw
              case rel => exact ⟨j + 1, l5, by omega, by go_num, hT5, hN3.trans hN5⟩
              case measure => simp [intOf]; omega
            · go_wp2_with (go_at_call 13; refine (works_w _).mono ?_; rintro e w7 ⟨rfl, hB7⟩)
              go_ret
              refine ⟨rfl, ?_⟩
              have hA := hN.1.trans hN3.1 (fun b hb => .inr ((hN.2 b (by simp [hb])).resolve_left (by simp)))
              exact (hA.below (by simp)).trans (hB7.mono hA.size)
        · obtain ⟨q, rfl⟩ : ∃ q, m = q + 1 := ⟨m - 1, by omega⟩
          have hat := Mt_at (slots := 300) (D := firsts f k) (show q < (firsts f k).length by omega)
          have hI : Calls Try.prog 19 #[ptr pt, .int .i64 q] wr fun e w' => e = .returned (.tuple #[.int .u64 ((firsts f k)[q] : Nat), .bool true]) ∧ wr = w' := by
            have := tab_id (q : Int) hT2; rw [hat] at this; exact this
          have HI := Lib.hid hI; clear hI hat
          have hlt64 : (firsts f k)[q] < 18446744073709551616 := by
            obtain ⟨j, hj, e⟩ := firsts_of_mem f k _ (List.getElem_mem (show q < (firsts f k).length by omega))
            rw [← e]; exact Hf.out j
          have HDl := Lib.hid (Mt_del (slots := 300) (firsts_nodup f k) (show q < (firsts f k).length by omega))
          generalize (firsts f k)[q] = y at *
          go_wp2_with (go_at_call 19; refine HI.out.mono ?_; rintro e w' ⟨rfl, rfl⟩)
          refine (tab_del_eq hlt64 hT2 HDl.out).mono ?_
          rintro e w5 ⟨rfl, hT5, hN5⟩
          go_wp2
          go_roundw
          case rel => exact ⟨q, l2, by omega, by go_num, hT5, hN2.trans hN5⟩
          case measure => simp [intOf]

end Go.Proofs.Ytciacnnelpijeaa
