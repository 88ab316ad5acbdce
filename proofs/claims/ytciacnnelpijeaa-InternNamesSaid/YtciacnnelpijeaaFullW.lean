/- InternFull: the plain law, and the walk. -/
import Derived.Test.YtciacnnelpijeaaWorks
import Derived.Test.YtciacnnelpijeaaLawKit
namespace Go.Proofs.Ytciacnnelpijeaa
open Go.RowKit

theorem odd_inj {m a b : Nat} (hm : m % 2 = 1) (ha : a < 18446744073709551616) (hb : b < 18446744073709551616) (c : Nat) (h : (c + a * m) % 18446744073709551616 = (c + b * m) % 18446744073709551616) : a = b := by
  have key : ∀ x y : Nat, x ≤ y → y < 18446744073709551616 → (c + x * m) % 18446744073709551616 = (c + y * m) % 18446744073709551616 → x = y := by
    intro x y hxy hy h
    have h2 : c + x * m ≤ c + y * m := Nat.add_le_add_left (Nat.mul_le_mul_right m hxy) c
    have hd : 18446744073709551616 ∣ (c + y * m) - (c + x * m) := Nat.dvd_of_mod_eq_zero (Nat.sub_mod_eq_zero_of_mod_eq h.symm)
    rw [Nat.add_sub_add_left, ← Nat.sub_mul] at hd
    have hc : Nat.Coprime 18446744073709551616 m := by
      have : (18446744073709551616 : Nat) = 2 ^ 64 := by decide
      rw [this]
      apply Nat.Coprime.pow_left
      rw [Nat.coprime_comm]
      unfold Nat.Coprime
      rw [Nat.gcd_comm, Nat.gcd_rec, hm]; simp
    have hd2 := hc.dvd_of_dvd_mul_right hd
    have := Nat.eq_zero_of_dvd_of_lt hd2 (by omega)
    omega
  rcases Nat.le_total a b with hab | hab
  · exact key a b hab hb h
  · exact (key b a hab ha h.symm).symm

theorem or_one_odd (s : Nat) : (s ||| 1) % 2 = 1 := by
  have h : (s ||| 1).testBit 0 = true := by rw [Nat.testBit_or]; simp
  rw [Nat.testBit_zero] at h
  exact of_decide_eq_true h

namespace Full
def id (first step k : Nat) : Nat := (first + k * step) % 18446744073709551616
def M (n first step k : Nat) : Md := { slots := n, L := (List.range k).map (fun j => (id first step j, j)), free := [], given := k }

variable {n first step : Nat}
theorem id_lt (k : Nat) : id first step k < 18446744073709551616 := Nat.mod_lt _ (by decide)
theorem id_inj (hs : step % 2 = 1) {a b : Nat} (ha : a ≤ 300) (hb : b ≤ 300) (h : id first step a = id first step b) : a = b := odd_inj hs (by omega) (by omega) first h

theorem find_none' (hs : step % 2 = 1) {k : Nat} (hk : k ≤ 300) : (M n first step k).find (id first step k) = none := by
  rw [Md.find_none]
  intro i hm
  simp only [M, List.mem_map, List.mem_range, Prod.mk.injEq] at hm
  obtain ⟨j, hj, e, _⟩ := hm
  have := id_inj hs (by omega) hk e
  omega
theorem put_next (hs : step % 2 = 1) {k : Nat} (hn : n ≤ 300) (hk : k < n) : (M n first step k).put (id first step k) = ⟨k, true, 0, M n first step (k + 1)⟩ := by
  unfold Md.put
  rw [find_none' hs (by omega)]
  have : (M n first step k).next = some k := by simp [Md.next, M, hk]
  rw [this]
  simp [Md.add, M, List.range_succ]
theorem put_full (hs : step % 2 = 1) (hn : n ≤ 300) : (M n first step n).put (id first step n) = ⟨0, false, 4, M n first step n⟩ := by
  unfold Md.put
  rw [find_none' hs hn]
  have : (M n first step n).next = none := by simp [Md.next, M]
  rw [this]
theorem put_first (hn : 0 < n) : (M n first step n).put (id first step 0) = ⟨0, false, 0, M n first step n⟩ := by
  unfold Md.put
  have : (M n first step n).find (id first step 0) = some 0 := by
    obtain ⟨m, rfl⟩ : ∃ m, n = m + 1 := ⟨n - 1, by omega⟩
    simp [Md.find, M, List.range_succ_eq_map]
  rw [this]
def M' (n first step : Nat) : Md := (M n first step n).rem (id first step 0) 0
theorem del_first (hn : 0 < n) : (M n first step n).del (id first step 0) = ⟨0, M' n first step⟩ := by
  unfold Md.del
  have : (M n first step n).find (id first step 0) = some 0 := by
    obtain ⟨m, rfl⟩ : ∃ m, n = m + 1 := ⟨n - 1, by omega⟩
    simp [Md.find, M, List.range_succ_eq_map]
  rw [this]; rfl
theorem put_other (hs : step % 2 = 1) (hn : n ≤ 300) : (M' n first step).put (id first step n) = ⟨0, true, 0, (M' n first step).add (id first step n) 0⟩ := by
  unfold Md.put
  have : (M' n first step).find (id first step n) = none := by
    rw [Md.find_none]
    intro i hm
    simp only [M', Md.rem, List.mem_filter] at hm
    exact Md.find_none.1 (find_none' (n := n) (first := first) hs hn) i hm.1
  rw [this]
  have h2 : (M' n first step).next = some 0 := by simp [Md.next, M', Md.rem]
  rw [h2]
theorem len_other (hn0 : 0 < n) (hs : step % 2 = 1) (hn : n ≤ 300) : ((M' n first step).add (id first step n) 0).L.length = n := by
  simp only [Md.add, M', Md.rem, List.length_append, List.length_cons, List.length_nil]
  have hnd : ((M n first step n).L.map (·.1)).Nodup := by
    simp only [M, List.map_map]
    rw [List.nodup_iff_pairwise_ne, List.pairwise_map]
    refine List.Pairwise.imp_of_mem ?_ (List.nodup_iff_pairwise_ne.1 List.nodup_range)
    intro a b ha hb hne e
    simp at ha hb
    exact hne (id_inj hs (by omega) (by omega) e)
  have := Md.filter_ne hnd (id := id first step 0) (i := 0) (by simp only [M, List.mem_map, List.mem_range]; exact ⟨0, hn0, rfl⟩)
  rw [this]; simp [M]
end Full

set_option maxRecDepth 10000
set_option maxHeartbeats 400000

theorem walk_internFull (w : World) (a0 : Int) (w0 : (Lit.int .u8 a0).wf = true) (a1 : Int) (w1 : (Lit.int .u64 a1).wf = true) (a2 : Int) (w2 : (Lit.int .u64 a2).wf = true) :
    Calls Try.prog 4 #[.int .u8 a0, .int .u64 a1, .int .u64 a2] w fun e w' => e = .returned (.bool true) ∧ Below w.heap.size w w' := by
  have b0 := bounds_u8 w0
  have b1 := bounds_u64 w1
  have b2 := bounds_u64 w2
  obtain ⟨sl, rfl⟩ := Int.eq_ofNat_of_zero_le b0.1
  obtain ⟨first, rfl⟩ := Int.eq_ofNat_of_zero_le b1.1
  obtain ⟨st, rfl⟩ := Int.eq_ofNat_of_zero_le b2.1
  clear w0 w1 w2
  have hor : bits BinOp.or IntKind.u64 (st : Int) 1 = ((st ||| 1 : Nat) : Int) := u64_or _ _ (by omega) (by omega) (by omega) (by omega)
  have hodd := or_one_odd st
  have hslt : st ||| 1 < 18446744073709551616 := by
    have := Nat.or_lt_two_pow (n := 64) (x := st) (y := 1) (by omega) (by decide)
    omega
  generalize st ||| 1 = step at *
  obtain ⟨n, hn, hn2⟩ : ∃ n : Nat, ((sl : Int) % 201) = n ∧ n ≤ 200 := ⟨sl % 201, by simp, by omega⟩
  have Hodd := Lib.hid hodd; clear hodd
  have hfst : first < 18446744073709551616 := by omega
  have hsl : sl ≤ 255 := by omega
  clear b0 b1 b2
  go_enter Try.func4, Try.ntmps4
  go_wp2_with fail
  refine (tab_new n w (by omega)).mono ?_
  rintro e w1 ⟨pt, rfl, l1, h1, n1⟩
  simp only [hn]
  clear hn
  go_wp2
  go_loopw [10] (fun a wr => ∃ (k : Nat) (l : List Nat), k ≤ n ∧ a = .int .i64 k ∧ TabM wr pt (Full.M n first step k) l ∧ Next [] l w wr) (fun a _ => n - (intOf a).toNat)
  case atStart => exact ⟨0, l1, Nat.zero_le _, rfl, h1, n1⟩
  case round =>
    obtain ⟨k, l, hk, rfl, hT, hN⟩ := hrel
    by_cases hlt : k < n
    · have hid : IntKind.u64.wrap ((first : Int) + IntKind.u64.wrap ((k : Int) * (step : Int))) = ((Full.id first step k : Nat) : Int) := by
        rw [IntKind.wrap_u64, IntKind.wrap_u64, Int.add_emod_emod]
        simp [Full.id]
      go_wp2_with fail
      refine (tab_put_eq (Full.id_lt k) hT (Full.put_next Hodd.out (by omega) hlt)).mono ?_
      rintro e w2 ⟨rfl, l2, hT2, hN2⟩
      clear hid
      go_wp2
      go_roundw
      case rel => exact ⟨k + 1, l2, by omega, by go_num, hT2, hN.trans hN2⟩
      case measure => simp [intOf]; omega
    · obtain rfl : k = n := by omega
      have hid : IntKind.u64.wrap ((first : Int) + IntKind.u64.wrap ((k : Int) * (step : Int))) = ((Full.id first step k : Nat) : Int) := by
        rw [IntKind.wrap_u64, IntKind.wrap_u64, Int.add_emod_emod]
        simp [Full.id]
      go_wp2_with fail
      refine (tab_put_eq (Full.id_lt k) hT (Full.put_full Hodd.out (by omega))).mono ?_
      rintro e w2 ⟨rfl, l2, hT2, hN2⟩
      clear hid
      have hlen : (Full.M k first step k).L.length = k := by simp [Full.M]
      have hL2 : Calls Try.prog 17 #[ptr pt] w2 fun e w' => e = .returned (.int .i64 k) ∧ w2 = w' := by
        have := tab_len hT2; rw [hlen] at this; exact this
      have HL2 := Lib.hid hL2; clear hL2
      have Hlen := Lib.hid hlen; clear hlen
      by_cases h0 : k = 0
      · subst h0
        go_wp2_with (first | (go_at_call 17; refine HL2.out.mono ?_; rintro e w' ⟨rfl, rfl⟩) | (go_at_call 13; refine (works_w _).mono ?_; rintro e w3 ⟨rfl, hB3⟩))
        go_ret
        exact ⟨rfl, (((hN.trans hN2).1).below (by simp)).trans (hB3.mono (hN.trans hN2).1.size)⟩
      · have hz : ((k : Int) == 0) = false := beq_eq_false_iff_ne.2 (by omega)
        have hf0 : Full.id first step 0 = first := by simp [Full.id]; omega
        have p1 := Full.put_first (n := k) (first := first) (step := step) (by omega)
        have p2 := Full.del_first (n := k) (first := first) (step := step) (by omega)
        rw [hf0] at p1 p2
        have P1 := Lib.hid p1; clear p1
        have P2 := Lib.hid p2; clear p2
        clear hf0
        go_wp2_with (go_at_call 17; refine HL2.out.mono ?_; rintro e w' ⟨rfl, rfl⟩)
        refine (tab_put_eq hfst hT2 P1.out).mono ?_
        rintro e w3 ⟨rfl, l3, hT3, hN3⟩
        go_wp2_with fail
        refine (tab_del_eq hfst hT3 P2.out).mono ?_
        rintro e w4 ⟨rfl, hT4, hN4⟩
        go_wp2_with fail
        refine (tab_put_eq (Full.id_lt k) hT4 (Full.put_other Hodd.out (by omega))).mono ?_
        rintro e w5 ⟨rfl, l5, hT5, hN5⟩
        have hL5 : Calls Try.prog 17 #[ptr pt] w5 fun e w' => e = .returned (.int .i64 k) ∧ w5 = w' := by
          have := tab_len hT5; rw [Full.len_other (by omega) Hodd.out (by omega)] at this; exact this
        have HL5 := Lib.hid hL5; clear hL5
        have hNN := (((hN.trans hN2).trans hN3).trans hN4).trans hN5
        go_wp2_with (first | (go_at_call 17; refine HL5.out.mono ?_; rintro e w' ⟨rfl, rfl⟩) | (go_at_call 13; refine (works_w _).mono ?_; rintro e w6 ⟨rfl, hB6⟩))
        go_ret
        exact ⟨rfl, ((hNN.1).below (by simp)).trans (hB6.mono hNN.1.size)⟩

end Go.Proofs.Ytciacnnelpijeaa
