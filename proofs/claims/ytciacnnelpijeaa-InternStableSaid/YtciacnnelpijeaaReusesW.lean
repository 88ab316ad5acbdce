/- InternReuses: the plain law, and the walk. -/
import Derived.Test.YtciacnnelpijeaaFilled
namespace Go.Proofs.Ytciacnnelpijeaa
open Go.RowKit

theorem Next.cell {l l' : List Nat} {w w' : World} {a : Addr} {v : Value} (h : Next l l' w w') (hc : w.cell? a = some v) (hn : a.block ∉ l) : w'.cell? a = some v ∧ a.block ∉ l' :=
  ⟨h.1.cell hc hn, fun hm => (h.2 _ hm).elim hn (fun hb => by have := cell_lt hc; omega)⟩

namespace Md
theorem rem_find {M : Md} {x i : Nat} : (M.rem x i).find x = none := by
  rw [find_none]; intro j hm; simp [rem] at hm
theorem rem_put {M : Md} {x i : Nat} : (M.rem x i).put x = ⟨i, true, 0, (M.rem x i).add x i⟩ := by
  unfold put; rw [rem_find]; rfl
theorem add_find {M : Md} {x i : Nat} (h : M.find x = none) : (M.add x i).find x = some i := by
  unfold find at *
  simp only [Option.map_eq_none_iff] at h
  simp [add, List.find?_append, h]
theorem add_del {M : Md} {x i : Nat} (h : M.find x = none) : (M.add x i).del x = ⟨0, (M.add x i).rem x i⟩ := by
  unfold del; rw [add_find h]
theorem rem_next {M : Md} {x i : Nat} : (M.rem x i).next = some i := rfl
end Md

set_option maxRecDepth 10000
set_option maxHeartbeats 400000

theorem walk_internReuses (w : World) (a0 : Option Addr) (len0 cap0 : Nat) (z0 : List Int) (w0 : IsRow .u64 w a0 len0 cap0 z0) (a1 : Int) (w1 : (Lit.int .u16 a1).wf = true) (a2 : Int) (w2 : (Lit.int .u64 a2).wf = true) :
    Calls Try.prog 7 #[.slice a0 len0 cap0, .int .u16 a1, .int .u64 a2] w fun e w' => e = .returned (.bool true) ∧ Below w.heap.size w w' := by
  obtain ⟨f, hR, hf, hlen⟩ := row_u64 w0
  have b1 := bounds_u16 w1
  have b2 := bounds_u64 w2
  obtain ⟨wh, rfl⟩ := Int.eq_ofNat_of_zero_le b1.1
  obtain ⟨id, rfl⟩ := Int.eq_ofNat_of_zero_le b2.1
  have hwh : wh ≤ 65535 := by omega
  have hid : id < 18446744073709551616 := by omega
  clear w0 w1 w2 b1 b2
  have HR := Lib.hid hR; clear hR
  have Hf := Lib.hid hf; clear hf
  by_cases h300 : 300 < len0
  · have hd : decide ((300 : Int) < (len0 : Int)) = true := decide_eq_true (by omega)
    go_enter Try.func7, Try.ntmps7
    go_wp2_with (go_at_call 13; refine (works_w _).mono ?_; rintro e w3 ⟨rfl, hB3⟩)
    go_ret
    exact ⟨rfl, hB3⟩
  by_cases hz : len0 = 0
  · subst hz
    have hd : decide ((300 : Int) < ((0 : Nat) : Int)) = false := decide_eq_false (by omega)
    go_enter Try.func7, Try.ntmps7
    go_wp2_with (go_at_call 13; refine (works_w _).mono ?_; rintro e w3 ⟨rfl, hB3⟩)
    go_ret
    exact ⟨rfl, hB3⟩
  have hd : decide ((300 : Int) < (len0 : Int)) = false := decide_eq_false (by omega)
  have hz2 : ((len0 : Int) == 0) = false := beq_eq_false_iff_ne.2 (by omega)
  obtain ⟨k, hk, hkl⟩ : ∃ k : Nat, (wh : Int) % (len0 : Int) = (k : Int) ∧ k < len0 := ⟨wh % len0, by simp, Nat.mod_lt _ (by omega)⟩
  obtain ⟨b, off, rfl, hbl, hc⟩ := HR.out k hkl
  go_enter Try.func7, Try.ntmps7
  go_wp2_with fail
  refine (filled_w w 301 len0 cap0 _ f HR.out Hf.out (by omega) (by decide)).mono ?_
  rintro e w1 ⟨pt, l, v, rfl, hT, hown, hN, hdis⟩
  obtain ⟨g, cg, rfl, hcg, hgl, hgc, _⟩ := ownsRow_at hown hkl
  rw [fnRow_at hkl] at hgc
  have hgd := hdis g rfl
  have hbd : b ∉ l := fun hm => by have := (hN.2 b (by simp [hm])).resolve_left (by simp); omega
  have hB1 : Below w.heap.size w w1 := hN.1.below (by simp)
  have c1 := (hB1.cell (p := ⟨b, off + k, none⟩) hbl).trans hc
  simp only [cellF, atF] at hgc
  have hmem := firsts_mem f len0 k hkl
  have hfind := Mf_find (slots := 301) (firsts_nodup f len0) (f k)
  rw [if_pos hmem] at hfind
  have hML := Md.find_mem hfind
  generalize hM0 : Mf 301 (firsts f len0) = M at *
  generalize hi0 : (firsts f len0).idxOf (f k) = i at *
  have hdel : M.del (f k) = ⟨0, M.rem (f k) i⟩ := by unfold Md.del; rw [hfind]
  have hfk := Hf.out k
  clear hfind hmem hM0 hi0
  generalize f k = x at *
  have HD := Lib.hid hdel; clear hdel
  have hi : i ≤ 65536 := by have := (hT.ok.used _ hML).1; have := hT.ok.ar.hb; have := hT.ok.ar.hs; omega
  clear hown hdis
  go_wp2_with fail
  refine (tab_del_eq hfk hT HD.out).mono ?_
  rintro e w2 ⟨rfl, hT2, hN2⟩
  obtain ⟨c2, hb2⟩ := hN2.cell c1 hbd
  obtain ⟨gc2, hg2⟩ := hN2.cell hgc hgd
  clear c1 hgc
  go_wp2_with fail
  refine (tab_put_eq hfk hT2 Md.rem_put).mono ?_
  rintro e w3 ⟨rfl, l3, hT3, hN3⟩
  obtain ⟨c3, hb3⟩ := hN3.cell c2 hb2
  obtain ⟨gc3, hg3⟩ := hN3.cell gc2 hg2
  clear c2 gc2
  go_wp2_with fail
  refine (tab_del_eq hfk hT3 (Md.add_del Md.rem_find)).mono ?_
  rintro e w4 ⟨rfl, hT4, hN4⟩
  obtain ⟨gc4, hg4⟩ := hN4.cell gc3 hg3
  clear c3 gc3
  go_wp2_with fail
  refine (tab_get id hid hT4).mono ?_
  rintro e w5 ⟨rfl, hT5, hB5⟩
  have gc5 := (hB5.cell (p := ⟨g, k, none⟩) (cell_lt gc4)).trans gc4
  clear gc4
  have hN5 : Next l3 l3 w4 w5 := Next.of_below hB5
  have hnx : (((M.rem x i).add x i).rem x i).next = some i := rfl
  generalize ((M.rem x i).add x i).rem x i = M4 at *
  cases hfi : M4.find id with
  | some j =>
    have hp : M4.put id = ⟨j, false, 0, M4⟩ := by unfold Md.put; rw [hfi]
    simp only [Option.isSome_some, Option.getD_some]
    have Hp := Lib.hid hp; clear hp hfi hnx
    go_wp2_with fail
    refine (tab_put_eq hid hT5 Hp.out).mono ?_
    rintro e w6 ⟨rfl, l6, hT6, hN6⟩
    have hNN := ((((hN2.trans hN3).trans hN4).trans hN5).trans hN6)
    go_wp2_with (go_at_call 13; refine (works_w _).mono ?_; rintro e w7 ⟨rfl, hB7⟩)
    go_ret
    refine ⟨rfl, ?_⟩
    have hA := hN.1.trans hNN.1 (fun b hb => .inr ((hN.2 b (by simp [hb])).resolve_left (by simp)))
    exact (hA.below (by simp)).trans (hB7.mono hA.size)
  | none =>
    have hp : M4.put id = ⟨i, true, 0, M4.add id i⟩ := by unfold Md.put; rw [hfi, hnx]
    simp only [Option.isSome_none, Option.getD_none]
    have Hp := Lib.hid hp; clear hp hfi hnx
    go_wp2_with fail
    refine (tab_put_eq hid hT5 Hp.out).mono ?_
    rintro e w6 ⟨rfl, l6, hT6, hN6⟩
    have hg5 : g ∉ l3 := hg4
    obtain ⟨gc6, hg6⟩ := hN6.cell gc5 hg5
    clear gc5
    have hNN := ((((hN2.trans hN3).trans hN4).trans hN5).trans hN6)
    go_wp2_with (go_at_call 13; refine (works_w _).mono ?_; rintro e w7 ⟨rfl, hB7⟩)
    go_ret
    refine ⟨rfl, ?_⟩
    have hA := hN.1.trans hNN.1 (fun b hb => .inr ((hN.2 b (by simp [hb])).resolve_left (by simp)))
    exact (hA.below (by simp)).trans (hB7.mono hA.size)

end Go.Proofs.Ytciacnnelpijeaa
