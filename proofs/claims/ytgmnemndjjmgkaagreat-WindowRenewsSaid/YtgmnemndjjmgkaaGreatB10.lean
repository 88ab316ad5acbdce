/- lct: Set and Key. -/
import Derived.StillTailTactics
import Derived.Deep.Upon
import Derived.Deep.RegionLaw
import Derived.Test.YtgmnemndjjmgkaaGreatB9
import Derived.Test.YtgmnemndjjmgkaaGreatB5
import Derived.BigQuiet
import Derived.WalkSpells
import Derived.Test.YtgmnemndjjmgkaaGreatB3
import Derived.Test.YtgmnemndjjmgkaaGreatB8
set_option linter.unusedSimpArgs false
set_option linter.unusedVariables false
/- The heap: place, put, swap. -/
namespace Go.Proofs.YtgmnemndjjmgkaaGreat
open Go.RowKit
set_option maxRecDepth 10000
set_option maxHeartbeats 800000
section
variable {w w' : World} {ph slots n : Nat} {e : Nat → Nat × Int} {pl : Nat → Nat} {v : Value} {gp cp : Nat} {bs : Nat → Option Nat}
theorem HM.dirAt (h : HM w ph slots n e pl v gp cp bs) {k : Nat} (hk : k < (slots + 63) / 64) : w.cell? ⟨gp, k, none⟩ = some (optP (bs k)) := by
 rw [h.dir.cell]; simp [hk]
theorem place_w (h : HM w ph slots n e pl v gp cp bs) {i : Nat} (hi : i < slots) :
    Calls Tryz.prog 196 #[hptr ph, .int .i64 i] w fun e w' => e = .returned (.int .i64 ((pl i : Int) - 1)) ∧ w' = w := by
 have hle := h.le
 have hk : i / 64 < (slots + 63) / 64 := by omega
 have c3 := h.hd.cell 3
 simp only [List.getElem?_cons_zero, List.getElem?_cons_succ] at c3
 have hd := h.dirAt hk
 have hm : i = i / 64 * 64 + i % 64 := by omega
 have hi6 : i < 65536 := by omega
 cases hb : bs (i / 64) with
 | none => {
 rw [hb] at hd
 have h0 := h.none_ _ hk hb (i % 64) (by omega)
 rw [← hm] at h0
 rw [h0]
 simp only [optP, Option.map_none] at hd
 clear hm h0 h hb hle
 generalize (slots + 63) / 64 = m at *
 go_enter Tryz.func196, Tryz.ntmps196
 go_wp2
 go_ret
 exact ⟨rfl, rfl⟩
 }
 | some b => {
 rw [hb] at hd
 have h0 := (h.some_ _ _ hk hb).cell (i % 64)
 rw [blkC_at pl (i / 64) (by omega), ← hm] at h0
 simp only [optP, Option.map_some] at hd
 have hpl : (0 : Int) ≤ pl i := by omega
 have hx := h.pb i
 clear hm h hb hle
 generalize (slots + 63) / 64 = m at *
 generalize pl i = x at *
 go_enter Tryz.func196, Tryz.ntmps196
 go_wp2
 go_ret
 exact ⟨rfl, rfl⟩
 }
theorem blkC_zero {pl : Nat → Nat} {k : Nat} (h : ∀ j, j < 64 → pl (k * 64 + j) = 0) : blkC pl k = List.replicate 64 (.int .i64 0) := by
 apply List.ext_getElem?
 intro j
 by_cases hj : j < 64
 · rw [blkC_at pl k hj, h j hj, List.getElem?_replicate, if_pos hj]; rfl
 · rw [List.getElem?_eq_none (by simp [blkC]; omega), List.getElem?_eq_none (by rw [List.length_replicate]; omega)]
def updB (bs : Nat → Option Nat) (k b : Nat) : Nat → Option Nat := fun x => if x = k then some b else bs x
theorem updB_same (bs : Nat → Option Nat) (k b : Nat) : updB bs k b k = some b := by simp [updB]
theorem updB_other {bs : Nat → Option Nat} {k b x : Nat} (h : x ≠ k) : updB bs k b x = bs x := by simp [updB, h]
theorem HM.note (h : HM w ph slots n e pl v gp cp bs) {i x b : Nat} (hi : i < slots) (hb : bs (i / 64) = some b) (hx : x ≤ 65536) :
    HM (w.setCell ⟨b, i % 64, none⟩ (.int .i64 (x : Int))) ph slots n e (updP pl i x) v gp cp bs := by
 have hk : i / 64 < (slots + 63) / 64 := by omega
 have hm : i = i / 64 * 64 + i % 64 := by omega
 obtain ⟨a1, a2, a3⟩ := h.ap4 _ _ hk hb
 refine ⟨h.hd.other _ _ (fun e => a1 e.symm), ownsRow_other h.items _ _ a3, h.dir.other _ _ (fun e => a2 e.symm), fun k b' hk' hb' => ?_, fun k hk' hb' j hj => ?_, h.le, h.nb, fun j => ?_, h.ap1, h.ap2, h.ap3, h.ap4, h.ap5⟩
 {
 by_cases e1 : k = i / 64
 {
 subst e1
 rw [hb] at hb'; cases hb'
 have := (h.some_ _ _ hk hb).set (i % 64) (.int .i64 (x : Int))
 rw [blkC_set pl (i / 64) x (by omega), ← hm] at this
 exact this
 }
 {
 have := (h.some_ _ _ hk' hb').other ⟨b, i % 64, none⟩ (.int .i64 (x : Int)) (fun e => e1 (h.ap5 _ _ _ hk' hk hb' (by rw [hb]; exact congrArg some e.symm)))
 rw [blkC_congr (pl := pl) (pl' := updP pl i x) (k := k) (fun j hj => (updP_other (by omega)).symm)] at this
 exact this
 }
 }
 {
 have e1 : k ≠ i / 64 := by rintro rfl; rw [hb] at hb'; cases hb'
 rw [updP_other (by omega)]
 exact h.none_ k hk' hb' j hj
 }
 {
 unfold updP; split
 · exact hx
 · exact h.pb j
 }
theorem HM.more (h : HM w ph slots n e pl v gp cp bs) {k b : Nat} (hk : k < (slots + 63) / 64) (hb : bs k = none) (hw : w.heap.size = b) :
    HM ((w.alloc (.cells #[.int .i64 0, .int .i64 0, .int .i64 0, .int .i64 0, .int .i64 0, .int .i64 0, .int .i64 0, .int .i64 0, .int .i64 0, .int .i64 0, .int .i64 0, .int .i64 0, .int .i64 0, .int .i64 0, .int .i64 0, .int .i64 0, .int .i64 0, .int .i64 0, .int .i64 0, .int .i64 0, .int .i64 0, .int .i64 0, .int .i64 0, .int .i64 0, .int .i64 0, .int .i64 0, .int .i64 0, .int .i64 0, .int .i64 0, .int .i64 0, .int .i64 0, .int .i64 0, .int .i64 0, .int .i64 0, .int .i64 0, .int .i64 0, .int .i64 0, .int .i64 0, .int .i64 0, .int .i64 0, .int .i64 0, .int .i64 0, .int .i64 0, .int .i64 0, .int .i64 0, .int .i64 0, .int .i64 0, .int .i64 0, .int .i64 0, .int .i64 0, .int .i64 0, .int .i64 0, .int .i64 0, .int .i64 0, .int .i64 0, .int .i64 0, .int .i64 0, .int .i64 0, .int .i64 0, .int .i64 0, .int .i64 0, .int .i64 0, .int .i64 0, .int .i64 0] 221)).setCell ⟨gp, k, none⟩ (hptr b)) ph slots n e pl v gp cp (updB bs k b) := by
 subst hw
 have h1 := h.fr0 ((Fr.refl [] w).alloc (.cells #[.int .i64 0, .int .i64 0, .int .i64 0, .int .i64 0, .int .i64 0, .int .i64 0, .int .i64 0, .int .i64 0, .int .i64 0, .int .i64 0, .int .i64 0, .int .i64 0, .int .i64 0, .int .i64 0, .int .i64 0, .int .i64 0, .int .i64 0, .int .i64 0, .int .i64 0, .int .i64 0, .int .i64 0, .int .i64 0, .int .i64 0, .int .i64 0, .int .i64 0, .int .i64 0, .int .i64 0, .int .i64 0, .int .i64 0, .int .i64 0, .int .i64 0, .int .i64 0, .int .i64 0, .int .i64 0, .int .i64 0, .int .i64 0, .int .i64 0, .int .i64 0, .int .i64 0, .int .i64 0, .int .i64 0, .int .i64 0, .int .i64 0, .int .i64 0, .int .i64 0, .int .i64 0, .int .i64 0, .int .i64 0, .int .i64 0, .int .i64 0, .int .i64 0, .int .i64 0, .int .i64 0, .int .i64 0, .int .i64 0, .int .i64 0, .int .i64 0, .int .i64 0, .int .i64 0, .int .i64 0, .int .i64 0, .int .i64 0, .int .i64 0, .int .i64 0] 221))
 have hlt := h.lt
 have hnew := Blk.new w (blkC pl k) 221
 rw [blkC_zero (h.none_ k hk hb)] at hnew
 have e0 : (List.replicate 64 (Value.int .i64 0)).toArray = (#[.int .i64 0, .int .i64 0, .int .i64 0, .int .i64 0, .int .i64 0, .int .i64 0, .int .i64 0, .int .i64 0, .int .i64 0, .int .i64 0, .int .i64 0, .int .i64 0, .int .i64 0, .int .i64 0, .int .i64 0, .int .i64 0, .int .i64 0, .int .i64 0, .int .i64 0, .int .i64 0, .int .i64 0, .int .i64 0, .int .i64 0, .int .i64 0, .int .i64 0, .int .i64 0, .int .i64 0, .int .i64 0, .int .i64 0, .int .i64 0, .int .i64 0, .int .i64 0, .int .i64 0, .int .i64 0, .int .i64 0, .int .i64 0, .int .i64 0, .int .i64 0, .int .i64 0, .int .i64 0, .int .i64 0, .int .i64 0, .int .i64 0, .int .i64 0, .int .i64 0, .int .i64 0, .int .i64 0, .int .i64 0, .int .i64 0, .int .i64 0, .int .i64 0, .int .i64 0, .int .i64 0, .int .i64 0, .int .i64 0, .int .i64 0, .int .i64 0, .int .i64 0, .int .i64 0, .int .i64 0, .int .i64 0, .int .i64 0, .int .i64 0, .int .i64 0] : Array Value) := rfl
 rw [e0] at hnew
 have hgl := h.dir.lt
 have hpl := h.hd.lt
 refine ⟨h1.hd.other _ _ h.ap1, ownsRow_other h1.items _ _ h.ap3, ?_, fun j b' hj hb' => ?_, fun j hj hb' => ?_, h.le, h.nb, h.pb, h.ap1, h.ap2, h.ap3, fun j b' hj hb' => ?_, fun j j' b' hj hj' hb' hb2 => ?_⟩
 {
 have := h1.dir.set k (hptr w.heap.size)
 have e1 : ((List.range ((slots + 63) / 64)).map fun x => optP (bs x)).set k (hptr w.heap.size) = (List.range ((slots + 63) / 64)).map fun x => optP (updB bs k w.heap.size x) := by {
 apply List.ext_getElem?
 intro j
 by_cases hj : j < (slots + 63) / 64
 {
 by_cases e2 : j = k
 · subst e2; rw [List.getElem?_set_self (by simpa using hj)]; simp [hj, updB_same, optP]
 · rw [List.getElem?_set_ne (by omega)]; simp [hj, updB_other e2]
 }
 · rw [List.getElem?_eq_none (by simp; omega), List.getElem?_eq_none (by simp; omega)]
 }
 rw [e1] at this; exact this
 }
 {
 by_cases e2 : j = k
 {
 subst e2
 rw [updB_same] at hb'; cases hb'
 rw [blkC_zero (h.none_ j hk hb)]
 exact hnew.other _ _ (by simp; omega)
 }
 {
 rw [updB_other e2] at hb'
 exact (h1.some_ j b' hj hb').other _ _ (h.ap4 j b' hj hb').2.1
 }
 }
 {
 have e2 : j ≠ k := by rintro rfl; rw [updB_same] at hb'; cases hb'
 rw [updB_other e2] at hb'
 exact h.none_ j hj hb'
 }
 {
 by_cases e2 : j = k
 {
 subst e2
 rw [updB_same] at hb'; cases hb'
 refine ⟨by omega, by omega, fun e3 => ?_⟩
 have := (h.items.lt _ e3).2; omega
 }
 · rw [updB_other e2] at hb'; exact h.ap4 j b' hj hb'
 }
 {
 by_cases e2 : j = k
 {
 by_cases e3 : j' = k
 · omega
 {
 rw [updB_other e3] at hb2
 subst e2; rw [updB_same] at hb'; cases hb'
 have := (h.some_ j' _ hj' hb2).lt; omega
 }
 }
 {
 rw [updB_other e2] at hb'
 by_cases e3 : j' = k
 {
 subst e3; rw [updB_same] at hb2; cases hb2
 have := (h.some_ j _ hj hb').lt; omega
 }
 {
 rw [updB_other e3] at hb2
 exact h.ap5 j j' b' hj hj' hb' hb2
 }
 }
 }
theorem hB_more {k b : Nat} : ∀ q ∈ hB slots ph v gp (updB bs k b), q ∈ hB slots ph v gp bs ∨ q = b := by
 intro q hq
 rcases mem_hB.1 hq with h | h | h | ⟨j, hj, h⟩
 · exact .inl (mem_hB.2 (.inl h))
 · exact .inl (mem_hB.2 (.inr (.inl h)))
 · exact .inl (mem_hB.2 (.inr (.inr (.inl h))))
 {
 by_cases e : j = k
 · subst e; rw [updB_same] at h; cases h; exact .inr rfl
 · rw [updB_other e] at h; exact .inl (mem_hB.2 (.inr (.inr (.inr ⟨j, hj, h⟩))))
 }
theorem put_w (h : HM w ph slots n e pl v gp cp bs) {i x : Nat} (hi : i < slots) (hx : x ≤ 65536) (p : Int) (hp : p + 1 = x) :
    Calls Tryz.prog 176 #[hptr ph, .int .i64 i, .int .i64 p] w fun e' w' => e' = .returned (.tuple #[]) ∧ ∃ bs', HM w' ph slots n e (updP pl i x) v gp cp bs' ∧ Fr (hB slots ph v gp bs) w w' ∧ ∀ q ∈ hB slots ph v gp bs', q ∈ hB slots ph v gp bs ∨ w.heap.size ≤ q := by
 have hle := h.le
 have hk : i / 64 < (slots + 63) / 64 := by omega
 have c3 := h.hd.cell 3
 simp only [List.getElem?_cons_zero, List.getElem?_cons_succ] at c3
 have hd := h.dirAt hk
 have hi6 : i < 65536 := by omega
 have hgz := h.dir.frozen (i / 64)
 have HX : Hid (.int .i64 (p + 1) = (.int .i64 (x : Int) : Value)) := Lib.hid (by rw [hp])
 have hp2 : p < 9223372036854775807 := by omega
 have hp1 : -9223372036854775808 ≤ p := by omega
 clear hp
 cases hb : bs (i / 64) with
 | some b => {
 rw [hb] at hd
 simp only [optP, Option.map_some] at hd
 have h0 := (h.some_ _ _ hk hb).cell (i % 64)
 have hz := (h.some_ _ _ hk hb).frozen (i % 64)
 rw [blkC_at pl (i / 64) (by omega)] at h0
 have HN := Lib.hid (h.note hi hb hx)
 have HF : Hid (Fr (hB slots ph v gp bs) w (w.setCell ⟨b, i % 64, none⟩ (.int .i64 (x : Int)))) := Lib.hid ((Fr.refl _ w).setCell _ _ (.inl (mem_hB.2 (.inr (.inr (.inr ⟨_, hk, hb⟩))))))
 clear h hb hle
 rw [← HX.out] at HN HF
 generalize (slots + 63) / 64 = m at *
 go_enter Tryz.func176, Tryz.ntmps176
 go_wp2
 go_end0
 exact ⟨rfl, bs, HN.out, HF.out, fun q hq => .inl hq⟩
 }
 | none => {
 rw [hb] at hd
 simp only [optP, Option.map_none] at hd
 have hM := h.more hk hb rfl
 have c3' := hM.hd.cell 3
 simp only [List.getElem?_cons_zero, List.getElem?_cons_succ] at c3'
 have hd' := hM.dirAt hk
 rw [updB_same] at hd'
 simp only [optP, Option.map_some] at hd'
 have h0 := (hM.some_ _ _ hk (updB_same _ _ _)).cell (i % 64)
 have hz := (hM.some_ _ _ hk (updB_same _ _ _)).frozen (i % 64)
 rw [blkC_at pl (i / 64) (by omega)] at h0
 have HN := Lib.hid (hM.note hi (updB_same _ _ _) hx)
 have hF1 : Fr (hB slots ph v gp bs) w ((w.alloc (.cells #[.int .i64 0, .int .i64 0, .int .i64 0, .int .i64 0, .int .i64 0, .int .i64 0, .int .i64 0, .int .i64 0, .int .i64 0, .int .i64 0, .int .i64 0, .int .i64 0, .int .i64 0, .int .i64 0, .int .i64 0, .int .i64 0, .int .i64 0, .int .i64 0, .int .i64 0, .int .i64 0, .int .i64 0, .int .i64 0, .int .i64 0, .int .i64 0, .int .i64 0, .int .i64 0, .int .i64 0, .int .i64 0, .int .i64 0, .int .i64 0, .int .i64 0, .int .i64 0, .int .i64 0, .int .i64 0, .int .i64 0, .int .i64 0, .int .i64 0, .int .i64 0, .int .i64 0, .int .i64 0, .int .i64 0, .int .i64 0, .int .i64 0, .int .i64 0, .int .i64 0, .int .i64 0, .int .i64 0, .int .i64 0, .int .i64 0, .int .i64 0, .int .i64 0, .int .i64 0, .int .i64 0, .int .i64 0, .int .i64 0, .int .i64 0, .int .i64 0, .int .i64 0, .int .i64 0, .int .i64 0, .int .i64 0, .int .i64 0, .int .i64 0, .int .i64 0] 221)).setCell ⟨gp, i / 64, none⟩ (hptr w.heap.size)) := ((Fr.refl _ w).alloc _).setCell _ _ (.inl (by simp [hB]))
 have HF : Hid (Fr (hB slots ph v gp bs) w (((w.alloc (.cells #[.int .i64 0, .int .i64 0, .int .i64 0, .int .i64 0, .int .i64 0, .int .i64 0, .int .i64 0, .int .i64 0, .int .i64 0, .int .i64 0, .int .i64 0, .int .i64 0, .int .i64 0, .int .i64 0, .int .i64 0, .int .i64 0, .int .i64 0, .int .i64 0, .int .i64 0, .int .i64 0, .int .i64 0, .int .i64 0, .int .i64 0, .int .i64 0, .int .i64 0, .int .i64 0, .int .i64 0, .int .i64 0, .int .i64 0, .int .i64 0, .int .i64 0, .int .i64 0, .int .i64 0, .int .i64 0, .int .i64 0, .int .i64 0, .int .i64 0, .int .i64 0, .int .i64 0, .int .i64 0, .int .i64 0, .int .i64 0, .int .i64 0, .int .i64 0, .int .i64 0, .int .i64 0, .int .i64 0, .int .i64 0, .int .i64 0, .int .i64 0, .int .i64 0, .int .i64 0, .int .i64 0, .int .i64 0, .int .i64 0, .int .i64 0, .int .i64 0, .int .i64 0, .int .i64 0, .int .i64 0, .int .i64 0, .int .i64 0, .int .i64 0, .int .i64 0] 221)).setCell ⟨gp, i / 64, none⟩ (hptr w.heap.size)).setCell ⟨w.heap.size, i % 64, none⟩ (.int .i64 (x : Int)))) := Lib.hid (hF1.setCell _ _ (.inr (Nat.le_refl _)))
 have c3a : (w.alloc (.cells #[.int .i64 0, .int .i64 0, .int .i64 0, .int .i64 0, .int .i64 0, .int .i64 0, .int .i64 0, .int .i64 0, .int .i64 0, .int .i64 0, .int .i64 0, .int .i64 0, .int .i64 0, .int .i64 0, .int .i64 0, .int .i64 0, .int .i64 0, .int .i64 0, .int .i64 0, .int .i64 0, .int .i64 0, .int .i64 0, .int .i64 0, .int .i64 0, .int .i64 0, .int .i64 0, .int .i64 0, .int .i64 0, .int .i64 0, .int .i64 0, .int .i64 0, .int .i64 0, .int .i64 0, .int .i64 0, .int .i64 0, .int .i64 0, .int .i64 0, .int .i64 0, .int .i64 0, .int .i64 0, .int .i64 0, .int .i64 0, .int .i64 0, .int .i64 0, .int .i64 0, .int .i64 0, .int .i64 0, .int .i64 0, .int .i64 0, .int .i64 0, .int .i64 0, .int .i64 0, .int .i64 0, .int .i64 0, .int .i64 0, .int .i64 0, .int .i64 0, .int .i64 0, .int .i64 0, .int .i64 0, .int .i64 0, .int .i64 0, .int .i64 0, .int .i64 0] 221)).cell? ⟨ph, 3, none⟩ = some (.slice (some ⟨gp, 0, none⟩) ((slots + 63) / 64) cp) := ((Fr.refl [] w).alloc _).cell c3 (by simp)
 have hda : (w.alloc (.cells #[.int .i64 0, .int .i64 0, .int .i64 0, .int .i64 0, .int .i64 0, .int .i64 0, .int .i64 0, .int .i64 0, .int .i64 0, .int .i64 0, .int .i64 0, .int .i64 0, .int .i64 0, .int .i64 0, .int .i64 0, .int .i64 0, .int .i64 0, .int .i64 0, .int .i64 0, .int .i64 0, .int .i64 0, .int .i64 0, .int .i64 0, .int .i64 0, .int .i64 0, .int .i64 0, .int .i64 0, .int .i64 0, .int .i64 0, .int .i64 0, .int .i64 0, .int .i64 0, .int .i64 0, .int .i64 0, .int .i64 0, .int .i64 0, .int .i64 0, .int .i64 0, .int .i64 0, .int .i64 0, .int .i64 0, .int .i64 0, .int .i64 0, .int .i64 0, .int .i64 0, .int .i64 0, .int .i64 0, .int .i64 0, .int .i64 0, .int .i64 0, .int .i64 0, .int .i64 0, .int .i64 0, .int .i64 0, .int .i64 0, .int .i64 0, .int .i64 0, .int .i64 0, .int .i64 0, .int .i64 0, .int .i64 0, .int .i64 0, .int .i64 0, .int .i64 0] 221)).cell? ⟨gp, i / 64, none⟩ = some (.pointer none) := ((Fr.refl [] w).alloc _).cell hd (by simp)
 have hza : (w.alloc (.cells #[.int .i64 0, .int .i64 0, .int .i64 0, .int .i64 0, .int .i64 0, .int .i64 0, .int .i64 0, .int .i64 0, .int .i64 0, .int .i64 0, .int .i64 0, .int .i64 0, .int .i64 0, .int .i64 0, .int .i64 0, .int .i64 0, .int .i64 0, .int .i64 0, .int .i64 0, .int .i64 0, .int .i64 0, .int .i64 0, .int .i64 0, .int .i64 0, .int .i64 0, .int .i64 0, .int .i64 0, .int .i64 0, .int .i64 0, .int .i64 0, .int .i64 0, .int .i64 0, .int .i64 0, .int .i64 0, .int .i64 0, .int .i64 0, .int .i64 0, .int .i64 0, .int .i64 0, .int .i64 0, .int .i64 0, .int .i64 0, .int .i64 0, .int .i64 0, .int .i64 0, .int .i64 0, .int .i64 0, .int .i64 0, .int .i64 0, .int .i64 0, .int .i64 0, .int .i64 0, .int .i64 0, .int .i64 0, .int .i64 0, .int .i64 0, .int .i64 0, .int .i64 0, .int .i64 0, .int .i64 0, .int .i64 0, .int .i64 0, .int .i64 0, .int .i64 0] 221)).frozen? ⟨gp, i / 64, none⟩ = false := (h.dir.alloc _).frozen (i / 64)
 clear h hb hle hM hF1
 rw [← HX.out] at HN HF
 generalize (slots + 63) / 64 = m at *
 go_enter Tryz.func176, Tryz.ntmps176
 go_wp2
 go_end0
 exact ⟨rfl, _, HN.out, HF.out, fun q hq => (hB_more q hq).imp (fun h => h) (fun h => by omega)⟩
 }
end
theorem swp_upd (e : Nat → Nat × Int) (p q : Nat) : updE (updE e p (e q)) q (e p) = swpE e p q := by
 funext x
 unfold updE swpE
 by_cases h1 : x = p
 {
 by_cases h2 : x = q
 · rw [if_pos h2, if_pos h1]; rw [← h1, ← h2]
 · rw [if_neg h2, if_pos h1, if_pos h1]
 }
 {
 by_cases h2 : x = q
 · rw [if_pos h2, if_neg h1, if_pos h2]
 · rw [if_neg h2, if_neg h1, if_neg h1, if_neg h2]
 }
section
variable {w w' : World} {ph slots n : Nat} {e : Nat → Nat × Int} {pl : Nat → Nat} {v : Value} {gp cp : Nat} {bs : Nat → Option Nat}
theorem HM.st {g cap : Nat} (h : HM w ph slots n e pl (.slice (some ⟨g, 0, none⟩) n cap) gp cp bs) {p : Nat} (hp : p < n) (x : Nat × Int) :
    HM ((w.setCell ⟨g, p * 2, none⟩ (.int .i64 (x.1 : Int))).setCell ⟨g, p * 2 + 1, none⟩ (.int .i64 x.2)) ph slots n (updE e p x) pl (.slice (some ⟨g, 0, none⟩) n cap) gp cp bs := by
 have a2 := h.ap2
 have a3 := h.ap3
 simp only [Value.ownBlock, ne_eq, Option.some.injEq] at a2 a3
 refine ⟨(h.hd.other _ _ (fun e => a2 e.symm)).other _ _ (fun e => a2 e.symm), ?_, (h.dir.other _ _ (fun e => a3 e.symm)).other _ _ (fun e => a3 e.symm), fun k b hk hb => ?_, h.none_, h.le, h.nb, h.pb, h.ap1, h.ap2, h.ap3, h.ap4, h.ap5⟩
 {
 have := ownsRow_setK (i := p * 2 + 1) (ownsRow_setK (i := p * 2) h.items (.int .i64 (x.1 : Int))) (.int .i64 x.2)
 rw [entC_set hp] at this
 exact this
 }
 {
 have a4 := (h.ap4 k b hk hb).2.2
 simp only [Value.ownBlock, ne_eq, Option.some.injEq] at a4
 exact ((h.some_ k b hk hb).other _ _ (fun e => a4 e.symm)).other _ _ (fun e => a4 e.symm)
 }
theorem swap_w (h : HM w ph slots n e pl v gp cp bs) {p q : Nat} (hp : p < n) (hq : q < n) (hlt : ∀ x, x < n → (e x).1 < slots) :
    Calls Tryz.prog 175 #[hptr ph, .int .i64 p, .int .i64 q] w fun e' w' => e' = .returned (.tuple #[]) ∧ ∃ bs', HM w' ph slots n (swpE e p q) (updP (updP pl (e q).1 (p + 1)) (e p).1 (q + 1)) v gp cp bs' ∧
      Fr (hB slots ph v gp bs) w w' ∧ ∀ b ∈ hB slots ph v gp bs', b ∈ hB slots ph v gp bs ∨ w.heap.size ≤ b := by
 have hnb := h.nb
 have c2 := h.hd.cell 2
 simp only [List.getElem?_cons_zero, List.getElem?_cons_succ] at c2
 obtain ⟨g, cap, rfl, _, hgl, p0, p1, fz⟩ := ent_at h.items hp
 obtain ⟨g', cap', e1, _, _, q0, q1, _⟩ := ent_at h.items hq
 simp only [Value.slice.injEq, Option.some.injEq, Addr.mk.injEq, and_true, true_and] at e1
 obtain ⟨rfl, rfl⟩ := e1
 have fzp0 := fz (p * 2)
 have fzp1 := fz (p * 2 + 1)
 have hp1 : (p : Int) < n := by omega
 have hq1 : (q : Int) < n := by omega
 have hp0 : (0 : Int) ≤ p := by omega
 have hq0 : (0 : Int) ≤ q := by omega
 have hmem : g ∈ hB slots ph (.slice (some ⟨g, 0, none⟩) n cap) gp bs := by simp [hB, Value.ownBlock]
 have Hlt := Lib.hid (And.intro (hlt p hp) (hlt q hq)); clear hlt
 have HH := Lib.hid h
 clear h fz
 go_enter Tryz.func175, Tryz.ntmps175
 go_wp2
 refine region_many [25, 27] [9] (fun k w' => match k with
   | 0 => ∃ m, w' = w.drewN m
   | 1 => HM w' ph slots n (updE e p (e q)) pl (.slice (some ⟨g, 0, none⟩) n cap) gp cp bs ∧ Fr (hB slots ph (.slice (some ⟨g, 0, none⟩) n cap) gp bs) w w'
   | _ => HM w' ph slots n (swpE e p q) pl (.slice (some ⟨g, 0, none⟩) n cap) gp cp bs ∧ Fr (hB slots ph (.slice (some ⟨g, 0, none⟩) n cap) gp bs) w w') (fun w' => Iff.rfl) (by kernel_rfl) (by kernel_rfl) (by kernel_rfl) ?_
 iterate 9 (refine mWalk_pre (by decide) (fun K hK => ?_); go_simp; refine hK _ ?_; clear hK K)
 refine mWalk_post (by decide) (fun K hK => ?_); go_simp; refine hK _ ?_; clear hK K
 iterate 15 (refine mWalk_pre (by decide) (fun K hK => ?_); go_simp; refine hK _ ?_; clear hK K)
 refine mWalk_write (q := 0) (by decide) rfl undef (fun w' hw' => ?_) ?_
 {
 obtain ⟨nq, rfl⟩ := hw'
 go_simp
 exact ⟨(HH.out.fr0 ((Fr.refl _ _).drewN nq)).st hp (e q), (((Fr.refl _ w).drewN nq).setCell _ _ (.inl hmem)).setCell _ _ (.inl hmem)⟩
 }
 iterate 1 (refine mWalk_post (by decide) (fun K hK => ?_); go_simp; refine hK _ ?_; clear hK K)
 refine mWalk_write (q := 1) (by decide) rfl undef (fun w' hw' => ?_) ?_
 {
 obtain ⟨hA, hB'⟩ := hw'
 obtain ⟨g', cap', e1, _, _, b0, b1, fz'⟩ := ent_at hA.items hq
 simp only [Value.slice.injEq, Option.some.injEq, Addr.mk.injEq, and_true, true_and] at e1
 obtain ⟨rfl, rfl⟩ := e1
 have fzq0 := fz' (q * 2)
 have fzq1 := fz' (q * 2 + 1)
 clear fz'
 go_simp
 have h2 := hA.st hq (e p)
 rw [swp_upd] at h2
 exact ⟨h2, (hB'.setCell _ _ (.inl hmem)).setCell _ _ (.inl hmem)⟩
 }
 refine mWalk_nil ?_
 rintro w2 ⟨h2, f2⟩
 clear p0 p1 q0 q1 c2 fzp0 fzp1 HH
 have c2 := h2.hd.cell 2
 simp only [List.getElem?_cons_zero, List.getElem?_cons_succ] at c2
 obtain ⟨g', cap', e1, _, _, p0, _, _⟩ := ent_at h2.items hp
 simp only [Value.slice.injEq, Option.some.injEq, Addr.mk.injEq, and_true, true_and] at e1
 obtain ⟨rfl, rfl⟩ := e1
 rw [swpE_p] at p0
 have HP := Lib.hid (put_w h2 Hlt.out.2 (x := p + 1) (by omega) (p : Int) (by omega))
 have HF2 := Lib.hid f2; clear f2 h2
 go_wp2_with fail
 refine HP.out.mono ?_
 rintro _ w3 ⟨rfl, bs3, h3, f3, s3⟩
 have hs2 := HF2.out.size
 have HF3 := Lib.hid (HF2.out.trans' f3)
 have HS3 : Hid (∀ b ∈ hB slots ph (.slice (some ⟨g, 0, none⟩) n cap) gp bs3, b ∈ hB slots ph (.slice (some ⟨g, 0, none⟩) n cap) gp bs ∨ w.heap.size ≤ b) := Lib.hid (fun b hb => (s3 b hb).imp (fun h => h) (fun h => by omega))
 clear c2 p0 HP f3 s3
 have c2 := h3.hd.cell 2
 simp only [List.getElem?_cons_zero, List.getElem?_cons_succ] at c2
 obtain ⟨g', cap', e1, _, _, q0, _, _⟩ := ent_at h3.items hq
 simp only [Value.slice.injEq, Option.some.injEq, Addr.mk.injEq, and_true, true_and] at e1
 obtain ⟨rfl, rfl⟩ := e1
 rw [swpE_q] at q0
 have HP := Lib.hid (put_w h3 Hlt.out.1 (x := q + 1) (by omega) (q : Int) (by omega))
 clear h3
 go_wp2_with fail
 refine HP.out.mono ?_
 rintro _ w4 ⟨rfl, bs4, h4, f4, s4⟩
 have hs3 := HF3.out.size
 have H4 := Lib.hid (And.intro h4 (And.intro (HF3.out.trans f4 (fun b hb => HS3.out b hb)) (show ∀ b ∈ hB slots ph (.slice (some ⟨g, 0, none⟩) n cap) gp bs4, b ∈ hB slots ph (.slice (some ⟨g, 0, none⟩) n cap) gp bs ∨ w.heap.size ≤ b from fun b hb => (s4 b hb).elim (HS3.out b) (fun h => .inr (by omega)))))
 clear h4 f4 s4
 go_wp2
 go_end0
 exact ⟨rfl, bs4, H4.out⟩
end
def abvI (e : Nat → Nat × Int) (p : Nat) : Int := if 0 < p ∧ elt (e p) (e ((p - 1) / 2)) then ((p - 1) / 2 : Nat) else -1
def blwI (n : Nat) (e : Nat → Nat × Int) (p : Nat) : Int := if blw n e p = p then -1 else (blw n e p : Nat)
def fstK (n : Nat) (e : Nat → Nat × Int) (p k : Nat) : Nat := if k = 0 then p else if k = 1 then blw1 n e p else blw n e p
theorem fstK_0 (n : Nat) (e : Nat → Nat × Int) (p : Nat) : fstK n e p 0 = p := by simp [fstK]
theorem fstK_1 (n : Nat) (e : Nat → Nat × Int) (p : Nat) : fstK n e p 1 = blw1 n e p := by simp [fstK]
theorem fstK_2 (n : Nat) (e : Nat → Nat × Int) (p : Nat) : fstK n e p 2 = blw n e p := by simp [fstK]
theorem fstK_yes {n : Nat} {e : Nat → Nat × Int} {p k q : Nat} (hk : k < 2) (hq : q = 2 * p + 1 + k) (h : q < n ∧ elt (e q) (e (fstK n e p k))) : fstK n e p (k + 1) = q := by
 subst hq
 rcases (show k = 0 ∨ k = 1 by omega) with rfl | rfl
 · rw [fstK_0] at h; rw [fstK_1]; unfold blw1; rw [if_pos h]
 · rw [fstK_1] at h; rw [fstK_2]; unfold blw; rw [if_pos h]
theorem fstK_no {n : Nat} {e : Nat → Nat × Int} {p k q : Nat} (hk : k < 2) (hq : q = 2 * p + 1 + k) (h : ¬ (q < n ∧ elt (e q) (e (fstK n e p k)))) : fstK n e p (k + 1) = fstK n e p k := by
 subst hq
 rcases (show k = 0 ∨ k = 1 by omega) with rfl | rfl
 · rw [fstK_0] at h ⊢; rw [fstK_1]; unfold blw1; rw [if_neg h]
 · rw [fstK_1] at h ⊢; rw [fstK_2]; unfold blw; rw [if_neg h]
theorem fstK_lt {n : Nat} {e : Nat → Nat × Int} {p k : Nat} (hp : p < n) (hk : k ≤ 2) : fstK n e p k < n := by
 induction k with
 | zero => rw [fstK_0]; exact hp
 | succ k ih => {
 by_cases h : 2 * p + 1 + k < n ∧ elt (e (2 * p + 1 + k)) (e (fstK n e p k))
 · rw [fstK_yes (by omega) rfl h]; exact h.1
 · rw [fstK_no (by omega) rfl h]; exact ih (by omega)
 }
section
variable {w w' : World} {ph slots n : Nat} {e : Nat → Nat × Int} {pl : Nat → Nat} {v : Value} {gp cp : Nat} {bs : Nat → Option Nat}
theorem above_w (h : HM w ph slots n e pl v gp cp bs) {p : Nat} (hp : p < n) :
    Calls Tryz.prog 205 #[hptr ph, .int .i64 p] w fun e' w' => e' = .returned (.int .i64 (abvI e p)) ∧ Fr [] w w' := by
 have hnb := h.nb
 have c2 := h.hd.cell 2
 simp only [List.getElem?_cons_zero, List.getElem?_cons_succ] at c2
 by_cases h0 : p = 0
 {
 subst h0
 have e1 : abvI e 0 = -1 := by unfold abvI; rw [if_neg (by omega)]
 rw [e1]; clear e1 h
 have t1 : decide (((0 : Nat) : Int) > 0) = false := by decide
 have t1' : decide ((0 : Int) > 0) = false := by decide
 go_enter Tryz.func205, Tryz.ntmps205
 go_wp2
 go_quiet (fail)
 go_wp2
 go_ret
 exact ⟨rfl, (Fr.refl _ _).drewN _⟩
 }
 {
 obtain ⟨q, hq⟩ : ∃ q, q = (p - 1) / 2 := ⟨_, rfl⟩
 have hqi : ((p : Int) - 1) / 2 = (q : Int) := by omega
 have hqn : q < n := by omega
 obtain ⟨g, cap, rfl, _, hgl, p0, p1, _⟩ := ent_at h.items hp
 obtain ⟨g', cap', e1, _, _, q0, q1, _⟩ := ent_at h.items hqn
 simp only [Value.slice.injEq, Option.some.injEq, Addr.mk.injEq, and_true, true_and] at e1
 obtain ⟨rfl, rfl⟩ := e1
 have HO := Lib.hid (fun W => order_w (e p) (e q) W)
 have hp1 : (p : Int) < n := by omega
 have hq1 : (q : Int) < n := by omega
 have hp0 : (0 : Int) ≤ p := by omega
 have hq0 : (0 : Int) ≤ q := by omega
 have t1 : decide (0 < p) = true := decide_eq_true (by omega)
 have hcase : (ordI (e p) (e q) < 0 ∧ abvI e p = q) ∨ (¬ ordI (e p) (e q) < 0 ∧ abvI e p = -1) := by {
 rw [ordI_lt]
 unfold abvI
 rw [← hq]
 by_cases hl : elt (e p) (e q)
 · exact .inl ⟨hl, by rw [if_pos ⟨by omega, hl⟩]⟩
 · exact .inr ⟨hl, by rw [if_neg (fun h => hl h.2)]⟩
 }
 have HQ := Lib.hid hq; clear hq h
 generalize ordI (e p) (e q) = r at *
 generalize e p = x at *
 generalize e q = y at *
 obtain ⟨x1, x2⟩ := x
 obtain ⟨y1, y2⟩ := y
 rcases hcase with ⟨hr, ha⟩ | ⟨hr, ha⟩
 {
 have t2 : decide (r < 0) = true := decide_eq_true hr
 have HA := Lib.hid ha; clear ha hr
 go_enter Tryz.func205, Tryz.ntmps205
 go_wp2
 go_region_held3 (fun w' => w'.cell? ⟨ph, 2, none⟩ = some (.slice (some ⟨g, 0, none⟩) n cap) ∧ w'.cell? ⟨g, p * 2, none⟩ = some (.int .i64 x1) ∧ w'.cell? ⟨g, p * 2 + 1, none⟩ = some (.int .i64 x2) ∧ w'.cell? ⟨g, q * 2, none⟩ = some (.int .i64 y1) ∧ w'.cell? ⟨g, q * 2 + 1, none⟩ = some (.int .i64 y2))
   (first
     | go_keep
     | (exact ⟨hF3.cell (by assumption) (by simp), hF3.cell (by assumption) (by simp), hF3.cell (by assumption) (by simp), hF3.cell (by assumption) (by simp), hF3.cell (by assumption) (by simp)⟩))
   (first
     | (go_at_call 224; refine (HO.out _).mono ?_; rintro e w3 ⟨rfl, hF3⟩))
 go_wp2
 go_ret
 exact ⟨by rw [HA.out]; rfl, ((Fr.refl [] w).drew).trans' hF3⟩
 }
 {
 have t2 : decide (r < 0) = false := decide_eq_false hr
 have HA := Lib.hid ha; clear ha hr
 go_enter Tryz.func205, Tryz.ntmps205
 go_wp2
 go_region_held3 (fun w' => w'.cell? ⟨ph, 2, none⟩ = some (.slice (some ⟨g, 0, none⟩) n cap) ∧ w'.cell? ⟨g, p * 2, none⟩ = some (.int .i64 x1) ∧ w'.cell? ⟨g, p * 2 + 1, none⟩ = some (.int .i64 x2) ∧ w'.cell? ⟨g, q * 2, none⟩ = some (.int .i64 y1) ∧ w'.cell? ⟨g, q * 2 + 1, none⟩ = some (.int .i64 y2))
   (first
     | go_keep
     | (exact ⟨hF3.cell (by assumption) (by simp), hF3.cell (by assumption) (by simp), hF3.cell (by assumption) (by simp), hF3.cell (by assumption) (by simp), hF3.cell (by assumption) (by simp)⟩))
   (first
     | (go_at_call 224; refine (HO.out _).mono ?_; rintro e w3 ⟨rfl, hF3⟩))
 go_wp2
 go_ret
 exact ⟨by rw [HA.out]; rfl, ((Fr.refl [] w).drew).trans' hF3⟩
 }
 }
theorem below_w (h : HM w ph slots n e pl v gp cp bs) {p : Nat} (hp : p < n) :
    Calls Tryz.prog 206 #[hptr ph, .int .i64 p] w fun e' w' => e' = .returned (.int .i64 (blwI n e p)) ∧ Fr [] w w' := by
 have hnb := h.nb
 have c2 := h.hd.cell 2
 simp only [List.getElem?_cons_zero, List.getElem?_cons_succ] at c2
 obtain ⟨g, cap, rfl, _, hgl, _, _, _⟩ := ent_at h.items hp
 have HE : Hid (∀ (W : World) (x : Nat), Fr [] w W → x < n → W.cell? ⟨g, x * 2, none⟩ = some (.int .i64 ((e x).1 : Int)) ∧ W.cell? ⟨g, x * 2 + 1, none⟩ = some (.int .i64 (e x).2)) := Lib.hid (fun W x hf hx => by
   obtain ⟨g', cap', e1, _, _, q0, q1, _⟩ := ent_at (h.fr0 hf).items hx
   simp only [Value.slice.injEq, Option.some.injEq, Addr.mk.injEq, and_true, true_and] at e1
   obtain ⟨rfl, rfl⟩ := e1
   exact ⟨q0, q1⟩)
 have HC : Hid (∀ (W : World), Fr [] w W → W.cell? ⟨ph, 2, none⟩ = some (.slice (some ⟨g, 0, none⟩) n cap)) := Lib.hid (fun W hf => hf.cell c2 (by simp))
 have HO := Lib.hid (fun (a b : Nat × Int) (W : World) => order_w a b W)
 clear h c2
 go_enter Tryz.func206, Tryz.ntmps206
 go_wp2
 go_loopw [5, 9] (fun sf sk wr => ∃ k : Nat, k ≤ 2 ∧ sk = .int .i64 k ∧ sf = .int .i64 (fstK n e p k : Nat) ∧ Hid (Fr [] w wr)) (fun _ sk _ => 2 - (intOf sk).toNat)
 case atStart => exact ⟨0, by omega, rfl, by rw [fstK_0], Lib.hid (Fr.refl _ _)⟩
 case round =>
  obtain ⟨k, hk, rfl, rfl, HF⟩ := hrel
  have hfl := fstK_lt (e := e) hp hk
  by_cases hk2 : k < 2
  {
  obtain ⟨q, hq⟩ : ∃ q, q = 2 * p + 1 + k := ⟨_, rfl⟩
  have hqi : 2 * (p : Int) + 1 + (k : Int) = (q : Int) := by omega
  have hki : (k : Int) < 2 := by omega
  have Hy := Lib.hid (fun (h : q < n ∧ elt (e q) (e (fstK n e p k))) => fstK_yes hk2 hq h)
  have Hn := Lib.hid (fun (h : ¬ (q < n ∧ elt (e q) (e (fstK n e p k)))) => fstK_no hk2 hq h)
  have HQ := Lib.hid hq; clear hq
  have c2 := HC.out _ HF.out
  have hq0 : (0 : Int) ≤ q := by omega
  generalize hF1 : fstK n e p (k + 1) = f1 at *
  have HF1 := Lib.hid hF1; clear hF1
  generalize fstK n e p k = f0 at *
  have hf0 : (0 : Int) ≤ f0 := by omega
  have hf1 : (f0 : Int) < n := by omega
  by_cases hqn : q < n
  {
  have hqn1 : (q : Int) < n := by omega
  have t1 : decide (q < n) = true := decide_eq_true hqn
  obtain ⟨q0, q1⟩ := HE.out _ q HF.out hqn
  obtain ⟨p0, p1⟩ := HE.out _ f0 HF.out hfl
  have HO2 := Lib.hid (fun W => HO.out (e q) (e f0) W)
  have hcase : (ordI (e q) (e f0) < 0 ∧ f1 = q) ∨ (¬ ordI (e q) (e f0) < 0 ∧ f1 = f0) := by {
  rw [ordI_lt]
  by_cases hl : elt (e q) (e f0)
  · exact .inl ⟨hl, Hy.out ⟨hqn, hl⟩⟩
  · exact .inr ⟨hl, Hn.out (fun h => hl h.2)⟩
  }
  clear Hy Hn
  generalize ordI (e q) (e f0) = r at *
  generalize e q = x at *
  generalize e f0 = y at *
  obtain ⟨x1, x2⟩ := x
  obtain ⟨y1, y2⟩ := y
  rcases hcase with ⟨hr, ha⟩ | ⟨hr, ha⟩
  {
  have t2 : decide (r < 0) = true := decide_eq_true hr
  have HA := Lib.hid ha; clear ha hr
  go_wp2
  go_region_held3 (fun w' => w'.cell? ⟨ph, 2, none⟩ = some (.slice (some ⟨g, 0, none⟩) n cap) ∧ w'.cell? ⟨g, q * 2, none⟩ = some (.int .i64 x1) ∧ w'.cell? ⟨g, q * 2 + 1, none⟩ = some (.int .i64 x2) ∧ w'.cell? ⟨g, f0 * 2, none⟩ = some (.int .i64 y1) ∧ w'.cell? ⟨g, f0 * 2 + 1, none⟩ = some (.int .i64 y2))
    (first
      | go_keep
      | (exact ⟨hF3.cell (by assumption) (by simp), hF3.cell (by assumption) (by simp), hF3.cell (by assumption) (by simp), hF3.cell (by assumption) (by simp), hF3.cell (by assumption) (by simp)⟩))
    (first
      | (go_at_call 224; refine (HO2.out _).mono ?_; rintro e w3 ⟨rfl, hF3⟩))
  have HF3 := Lib.hid ((HF.out.drew).trans' hF3); clear hF3
  go_wp2
  go_roundw
  case rel => exact ⟨k + 1, by omega, by go_num, by rw [HF1.out, HA.out], HF3⟩
  case measure => simp [intOf]; omega
  }
  {
  have t2 : decide (r < 0) = false := decide_eq_false hr
  have HA := Lib.hid ha; clear ha hr
  go_wp2
  go_region_held3 (fun w' => w'.cell? ⟨ph, 2, none⟩ = some (.slice (some ⟨g, 0, none⟩) n cap) ∧ w'.cell? ⟨g, q * 2, none⟩ = some (.int .i64 x1) ∧ w'.cell? ⟨g, q * 2 + 1, none⟩ = some (.int .i64 x2) ∧ w'.cell? ⟨g, f0 * 2, none⟩ = some (.int .i64 y1) ∧ w'.cell? ⟨g, f0 * 2 + 1, none⟩ = some (.int .i64 y2))
    (first
      | go_keep
      | (exact ⟨hF3.cell (by assumption) (by simp), hF3.cell (by assumption) (by simp), hF3.cell (by assumption) (by simp), hF3.cell (by assumption) (by simp), hF3.cell (by assumption) (by simp)⟩))
    (first
      | (go_at_call 224; refine (HO2.out _).mono ?_; rintro e w3 ⟨rfl, hF3⟩))
  have HF3 := Lib.hid ((HF.out.drew).trans' hF3); clear hF3
  go_wp2
  go_roundw
  case rel => exact ⟨k + 1, by omega, by go_num, by rw [HF1.out, HA.out], HF3⟩
  case measure => simp [intOf]; omega
  }
  }
  {
  have t1 : decide (q < n) = false := decide_eq_false hqn
  have HA := Lib.hid (Hn.out (fun h => hqn h.1))
  clear Hy Hn hqn
  go_wp2
  go_quiet (fail)
  go_wp2
  go_roundw
  case rel => exact ⟨k + 1, by omega, by go_num, by rw [HF1.out, HA.out], Lib.hid (HF.out.drewN _)⟩
  case measure => simp [intOf]; omega
  }
  }
  {
  obtain rfl : k = 2 := by omega
  rw [fstK_2] at *
  have hres : (blw n e p = p ∧ blwI n e p = -1) ∨ (blw n e p ≠ p ∧ blwI n e p = (blw n e p : Nat)) := by {
  unfold blwI
  by_cases hb : blw n e p = p
  · exact .inl ⟨hb, by rw [if_pos hb]⟩
  · exact .inr ⟨hb, by rw [if_neg hb]⟩
  }
  generalize blw n e p = b at *
  rcases hres with ⟨hb, hr⟩ | ⟨hb, hr⟩
  {
  have t1 : ((b : Int) == (p : Int)) = true := by simp; omega
  have HR := Lib.hid hr; clear hr hb
  go_wp2
  go_ret
  exact ⟨by rw [HR.out]; rfl, HF.out⟩
  }
  {
  have t1 : ((b : Int) == (p : Int)) = false := by simp; omega
  have HR := Lib.hid hr; clear hr hb
  go_wp2
  go_ret
  exact ⟨by rw [HR.out]; rfl, HF.out⟩
  }
  }
end
structure Sft (W w : World) (ph slots n : Nat) (e0 e : Nat → Nat × Int) (pl : Nat → Nat) (v : Value) (gp cp : Nat) (bs0 bs : Nat → Option Nat) (b1 b2 p : Nat) : Prop where
  hm : HM w ph slots n e pl v gp cp bs
  ok : PlOK slots n e pl
  mem : ∀ y, (∃ x, x < n ∧ e x = y) ↔ ∃ x, x < n ∧ e0 x = y
  c1 : Blk w b1 122 [hptr ph]
  c2 : Blk w b2 3 [.int .i64 p]
  a1 : b1 ∉ hB slots ph v gp bs
  a2 : b2 ∉ hB slots ph v gp bs
  a12 : b1 ≠ b2
  fr : Fr (b2 :: hB slots ph v gp bs0) W w
  new : ∀ b ∈ hB slots ph v gp bs, b ∈ hB slots ph v gp bs0 ∨ W.heap.size ≤ b
  lt : p < n
section
variable {W w w' : World} {ph slots n : Nat} {e0 e : Nat → Nat × Int} {pl : Nat → Nat} {v : Value} {gp cp : Nat} {bs0 bs : Nat → Option Nat} {b1 b2 p : Nat}
theorem Sft.keep (h : Sft W w ph slots n e0 e pl v gp cp bs0 bs b1 b2 p) (hf : Fr [] w w') : Sft W w' ph slots n e0 e pl v gp cp bs0 bs b1 b2 p :=
  ⟨h.hm.fr0 hf, h.ok, h.mem, hf.blk h.c1 (by simp), hf.blk h.c2 (by simp), h.a1, h.a2, h.a12, h.fr.trans' (hf.mono (by simp)), h.new, h.lt⟩
theorem Sft.step (h : Sft W w ph slots n e0 e pl v gp cp bs0 bs b1 b2 p) {q : Nat} (hq : q < n) {bs' : Nat → Option Nat} (hm : HM w' ph slots n (swpE e p q) (updP (updP pl (e q).1 (p + 1)) (e p).1 (q + 1)) v gp cp bs')
    (hf : Fr (hB slots ph v gp bs) w w') (hn : ∀ b ∈ hB slots ph v gp bs', b ∈ hB slots ph v gp bs ∨ w.heap.size ≤ b) :
    Sft W (w'.setCell ⟨b2, 0, none⟩ (.int .i64 (q : Int))) ph slots n e0 (swpE e p q) (updP (updP pl (e q).1 (p + 1)) (e p).1 (q + 1)) v gp cp bs0 bs' b1 b2 q := by
 have k1 := h.c1.lt
 have k2 := h.c2.lt
 have hs := hf.size
 have hs0 := h.fr.size
 have n1 : b1 ∉ hB slots ph v gp bs' := fun hm => (hn b1 hm).elim h.a1 (fun e => by omega)
 have n2 : b2 ∉ hB slots ph v gp bs' := fun hm => (hn b2 hm).elim h.a2 (fun e => by omega)
 have hset : Fr [b2] w' (w'.setCell ⟨b2, 0, none⟩ (.int .i64 (q : Int))) := (Fr.refl _ _).setCell _ _ (.inl (by simp))
 refine ⟨hm.fr hset (fun b hb hm => ?_), h.ok.swap h.lt hq, fun y => (swpE_mem h.lt hq y).trans (h.mem y), (hf.blk h.c1 h.a1).other _ _ h.a12, ?_, n1, n2, h.a12, ?_, fun b hb => ?_, hq⟩
 · simp at hm; subst hm; exact n2 hb
 · have := (hf.blk h.c2 h.a2).set 0 (.int .i64 (q : Int)); exact this
 {
 refine (h.fr.trans hf (fun b hb => (h.new b hb).imp (fun e => List.mem_cons_of_mem _ e) (fun e => e))).trans' (hset.mono (fun b hb => .inl ?_))
 simp at hb; subst hb; exact List.mem_cons_self
 }
 {
 rcases hn b hb with e | e
 · exact h.new b e
 · exact .inr (by omega)
 }
def msd (n : Nat) : Value → Nat
  | .int _ x => if x < 0 then 0 else n - x.toNat
  | _ => 0
theorem msd_neg (n : Nat) : msd n (.int .i64 (-1)) = 0 := by simp [msd]
theorem msd_nat (n z : Nat) : msd n (.int .i64 (z : Int)) = n - z := by
 show (if (z : Int) < 0 then 0 else n - (z : Int).toNat) = n - z
 rw [if_neg (by omega)]; simp
theorem dn_lt (e : Nat → Nat × Int) {q : Nat} (_hq : q < n) : blw n e q = q ∨ (q < blw n e q ∧ blw n e q < n) := by
 rcases blw_cases n e q with h | ⟨h1, h2, _⟩
 · exact .inl h
 · exact .inr ⟨by omega, h1⟩
theorem sift_up (h : Sft W w ph slots n e0 e pl v gp cp bs0 bs b1 b2 p) (hu : UpI n e p) :
    Calls Tryz.prog 204 #[.func (.func 205) #[hptr ph] #[], hptr b2, hptr b1] w fun r w' => r = .returned (.tuple #[]) ∧ ∃ e' pl' bs' p', Sft W w' ph slots n e0 e' pl' v gp cp bs0 bs' b1 b2 p' ∧ Hp n e' := by
 have hnb := h.hm.nb
 have x1 := h.c1.cell 0
 have x2 := h.c2.cell 0
 simp only [List.getElem?_cons_zero] at x1 x2
 have HA := Lib.hid (above_w h.hm h.lt)
 have HS := Lib.hid (And.intro h hu)
 clear h hu
 go_enter Tryz.func204, Tryz.ntmps204
 go_wp2_with fail
 refine HA.out.mono ?_
 rintro _ w1 ⟨rfl, hf1⟩
 have HS1 := Lib.hid (And.intro (HS.out.1.keep hf1) HS.out.2)
 clear HS HA hf1 x1 x2
 go_wp2
 go_loopw [4] (fun sq wr => ∃ (e : Nat → Nat × Int) (pl : Nat → Nat) (bs : Nat → Option Nat) (p : Nat), sq = .int .i64 (abvI e p) ∧ Hid (Sft W wr ph slots n e0 e pl v gp cp bs0 bs b1 b2 p ∧ UpI n e p)) (fun s _ => (intOf s + 1).toNat)
 case atStart => exact ⟨e, pl, bs, p, rfl, HS1⟩
 case round =>
  clear HS1
  obtain ⟨e, pl, bs, p, rfl, HS⟩ := hrel
  have hplt := HS.out.1.lt
  by_cases hc : 0 < p ∧ elt (e p) (e ((p - 1) / 2))
  {
  obtain ⟨q, hq⟩ : ∃ q, q = (p - 1) / 2 := ⟨_, rfl⟩
  have hv : abvI e p = (q : Int) := by unfold abvI; rw [if_pos hc, ← hq]
  have hqn : q < n := by omega
  have hstep := up_step HS.out.2 hc.1 hplt hc.2
  rw [← hq] at hstep
  have HC := Lib.hid hc; clear hc hq
  have x1 := HS.out.1.c1.cell 0
  have x2 := HS.out.1.c2.cell 0
  simp only [List.getElem?_cons_zero] at x1 x2
  have HW := Lib.hid (swap_w HS.out.1.hm HS.out.1.lt hqn HS.out.1.ok.lt)
  have t1 : ((q : Int) != -1) = true := by simp
  have Hv := Lib.hid hv
  rw [hv]
  clear hv
  go_wp2_with fail
  refine HW.out.mono ?_
  rintro _ w2 ⟨rfl, bs2, hm2, hf2, hn2⟩
  have hS2 := HS.out.1.step hqn hm2 hf2 hn2
  have y1 := (hf2.blk HS.out.1.c1 HS.out.1.a1).cell 0
  have y2 := (hf2.blk HS.out.1.c2 HS.out.1.a2).cell 0
  have z2 := (hf2.blk HS.out.1.c2 HS.out.1.a2).frozen 0
  have u2 := hS2.c2.cell 0
  simp only [List.getElem?_cons_zero] at y1 y2 u2
  have HA2 := Lib.hid (above_w hS2.hm hS2.lt)
  have HS2 := Lib.hid (And.intro hS2 hstep)
  clear hm2 hf2 hn2 hS2 hstep HW x1 x2
  go_wp2_with fail
  refine HA2.out.mono ?_
  rintro _ w3 ⟨rfl, hf3⟩
  have HS3 := Lib.hid (And.intro (HS2.out.1.keep hf3) HS2.out.2)
  clear HS2 HA2 hf3 y1 y2 z2 u2
  go_wp2
  go_roundw
  case rel => exact ⟨_, _, _, q, rfl, HS3⟩
  case measure => (simp only [intOf]; unfold abvI; split <;> omega)
  }
  {
  have hv : abvI e p = -1 := by unfold abvI; rw [if_neg hc]
  have hdone := up_done HS.out.2 hc
  have HD := Lib.hid hdone
  clear hdone
  rw [hv]
  clear hv
  go_wp2
  go_end0
  exact ⟨rfl, e, pl, bs, p, HS.out.1, HD.out⟩
  }
theorem sift_dn (h : Sft W w ph slots n e0 e pl v gp cp bs0 bs b1 b2 p) (hu : DnI n e p) :
    Calls Tryz.prog 204 #[.func (.func 206) #[hptr ph] #[], hptr b2, hptr b1] w fun r w' => r = .returned (.tuple #[]) ∧ ∃ e' pl' bs' p', Sft W w' ph slots n e0 e' pl' v gp cp bs0 bs' b1 b2 p' ∧ Hp n e' := by
 have hnb := h.hm.nb
 have x1 := h.c1.cell 0
 have x2 := h.c2.cell 0
 simp only [List.getElem?_cons_zero] at x1 x2
 have HA := Lib.hid (below_w h.hm h.lt)
 have HS := Lib.hid (And.intro h hu)
 clear h hu
 go_enter Tryz.func204, Tryz.ntmps204
 go_wp2_with fail
 refine HA.out.mono ?_
 rintro _ w1 ⟨rfl, hf1⟩
 have HS1 := Lib.hid (And.intro (HS.out.1.keep hf1) HS.out.2)
 clear HS HA hf1 x1 x2
 go_wp2
 go_loopw [4] (fun sq wr => ∃ (e : Nat → Nat × Int) (pl : Nat → Nat) (bs : Nat → Option Nat) (p : Nat), sq = .int .i64 (blwI n e p) ∧ Hid (Sft W wr ph slots n e0 e pl v gp cp bs0 bs b1 b2 p ∧ DnI n e p)) (fun s _ => msd n s)
 case atStart => exact ⟨e, pl, bs, p, rfl, HS1⟩
 case round =>
  clear HS1
  obtain ⟨e, pl, bs, p, rfl, HS⟩ := hrel
  have hplt := HS.out.1.lt
  by_cases hc : blw n e p ≠ p
  {
  obtain ⟨q, hq⟩ : ∃ q, q = blw n e p := ⟨_, rfl⟩
  have hv : blwI n e p = (q : Int) := by unfold blwI; rw [if_neg hc, ← hq]
  obtain ⟨hstep, hpq, hqn⟩ := dn_step HS.out.2 hc
  rw [← hq] at hstep hpq hqn
  have HC := Lib.hid hc; clear hc hq
  have x1 := HS.out.1.c1.cell 0
  have x2 := HS.out.1.c2.cell 0
  simp only [List.getElem?_cons_zero] at x1 x2
  have HW := Lib.hid (swap_w HS.out.1.hm HS.out.1.lt hqn HS.out.1.ok.lt)
  have t1 : ((q : Int) != -1) = true := by simp
  have Hv := Lib.hid hv
  rw [hv]
  clear hv
  go_wp2_with fail
  refine HW.out.mono ?_
  rintro _ w2 ⟨rfl, bs2, hm2, hf2, hn2⟩
  have hS2 := HS.out.1.step hqn hm2 hf2 hn2
  have y1 := (hf2.blk HS.out.1.c1 HS.out.1.a1).cell 0
  have y2 := (hf2.blk HS.out.1.c2 HS.out.1.a2).cell 0
  have z2 := (hf2.blk HS.out.1.c2 HS.out.1.a2).frozen 0
  have u2 := hS2.c2.cell 0
  simp only [List.getElem?_cons_zero] at y1 y2 u2
  have HA2 := Lib.hid (below_w hS2.hm hS2.lt)
  have HS2 := Lib.hid (And.intro hS2 hstep)
  clear hm2 hf2 hn2 hS2 hstep HW x1 x2
  go_wp2_with fail
  refine HA2.out.mono ?_
  rintro _ w3 ⟨rfl, hf3⟩
  have HS3 := Lib.hid (And.intro (HS2.out.1.keep hf3) HS2.out.2)
  clear HS2 HA2 hf3 y1 y2 z2 u2
  go_wp2
  go_roundw
  case rel => exact ⟨_, _, _, q, rfl, HS3⟩
  case measure =>
   rcases dn_lt (swpE e p q) hqn with hb | ⟨hb, hb2⟩
   {
   rw [show blwI n (swpE e p q) q = -1 by unfold blwI; rw [if_pos hb], msd_neg, msd_nat]
   omega
   }
   {
   rw [show blwI n (swpE e p q) q = (blw n (swpE e p q) q : Nat) by unfold blwI; rw [if_neg (by omega)], msd_nat, msd_nat]
   omega
   }
  }
  {
  have hv : blwI n e p = -1 := by unfold blwI; rw [if_pos (Classical.not_not.1 hc)]
  have hdone := dn_done HS.out.2 (Classical.not_not.1 hc)
  have HD := Lib.hid hdone
  clear hdone
  rw [hv]
  clear hv
  go_wp2
  go_end0
  exact ⟨rfl, e, pl, bs, p, HS.out.1, HD.out⟩
  }
theorem hp_dn (h : Hp n e) (hp : p < n) : DnI n e p :=
  ⟨fun k h0 hk _ => h k h0 hk, fun h0 c hc0 hc hcp => by
 have h1 := h c hc0 hc
 rw [hcp] at h1
 exact nelt_trans h1 (h p h0 hp)⟩
theorem sift_up0 (h : Sft W w ph slots n e0 e pl v gp cp bs0 bs b1 b2 p) (hp0 : p = 0) :
    Calls Tryz.prog 204 #[.func (.func 205) #[hptr ph] #[], hptr b2, hptr b1] w fun r w' => r = .returned (.tuple #[]) ∧ Fr [] w w' := by
 have x1 := h.c1.cell 0
 have x2 := h.c2.cell 0
 simp only [List.getElem?_cons_zero] at x1 x2
 have hA := above_w h.hm h.lt
 have e1 : abvI e p = -1 := by unfold abvI; rw [if_neg (by omega)]
 rw [e1] at hA
 have HA := Lib.hid hA
 clear h hA e1 hp0
 go_enter Tryz.func204, Tryz.ntmps204
 go_wp2_with fail
 refine HA.out.mono ?_
 rintro _ w1 ⟨rfl, hf1⟩
 have HF := Lib.hid hf1
 clear HA hf1 x1 x2
 go_wp2
 go_loopw [4] (fun sq wr => sq = .int .i64 (-1) ∧ wr = w1) (fun _ _ => 0)
 case atStart => exact ⟨rfl, rfl⟩
 case round =>
  obtain ⟨rfl, rfl⟩ := hrel
  go_wp2
  go_end0
  exact ⟨rfl, HF.out⟩
theorem settle_w (h : HM w ph slots n e pl v gp cp bs) (hk : PlOK slots n e pl) {p : Nat} (hp : p < n) (hi : UpI n e p ∨ (p = 0 ∧ DnI n e 0)) :
    Calls Tryz.prog 177 #[hptr ph, .int .i64 p] w fun r w' => r = .returned (.tuple #[]) ∧ ∃ e' pl' bs', HM w' ph slots n e' pl' v gp cp bs' ∧ PlOK slots n e' pl' ∧ Hp n e' ∧ (∀ y, (∃ x, x < n ∧ e' x = y) ↔ ∃ x, x < n ∧ e x = y) ∧
      Fr (hB slots ph v gp bs) w w' ∧ ∀ b ∈ hB slots ph v gp bs', b ∈ hB slots ph v gp bs ∨ w.heap.size ≤ b := by
 have hlt := h.lt
 have k1 := Blk.new w [hptr ph] 122
 have k2 := Blk.new (w.alloc (.cells [hptr ph].toArray 122)) [.int .i64 p] 3
 have k1' := k1.alloc (.cells [.int .i64 p].toArray 3)
 simp only [World.size_alloc] at k2
 have hF0 : Fr [] w ((w.alloc (.cells [hptr ph].toArray 122)).alloc (.cells [.int .i64 p].toArray 3)) := ((Fr.refl _ _).alloc _).alloc _
 have hS : Sft w ((w.alloc (.cells [hptr ph].toArray 122)).alloc (.cells [.int .i64 p].toArray 3)) ph slots n e e pl v gp cp bs bs w.heap.size (w.heap.size + 1) p :=
   ⟨h.fr0 hF0, hk, fun y => Iff.rfl, k1', k2, fun hm => by have := hlt _ hm; omega, fun hm => by have := hlt _ hm; omega, by omega, hF0.mono (by simp), fun b hb => .inl hb, hp⟩
 have x1 := k1'.cell 0
 simp only [List.getElem?_cons_zero] at x1
 have HS := Lib.hid hS
 have HI := Lib.hid hi
 clear hS hi h hk k1 k2 k1' hF0 hlt
 have hsz : ((w.alloc (.cells [hptr ph].toArray 122)).alloc (.cells [.int .i64 p].toArray 3)).heap.size = w.heap.size + 2 := by simp
 have Hsz := Lib.hid hsz; clear hsz
 go_enter Tryz.func177, Tryz.ntmps177
 generalize hw0 : ((w.alloc (.cells #[hptr ph] 122)).alloc (.cells #[.int .i64 (p : Int)] 3)) = w0 at *
 have HW0 := Lib.hid hw0; clear hw0
 rcases HI.out with hu | ⟨hp0, hd⟩
 {
 have HU := Lib.hid (sift_up HS.out hu)
 clear hu HI
 go_wp2_with fail
 rw [HW0.out]
 refine HU.out.mono ?_
 rintro _ w1 ⟨rfl, e1, pl1, bs1, p1, h1, g1⟩
 have x1 := h1.c1.cell 0
 simp only [List.getElem?_cons_zero] at x1
 have HD := Lib.hid (sift_dn h1 (hp_dn g1 h1.lt))
 clear h1 g1 HU HS
 go_wp2_with fail
 refine HD.out.mono ?_
 rintro _ w2 ⟨rfl, e2, pl2, bs2, p2, h2, g2⟩
 have H2 := Lib.hid (And.intro h2 g2)
 clear h2 g2 HD
 go_wp2
 go_end0
 exact ⟨rfl, e2, pl2, bs2, H2.out.1.hm, H2.out.1.ok, H2.out.2, H2.out.1.mem, H2.out.1.fr.mono (fun b hb => by
   rcases List.mem_cons.1 hb with rfl | hb
   · exact .inr (by omega)
   · exact .inl hb), H2.out.1.new⟩
 }
 {
 have HU := Lib.hid (sift_up0 HS.out hp0)
 rw [← hp0] at hd
 have Hd := Lib.hid hd
 clear HI hp0 hd
 go_wp2_with fail
 rw [HW0.out]
 refine HU.out.mono ?_
 rintro _ w1 ⟨rfl, f1⟩
 have h1 := HS.out.keep f1
 have x1 := h1.c1.cell 0
 simp only [List.getElem?_cons_zero] at x1
 have HD := Lib.hid (sift_dn h1 Hd.out)
 clear h1 HU HS f1
 go_wp2_with fail
 refine HD.out.mono ?_
 rintro _ w2 ⟨rfl, e2, pl2, bs2, p2, h2, g2⟩
 have H2 := Lib.hid (And.intro h2 g2)
 clear h2 g2 HD
 go_wp2
 go_end0
 exact ⟨rfl, e2, pl2, bs2, H2.out.1.hm, H2.out.1.ok, H2.out.2, H2.out.1.mem, H2.out.1.fr.mono (fun b hb => by
   rcases List.mem_cons.1 hb with rfl | hb
   · exact .inr (by omega)
   · exact .inl hb), H2.out.1.new⟩
 }
end
def HeapAt (w : World) (ph slots : Nat) (Q : Nat → Option Int) (n : Nat) (l : List Nat) : Prop :=
  ∃ e pl v gp cp bs, HM w ph slots n e pl v gp cp bs ∧ PlOK slots n e pl ∧ Hp n e ∧ (∀ i k, Q i = some k ↔ ∃ p, p < n ∧ e p = (i, k)) ∧ l = hB slots ph v gp bs
def updQ (Q : Nat → Option Int) (i : Nat) (k : Option Int) : Nat → Option Int := fun x => if x = i then k else Q x
theorem updQ_same (Q : Nat → Option Int) (i : Nat) (k : Option Int) : updQ Q i k i = k := by simp [updQ]
theorem updQ_other {Q : Nat → Option Int} {i x : Nat} {k : Option Int} (h : x ≠ i) : updQ Q i k x = Q x := by simp [updQ, h]
section
variable {w w' : World} {ph slots n : Nat} {Q : Nat → Option Int} {l S : List Nat}
theorem HeapAt.lt (h : HeapAt w ph slots Q n l) : ∀ b ∈ l, b < w.heap.size := by
 obtain ⟨e, pl, v, gp, cp, bs, h1, _, _, _, rfl⟩ := h; exact h1.lt
theorem HeapAt.fr (h : HeapAt w ph slots Q n l) (hf : Fr S w w') (hs : ∀ b ∈ l, b ∉ S) : HeapAt w' ph slots Q n l := by
 obtain ⟨e, pl, v, gp, cp, bs, h1, h2, h3, h4, rfl⟩ := h
 exact ⟨e, pl, v, gp, cp, bs, h1.fr hf hs, h2, h3, h4, rfl⟩
theorem HeapAt.le (h : HeapAt w ph slots Q n l) : n ≤ slots ∧ slots ≤ 65536 := by
 obtain ⟨e, pl, v, gp, cp, bs, h1, h2, _⟩ := h; exact ⟨h2.le, h1.le⟩
end
section
variable {w w' : World} {ph slots n : Nat} {e : Nat → Nat × Int} {pl : Nat → Nat} {v : Value} {gp cp : Nat} {bs : Nat → Option Nat}
theorem HM.push (h : HM w ph slots n e pl v gp cp bs) {w4 : World} {g' cap' : Nat} (box : Obj) (x : Nat × Int) (hn : n + 1 ≤ 65536)
    (hown : w4.ownsRow 0 136 2 (.slice (some ⟨g', 0, none⟩) (n + 1) cap') (n + 1) (entC n e ++ [.int .i64 x.1, .int .i64 x.2]))
    (hgrow : (w.alloc box).grownBy w4 v.ownBlock) (hg : v.ownBlock = some g' ∨ (w.alloc box).heap.size ≤ g') :
    HM (w4.setCell ⟨ph, 2, none⟩ (.slice (some ⟨g', 0, none⟩) (n + 1) cap')) ph slots (n + 1) (updE e n x) pl (.slice (some ⟨g', 0, none⟩) (n + 1) cap') gp cp bs ∧
      Fr (hB slots ph v gp bs) w (w4.setCell ⟨ph, 2, none⟩ (.slice (some ⟨g', 0, none⟩) (n + 1) cap')) ∧ ∀ q ∈ hB slots ph (.slice (some ⟨g', 0, none⟩) (n + 1) cap') gp bs, q ∈ hB slots ph v gp bs ∨ w.heap.size ≤ q := by
 have hlt := h.lt
 simp only [World.size_alloc] at hg
 have hF4 : Fr v.ownBlock.toList w w4 := ((Fr.refl _ _).alloc _).grown hgrow (fun q e => .inl (by simp [e]))
 have e1 : (Value.slice (some ⟨g', 0, none⟩) (n + 1) cap').ownBlock = some g' := rfl
 have hne : ∀ b ∈ hB slots ph v gp bs, v.ownBlock ≠ some b → g' ≠ b := by {
 rintro b hb hv rfl
 rcases hg with e | e
 · exact hv e
 · have := hlt _ hb; omega
 }
 have hg1 := hne ph (mem_hB.2 (.inl rfl)) h.ap2
 have hg2 := hne gp (mem_hB.2 (.inr (.inl rfl))) h.ap3
 rw [entC_push] at hown
 refine ⟨⟨(hF4.blk h.hd (fun hm => h.ap2 (by simpa using hm))).set 2 _, ownsRow_other hown _ _ (by rw [e1]; simpa using hg1), (hF4.blk h.dir (fun hm => h.ap3 (by simpa using hm))).other _ _ (fun e => h.ap1 e.symm), fun k b hk hb => ?_, h.none_, h.le, hn, h.pb, h.ap1, by rw [e1]; simpa using hg1, by rw [e1]; simpa using hg2, fun k b hk hb => ?_, h.ap5⟩, ?_, ?_⟩
 {
 have a4 := h.ap4 k b hk hb
 exact (hF4.blk (h.some_ k b hk hb) (fun hm => a4.2.2 (by simpa using hm))).other _ _ a4.1
 }
 {
 have a4 := h.ap4 k b hk hb
 refine ⟨a4.1, a4.2.1, ?_⟩
 rw [e1]
 simpa using hne b (mem_hB.2 (.inr (.inr (.inr ⟨k, hk, hb⟩)))) a4.2.2
 }
 {
 refine (hF4.mono (fun q hq => .inl ?_)).setCell _ _ (.inl (by simp [hB]))
 simp only [Option.mem_toList] at hq
 exact mem_hB.2 (.inr (.inr (.inl hq)))
 }
 {
 intro q hq
 rcases mem_hB.1 hq with hq | hq | hq | hq
 · exact .inl (mem_hB.2 (.inl hq))
 · exact .inl (mem_hB.2 (.inr (.inl hq)))
 {
 rw [e1] at hq; cases hq
 rcases hg with e | e
 · exact .inl (mem_hB.2 (.inr (.inr (.inl e))))
 · exact .inr (by omega)
 }
 · exact .inl (mem_hB.2 (.inr (.inr (.inr hq))))
 }
def entZ : Value := .agg #[.int .i64 0, .int .i64 0]
theorem Tryz.infoEnt : (Tryz.prog.info? 136).map (fun i => (i.zero, i.size, i.bytes)) = some (some entZ, 2, 16) := by kernel_rfl
end
theorem hpush_w {w : World} {ph slots n : Nat} {Q : Nat → Option Int} {l : List Nat} (h : HeapAt w ph slots Q n l) {i : Nat} (hi : i < slots) (hQ : Q i = none) (k : Int) :
    Calls Tryz.prog 160 #[hptr ph, .int .i64 i, .int .i64 k] w fun r w' => r = .returned (.int .i64 0) ∧ ∃ l', HeapAt w' ph slots (updQ Q i (some k)) (n + 1) l' ∧ Fr l w w' ∧ ∀ b ∈ l', b ∈ l ∨ w.heap.size ≤ b := by
 obtain ⟨e, pl, v, gp, cp, bs, hm, hk, hp, hq, rfl⟩ := h
 have hpl : pl i = 0 := by {
 apply Classical.byContradiction
 intro h0
 obtain ⟨p, hpn, hpe⟩ := hk.inv i h0
 have := (hq i (e p).2).2 ⟨p, hpn, by rw [← hpe]⟩
 rw [hQ] at this; cases this
 }
 have hk1 := hk.push (k := k) hi hpl
 have hn1 := hk1.le
 have hle := hm.le
 have HV := Lib.hid (hvalid_w hm)
 have HH := Lib.hid (hhas_w hm hi)
 have hP := place_w hm hi
 rw [hpl] at hP
 have HP := Lib.hid hP
 have c2 := hm.hd.cell 2
 simp only [List.getElem?_cons_zero, List.getElem?_cons_succ] at c2
 obtain ⟨a, cap, rfl⟩ := ownsRow_slice hm.items
 have HM0 := Lib.hid hm
 have HK := Lib.hid (And.intro hk1 (push_up hp (i, k)))
 have HQ := Lib.hid (And.intro hq hQ)
 have t1 : (((0 : Nat) : Int) - 1 != -1) = false := by decide
 have t2 : ((0 : Int) - 1 != -1) = false := by decide
 clear hm hk hp hq hQ hpl hP hk1
 go_enter Tryz.func160, Tryz.ntmps160
 go_wp2_with fail
 refine HV.out.mono ?_
 rintro _ w ⟨rfl, rfl⟩
 go_wp2_with fail
 refine HH.out.mono ?_
 rintro _ w ⟨rfl, rfl⟩
 go_wp2_with fail
 refine HP.out.mono ?_
 rintro _ w ⟨rfl, rfl⟩
 go_wp2_with (at_builtin; refine wpList_appK rfl _ _ 214 rfl 136 entZ 2 16 Tryz.underlying214 Tryz.infoEnt rfl (by decide) (.slice a n cap) n _ rfl (HM0.out.items.alloc _) w.heap.size 136 [.int .i64 i, .int .i64 k] rfl (Blk.new w _ _) rfl (by simp [Value.oneCell']) (by omega) (by decide) ?_; intro g' cap' w4 hown4 hgrow4 hg4; obtain ⟨hR4, hF4, hq4⟩ := HM.push HM0.out _ (i, k) (by omega) hown4 hgrow4 hg4; have hk4 := (((Fr.refl _ _).alloc _).grown (S := (Value.slice a n cap).ownBlock.toList) hgrow4 (fun q e => .inl (by simp [e]))).blk HM0.out.hd (fun hm => HM0.out.ap2 (by simpa using hm)); have z4 := hk4.frozen 2; have y4 := hk4.cell 2; simp only [List.getElem?_cons_zero, List.getElem?_cons_succ] at y4)
 have H4 := Lib.hid (And.intro hR4 (And.intro hF4 hq4))
 clear hR4 hF4 hq4 hown4 hgrow4 hg4 hk4 c2
 generalize hw5 : w4.setCell ⟨ph, 2, none⟩ (.slice (some ⟨g', 0, none⟩) (n + 1) cap') = w5 at *
 have HW5 := Lib.hid hw5; clear hw5
 have HPu := Lib.hid (put_w H4.out.1 hi (x := n + 1) (by omega) (n : Int) (by omega))
 refine HPu.out.mono ?_
 rintro _ w6 ⟨rfl, bs6, h6, f6, s6⟩
 have hs0 := H4.out.2.1.size
 have HF6 := Lib.hid (H4.out.2.1.trans f6 H4.out.2.2)
 have HN6 : Hid (∀ b ∈ hB slots ph (.slice (some ⟨g', 0, none⟩) (n + 1) cap') gp bs6, b ∈ hB slots ph (.slice a n cap) gp bs ∨ w.heap.size ≤ b) := Lib.hid (fun b hb => (s6 b hb).elim (H4.out.2.2 b) (fun e => .inr (by omega)))
 have HSe := Lib.hid (settle_w h6 HK.out.1 (p := n) (by omega) (.inl HK.out.2))
 clear h6 f6 s6 HPu
 go_wp2_with fail
 refine HSe.out.mono ?_
 rintro _ w7 ⟨rfl, e7, pl7, bs7, h7, k7, p7, m7, f7, s7⟩
 have hs6 := HF6.out.size
 have H7 := Lib.hid (And.intro h7 (And.intro k7 (And.intro p7 m7)))
 have HF7 := Lib.hid (And.intro (HF6.out.trans f7 HN6.out) (show ∀ b ∈ hB slots ph (.slice (some ⟨g', 0, none⟩) (n + 1) cap') gp bs7, b ∈ hB slots ph (.slice a n cap) gp bs ∨ w.heap.size ≤ b from fun b hb => (s7 b hb).elim (HN6.out b) (fun e => .inr (by omega))))
 clear h7 k7 p7 m7 f7 s7 HSe
 go_wp2
 go_ret
 refine ⟨rfl, _, ⟨e7, pl7, _, gp, cp, bs7, H7.out.1, H7.out.2.1, H7.out.2.2.1, fun j x => ?_, rfl⟩, HF7.out.1, HF7.out.2⟩
 rw [H7.out.2.2.2]
 constructor
 {
 intro hx
 by_cases e1 : j = i
 {
 subst e1
 rw [updQ_same] at hx; cases hx
 exact ⟨n, by omega, updE_same _ _ _⟩
 }
 {
 rw [updQ_other e1] at hx
 obtain ⟨p, hp, hpe⟩ := (HQ.out.1 j x).1 hx
 exact ⟨p, by omega, by rw [updE_other (by omega)]; exact hpe⟩
 }
 }
 {
 rintro ⟨p, hp, hpe⟩
 by_cases e1 : p = n
 {
 subst e1
 rw [updE_same] at hpe
 simp only [Prod.mk.injEq] at hpe
 obtain ⟨rfl, rfl⟩ := hpe
 exact updQ_same _ _ _
 }
 {
 rw [updE_other e1] at hpe
 have h1 := (HQ.out.1 j x).2 ⟨p, by omega, hpe⟩
 rw [updQ_other (fun e2 => by rw [e2, HQ.out.2] at h1; cases h1)]
 exact h1
 }
 }
theorem ownsRow_pre {w : World} {base : Nat} {e : TypeId} {size : Nat} {g n m cap : Nat} {xs ys : List Value} (h : w.ownsRow base e size (.slice (some ⟨g, 0, none⟩) (n + m) cap) (n + m) (xs ++ ys)) (hx : xs.length = n * size) :
    w.ownsRow base e size (.slice (some ⟨g, 0, none⟩) n cap) n xs := by
 obtain ⟨h1, h2⟩ := h
 rcases h2 with ⟨h2, _⟩ | ⟨g', cap', cur, e1, hb, hh, hn, hm, hsz, hxs⟩
 · cases h2
 {
 simp only [Value.slice.injEq, Option.some.injEq, Addr.mk.injEq, and_true, true_and] at e1
 obtain ⟨rfl, rfl⟩ := e1
 refine ⟨hx, .inr ⟨g, cap, cur, rfl, hb, hh, by omega, hm, hsz, ?_⟩⟩
 have := congrArg (List.take (n * size)) hxs
 have e2 : (xs ++ ys).take (n * size) = xs := by rw [← hx, List.take_left']; rfl
 rw [List.take_take, Nat.min_eq_left (Nat.mul_le_mul_right _ (by omega)), e2] at this
 exact this
 }
section
variable {w w' : World} {ph slots n : Nat} {e : Nat → Nat × Int} {pl : Nat → Nat} {v : Value} {gp cp : Nat} {bs : Nat → Option Nat}
theorem min_no (h : HM w ph slots 0 e pl v gp cp bs) : Calls Tryz.prog 136 #[hptr ph] w fun r w' => r = .returned (.tuple #[.agg #[.int .i64 0, .int .i64 0], .bool false]) ∧ Fr [] w w' := by
 have hf0 : Fr [] w (w.alloc (.cells #[.int .i64 0, .int .i64 0] 136)) := (Fr.refl _ _).alloc _
 have HV := Lib.hid (hvalid_w (h.fr0 hf0))
 obtain ⟨a, cap, rfl⟩ := ownsRow_slice h.items
 have c2 := (h.fr0 hf0).hd.cell 2
 simp only [List.getElem?_cons_zero, List.getElem?_cons_succ] at c2
 have HF := Lib.hid hf0; clear h hf0
 go_enter Tryz.func136, Tryz.ntmps136
 go_wp2_with fail
 refine HV.out.mono ?_
 rintro _ w1 ⟨rfl, rfl⟩
 go_wp2
 refine bodyPost_ret (v := .tuple #[.agg #[.int .i64 0, .int .i64 0], .bool false]) (by simp [results, Tryz.results136, go_sem]) rfl ⟨rfl, (Fr.refl _ _).alloc _⟩
theorem min_yes (h : HM w ph slots n e pl v gp cp bs) (hn : 0 < n) : Calls Tryz.prog 136 #[hptr ph] w fun r w' => r = .returned (.tuple #[.agg #[.int .i64 ((e 0).1 : Nat), .int .i64 (e 0).2], .bool true]) ∧ Fr [] w w' := by
 have hf0 : Fr [] w (w.alloc (.cells #[.int .i64 0, .int .i64 0] 136)) := (Fr.refl _ _).alloc _
 have HV := Lib.hid (hvalid_w (h.fr0 hf0))
 obtain ⟨g, cap, rfl, _, _, q0, q1, _⟩ := ent_at (h.fr0 hf0).items hn
 have c2 := (h.fr0 hf0).hd.cell 2
 simp only [List.getElem?_cons_zero, List.getElem?_cons_succ] at c2
 simp only [Nat.zero_mul, Nat.zero_add] at q0 q1
 have t1 : ((n : Int) == 0) = false := by simp; omega
 have t2 : (0 : Int) < n := by omega
 have HF := Lib.hid hf0; clear h hf0
 generalize (e 0).1 = x at *
 generalize (e 0).2 = y at *
 clear hn
 go_enter Tryz.func136, Tryz.ntmps136
 go_wp2_with fail
 refine HV.out.mono ?_
 rintro _ w1 ⟨rfl, rfl⟩
 go_wp2
 exact bodyPost_ret (v := .tuple #[.agg #[.int .i64 x, .int .i64 y], .bool true]) (by simp [results, Tryz.results136, go_sem]) rfl ⟨rfl, (Fr.refl _ _).alloc _⟩
theorem HM.cut {g cap : Nat} (h : HM w ph slots (n + 1) e pl (.slice (some ⟨g, 0, none⟩) (n + 1) cap) gp cp bs) :
    HM (w.setCell ⟨ph, 2, none⟩ (.slice (some ⟨g, 0, none⟩) n cap)) ph slots n e pl (.slice (some ⟨g, 0, none⟩) n cap) gp cp bs := by
 have a2 := h.ap2
 have a3 := h.ap3
 simp only [Value.ownBlock] at a2 a3
 have h1 := h.items
 rw [entC_succ'] at h1
 refine ⟨h.hd.set 2 _, ownsRow_other (ownsRow_pre h1 (entC_len n e)) _ _ a2, h.dir.other _ _ (fun e => h.ap1 e.symm), fun k b hk hb => (h.some_ k b hk hb).other _ _ (h.ap4 k b hk hb).1, h.none_, h.le, by have := h.nb; omega, h.pb, h.ap1, a2, a3, h.ap4, h.ap5⟩
theorem drop_w (h : HM w ph slots (n + 1) e pl v gp cp bs) (hk : PlOK slots (n + 1) e pl) (hp : Hp (n + 1) e) :
    Calls Tryz.prog 137 #[hptr ph, .int .i64 0] w fun r w' => r = .returned (.tuple #[]) ∧ ∃ e' pl' v' bs', HM w' ph slots n e' pl' v' gp cp bs' ∧ PlOK slots n e' pl' ∧ Hp n e' ∧ (∀ y, (∃ x, x < n ∧ e' x = y) ↔ ∃ x, x < n + 1 ∧ x ≠ 0 ∧ e x = y) ∧
      Fr (hB slots ph v gp bs) w w' ∧ ∀ b ∈ hB slots ph v' gp bs', b ∈ hB slots ph v gp bs ∨ w.heap.size ≤ b := by
 have hnb := h.nb
 have hlt := hk.lt
 have c2 := h.hd.cell 2
 simp only [List.getElem?_cons_zero, List.getElem?_cons_succ] at c2
 obtain ⟨g, cap, rfl, hcap, _, _, _, _⟩ := ent_at h.items (show 0 < n + 1 by omega)
 have hks := hk.swap (p := 0) (q := n) (by omega) (by omega)
 have hkp := hks.pop
 have hmem : ∀ y, (∃ x, x < n ∧ swpE e 0 n x = y) ↔ ∃ x, x < n + 1 ∧ x ≠ 0 ∧ e x = y := by {
 intro y
 constructor
 {
 rintro ⟨x, hx, rfl⟩
 by_cases h0 : x = 0
 · subst h0; exact ⟨n, by omega, by omega, (swpE_p e 0 n).symm⟩
 · exact ⟨x, by omega, h0, (swpE_o h0 (by omega)).symm⟩
 }
 {
 rintro ⟨x, hx, h0, rfl⟩
 by_cases h1 : x = n
 · subst h1; exact ⟨0, by omega, swpE_p e 0 x⟩
 · exact ⟨x, by omega, swpE_o h0 h1⟩
 }
 }
 have hdn := pop_dn hp
 have hidx : (swpE e 0 n n).1 < slots := hks.lt n (by omega)
 have HS := Lib.hid (swap_w h (p := 0) (q := n) (by omega) (by omega) hlt)
 have HK := Lib.hid (And.intro hkp (And.intro hmem (And.intro hdn hidx)))
 clear h hk hp hlt hks hkp hmem hdn hidx
 go_enter Tryz.func137, Tryz.ntmps137
 go_wp2_with fail
 refine HS.out.mono ?_
 rintro _ w1 ⟨rfl, bs1, h1, f1, s1⟩
 obtain ⟨g', cap', e1, _, _, q0, _, _⟩ := ent_at h1.items (show n < n + 1 by omega)
 simp only [Value.slice.injEq, Option.some.injEq, Addr.mk.injEq, and_true, true_and] at e1
 obtain ⟨rfl, rfl⟩ := e1
 have d2 := h1.hd.cell 2
 simp only [List.getElem?_cons_zero, List.getElem?_cons_succ] at d2
 have HP := Lib.hid (put_w h1 HK.out.2.2.2 (x := 0) (by omega) (-1) (by decide))
 have HF1 := Lib.hid (And.intro f1 s1); clear f1 s1 h1 HS c2
 generalize hix : (swpE e 0 n n).1 = ix at *
 have Hix := Lib.hid hix; clear hix
 have hn1 : (n : Int) < ((n + 1 : Nat) : Int) := by omega
 go_wp2_with fail
 refine HP.out.mono ?_
 rintro _ w2 ⟨rfl, bs2, h2, f2, s2⟩
 have hs1 := HF1.out.1.size
 have HF2 := Lib.hid (HF1.out.1.trans f2 HF1.out.2)
 have HN2 : Hid (∀ b ∈ hB slots ph (.slice (some ⟨g, 0, none⟩) (n + 1) cap) gp bs2, b ∈ hB slots ph (.slice (some ⟨g, 0, none⟩) (n + 1) cap) gp bs ∨ w.heap.size ≤ b) := Lib.hid (fun b hb => (s2 b hb).elim (HF1.out.2 b) (fun e => .inr (by omega)))
 have e2 := h2.hd.cell 2
 have z2 := h2.hd.frozen 2
 simp only [List.getElem?_cons_zero, List.getElem?_cons_succ] at e2
 have h3 := h2.cut
 have hF3 : Fr (hB slots ph (.slice (some ⟨g, 0, none⟩) (n + 1) cap) gp bs) w (w2.setCell ⟨ph, 2, none⟩ (.slice (some ⟨g, 0, none⟩) n cap)) := HF2.out.setCell _ _ (.inl (by simp [hB]))
 have H3 := Lib.hid (And.intro h3 hF3)
 clear h3 hF3 h2 f2 s2 HP d2 q0
 have hcap2 : (n : Int) ≤ cap := by omega
 by_cases h0 : 0 < n
 {
 have t1 : decide (0 < n) = true := decide_eq_true h0
 have HSe := Lib.hid (settle_w H3.out.1 HK.out.1 (p := 0) h0 (.inr ⟨rfl, HK.out.2.2.1⟩))
 go_wp2_with fail
 refine HSe.out.mono ?_
 rintro _ w4 ⟨rfl, e4, pl4, bs4, h4, k4, p4, m4, f4, s4⟩
 have hs3 := H3.out.2.size
 have H4 := Lib.hid (And.intro h4 (And.intro k4 (And.intro p4 m4)))
 have HF4 := Lib.hid (And.intro f4 s4)
 clear h4 k4 p4 m4 f4 s4 HSe
 go_wp2
 go_end0
 refine ⟨rfl, e4, pl4, _, bs4, H4.out.1, H4.out.2.1, H4.out.2.2.1, fun y => (H4.out.2.2.2 y).trans (HK.out.2.1 y), H3.out.2.trans HF4.out.1 (fun b hb => HN2.out b hb), fun b hb => ?_⟩
 rcases HF4.out.2 b hb with e | e
 · exact HN2.out b e
 · exact .inr (by omega)
 }
 {
 have t1 : decide (0 < n) = false := decide_eq_false h0
 have hn0 : n = 0 := by omega
 have Hn0 := Lib.hid hn0; clear hn0 h0
 go_wp2
 go_end0
 exact ⟨rfl, swpE e 0 n, _, _, bs2, H3.out.1, HK.out.1, fun k hk0 hk => by have := Hn0.out; omega, HK.out.2.1, H3.out.2, HN2.out⟩
 }
end
theorem heap_min {w : World} {ph slots n : Nat} {Q : Nat → Option Int} {l : List Nat} (h : HeapAt w ph slots Q n l) :
    Calls Tryz.prog 136 #[hptr ph] w fun r w' => Fr [] w w' ∧ ((n = 0 ∧ r = .returned (.tuple #[.agg #[.int .i64 0, .int .i64 0], .bool false])) ∨
      (0 < n ∧ ∃ i k, Q i = some k ∧ (∀ j x, Q j = some x → ¬ elt (j, x) (i, k)) ∧ r = .returned (.tuple #[.agg #[.int .i64 (i : Nat), .int .i64 k], .bool true]))) := by
 obtain ⟨e, pl, v, gp, cp, bs, hm, hk, hp, hq, rfl⟩ := h
 cases n with
 | zero => {
 refine (min_no hm).mono ?_
 rintro r w' ⟨rfl, hf⟩
 exact ⟨hf, .inl ⟨rfl, rfl⟩⟩
 }
 | succ n => {
 refine (min_yes hm (by omega)).mono ?_
 rintro r w' ⟨rfl, hf⟩
 refine ⟨hf, .inr ⟨by omega, (e 0).1, (e 0).2, (hq _ _).2 ⟨0, by omega, rfl⟩, fun j x hx => ?_, rfl⟩⟩
 obtain ⟨p, hpn, hpe⟩ := (hq j x).1 hx
 rw [← hpe]; exact hp_min hp p hpn
 }
theorem pop_w {w : World} {ph slots n : Nat} {Q : Nat → Option Int} {l : List Nat} (h : HeapAt w ph slots Q n l) :
    Calls Tryz.prog 88 #[hptr ph] w fun r w' => (n = 0 ∧ r = .returned (.tuple #[.agg #[.int .i64 0, .int .i64 0], .bool false]) ∧ Fr [] w w') ∨
      (0 < n ∧ ∃ i k, Q i = some k ∧ (∀ j x, Q j = some x → ¬ elt (j, x) (i, k)) ∧ r = .returned (.tuple #[.agg #[.int .i64 (i : Nat), .int .i64 k], .bool true]) ∧ ∃ l', HeapAt w' ph slots (updQ Q i none) (n - 1) l' ∧ Fr l w w' ∧ ∀ b ∈ l', b ∈ l ∨ w.heap.size ≤ b) := by
 obtain ⟨e, pl, v, gp, cp, bs, hm, hk, hp, hq, rfl⟩ := h
 have hf0 : Fr [] w (w.alloc (.cells #[.int .i64 0, .int .i64 0] 136)) := (Fr.refl _ _).alloc _
 have hbx := Blk.new w [.int .i64 0, .int .i64 0] 136
 have HBX := Lib.hid hbx; clear hbx
 cases n with
 | zero => {
 have HMn := Lib.hid (min_no (hm.fr0 hf0))
 clear hm hk hp hq hf0
 go_enter Tryz.func88, Tryz.ntmps88
 go_wp2_with fail
 refine HMn.out.mono ?_
 rintro _ w1 ⟨rfl, f1⟩
 have k1 := f1.blk HBX.out (by simp)
 have k2 := k1.alloc (.cells #[.int .i64 0, .int .i64 0] 136)
 have x0 := k2.cell 0
 have x1 := k2.cell 1
 have z0 := k2.frozen 0
 have z1 := k2.frozen 1
 have x0' := k1.cell 0
 have x1' := k1.cell 1
 have z0' := k1.frozen 0
 have z1' := k1.frozen 1
 simp only [List.getElem?_cons_zero, List.getElem?_cons_succ] at x0 x1 x0' x1'
 have hsz : w.heap.size < w1.heap.size := k1.lt
 have HF1 := Lib.hid f1
 have HK1 := Lib.hid k1; clear f1 k1 k2
 go_wp2
 have hK := ((HK1.out.set 0 (.int .i64 0)).set 1 (.int .i64 0)).alloc (.cells #[.int .i64 0, .int .i64 0] 136)
 have r0 := hK.cell 0
 have r1 := hK.cell 1
 simp only [List.set_cons_zero, List.set_cons_succ, List.getElem?_cons_zero, List.getElem?_cons_succ] at r0 r1
 refine bodyPost_ret (v := .tuple #[.agg #[.int .i64 0, .int .i64 0], .bool false]) (by simp [results, Tryz.results88, go_sem, r0, r1]) rfl ?_
 exact .inl ⟨trivial, rfl, (((((Fr.refl [] w).alloc _).trans' HF1.out).setCell _ _ (.inr (Nat.le_refl _))).setCell _ _ (.inr (Nat.le_refl _))).alloc _⟩
 }
 | succ n => {
 have HMn := Lib.hid (min_yes (hm.fr0 hf0) (by omega))
 have HD := Lib.hid (fun (W : World) (hf : Fr [] w W) => drop_w (hm.fr0 hf) hk hp)
 have HQ := Lib.hid (And.intro hk (And.intro hp hq))
 have hlt := hm.lt
 have HLt := Lib.hid hlt; clear hlt
 clear hm hk hp hq hf0
 generalize hi : (e 0).1 = i at *
 generalize hkk : (e 0).2 = kk at *
 have HI := Lib.hid (And.intro hi hkk); clear hi hkk
 go_enter Tryz.func88, Tryz.ntmps88
 go_wp2_with fail
 refine HMn.out.mono ?_
 rintro _ w1 ⟨rfl, f1⟩
 have k1 := f1.blk HBX.out (by simp)
 have k2 := k1.alloc (.cells #[.int .i64 i, .int .i64 kk] 136)
 have hsz : w.heap.size < w1.heap.size := k1.lt
 have hF1 : Fr [] w (w1.alloc (.cells #[.int .i64 i, .int .i64 kk] 136)) := (((Fr.refl [] w).alloc _).trans' f1).alloc _
 have HD2 := Lib.hid (HD.out _ hF1)
 have b2 := Blk.new w1 [.int .i64 i, .int .i64 kk] 136
 have HB := Lib.hid (And.intro k2 (And.intro b2 hF1))
 clear f1 k1 k2 b2 hF1 HD HMn
 go_wp2_with fail
 refine HD2.out.mono ?_
 rintro _ w3 ⟨rfl, e3, pl3, v3, bs3, h3, k3, p3, m3, f3, s3⟩
 have j1 := f3.blk HB.out.1 (fun hm => by have := HLt.out _ hm; omega)
 have j2 := f3.blk HB.out.2.1 (fun hm => by have := HLt.out _ hm; omega)
 have x0 := j1.cell 0
 have x1 := j1.cell 1
 have y0 := j2.cell 0
 have y1 := j2.cell 1
 have z0 := j1.frozen 0
 have z1 := j1.frozen 1
 simp only [List.getElem?_cons_zero, List.getElem?_cons_succ] at x0 x1 y0 y1
 have hs1 := HB.out.2.2.size
 have H3 := Lib.hid (And.intro h3 (And.intro k3 (And.intro p3 m3)))
 have HF3 := Lib.hid (And.intro ((HB.out.2.2.mono (S' := hB slots ph v gp bs) (by simp)).trans' f3) (show ∀ b ∈ hB slots ph v3 gp bs3, b ∈ hB slots ph v gp bs ∨ w.heap.size + 1 < b from fun b hb => (s3 b hb).imp (fun h => h) (fun h => by simp at h; omega)))
 have HJ1 := Lib.hid j1
 clear h3 k3 p3 m3 f3 s3 j1 j2 HD2
 go_wp2
 have hK := ((HJ1.out.set 0 (.int .i64 (i : Int))).set 1 (.int .i64 kk))
 have r0 := hK.cell 0
 have r1 := hK.cell 1
 simp only [List.set_cons_zero, List.set_cons_succ, List.getElem?_cons_zero, List.getElem?_cons_succ] at r0 r1
 refine bodyPost_ret (v := .tuple #[.agg #[.int .i64 i, .int .i64 kk], .bool true]) (by simp [results, Tryz.results88, go_sem, r0, r1]) rfl ?_
 have hset : Fr [w.heap.size] w3 ((w3.setCell ⟨w.heap.size, 0, none⟩ (.int .i64 (i : Int))).setCell ⟨w.heap.size, 1, none⟩ (.int .i64 kk)) := ((Fr.refl _ _).setCell _ _ (.inl (by simp))).setCell _ _ (.inl (by simp))
 have hni : e 0 = (i, kk) := by rw [← HI.out.1, ← HI.out.2]
 refine .inr ⟨by omega, i, kk, (HQ.out.2.2 i kk).2 ⟨0, by omega, hni⟩, fun j x hx => ?_, rfl, _, ⟨e3, pl3, v3, gp, cp, bs3, H3.out.1.fr hset (fun b hb hm => ?_), H3.out.2.1, H3.out.2.2.1, fun j x => ?_, rfl⟩, HF3.out.1.trans hset (fun b hb => .inr (by simp at hb; omega)), fun b hb => (HF3.out.2 b hb).imp (fun h => h) (fun h => by omega)⟩
 {
 obtain ⟨p, hpn, hpe⟩ := (HQ.out.2.2 j x).1 hx
 rw [← hpe, ← hni]; exact hp_min HQ.out.2.1 p hpn
 }
 {
 simp at hm; subst hm
 rcases HF3.out.2 _ hb with e | e
 · have := HLt.out _ e; omega
 · omega
 }
 {
 show updQ Q i none j = some x ↔ ∃ p, p < n + 1 - 1 ∧ e3 p = (j, x)
 rw [Nat.add_sub_cancel, H3.out.2.2.2]
 constructor
 {
 intro hx
 have hji : j ≠ i := by rintro rfl; rw [updQ_same] at hx; cases hx
 rw [updQ_other hji] at hx
 obtain ⟨p, hpn, hpe⟩ := (HQ.out.2.2 j x).1 hx
 exact ⟨p, hpn, by rintro rfl; rw [hni] at hpe; exact hji (by simpa using (congrArg Prod.fst hpe).symm), hpe⟩
 }
 {
 rintro ⟨p, hpn, hp0, hpe⟩
 have hji : j ≠ i := by {
 rintro rfl
 exact hp0 (HQ.out.1.inj hpn (by omega : 0 < n + 1) (by rw [hpe, hni]))
 }
 rw [updQ_other hji]
 exact (HQ.out.2.2 j x).2 ⟨p, hpn, hpe⟩
 }
 }
 }
theorem made_ptrs (m : Nat) : madeCells (Value.pointer none).cells m = ((List.range m).map fun k => optP ((fun _ => none : Nat → Option Nat) k)).toArray := by
 apply Array.ext
 · simp [madeCells]
 {
 intro i h1 h2
 simp [madeCells, Value.cells, Nat.mod_one, optP]
 }
theorem run_make_ptrs (m : Nat) (w : World) (hn : m ≤ 1048576) : (Instr.makeSlice 215 (.int .i64 m) (.int .i64 m)).run Tryz.prog w = .ok (.slice (some ⟨w.heap.size, 0, none⟩) m m) (w.alloc (.cells ((List.range m).map fun k => optP ((fun _ => none : Nat → Option Nat) k)).toArray 219)) := by
 obtain ⟨i0, hi, hz0, hz1, hz2⟩ := info_parts (show (Tryz.prog.info? 219).map (fun i => (i.zero, i.size, i.bytes)) = some (some (.pointer none), 1, 8) by kernel_rfl)
 have h := run_make (P := Tryz.prog) w 215 219 i0 (.pointer none) Tryz.underlying215 hi hz0 .i64 .i64 m m (by omega) (by omega) (by rw [hz2]; omega) (by omega)
 rw [hz1] at h
 simp only [Int.toNat_natCast, Nat.mul_one] at h
 rw [made_ptrs] at h
 exact h
theorem hnew_w (slots : Nat) (w : World) (hs : slots ≤ 65536) :
    Calls Tryz.prog 165 #[.int .i64 slots] w fun r w' => ∃ ph, r = .returned (.tuple #[hptr ph, .int .i64 0]) ∧ ∃ l, HeapAt w' ph slots (fun _ => none) 0 l ∧ Fr [] w w' ∧ ∀ b ∈ l, w.heap.size ≤ b := by
 have hd0 : decide ((slots : Int) < 0) = false := decide_eq_false (by omega)
 have hd1 : decide ((slots : Int) > 65536) = false := decide_eq_false (by omega)
 obtain ⟨m, hm⟩ : ∃ m, m = (slots + 63) / 64 := ⟨_, rfl⟩
 have hmi : ((slots : Int) + 64 - 1) / 64 = (m : Int) := by omega
 have hmk := run_make_ptrs m w (by omega)
 have HM0 := Lib.hid hm; clear hm
 go_enter Tryz.func165, Tryz.ntmps165
 go_wp2
 go_ret2
 have hb := Blk.new (w.alloc (.cells ((List.range m).map fun k => optP ((fun _ => none : Nat → Option Nat) k)).toArray 219)) [hptr (w.heap.size + 1), .int .i64 slots, .slice none 0 0, .slice (some ⟨w.heap.size, 0, none⟩) m m] 217
 have hd := (Blk.new w ((List.range m).map fun k => optP ((fun _ => none : Nat → Option Nat) k)) 219).alloc (.cells [hptr (w.heap.size + 1), .int .i64 slots, .slice none 0 0, .slice (some ⟨w.heap.size, 0, none⟩) m m].toArray 217)
 rw [World.size_alloc] at hb
 rw [HM0.out] at hb hd ⊢
 refine ⟨w.heap.size + 1, rfl, _, ⟨fun _ => (0, 0), fun _ => 0, .slice none 0 0, w.heap.size, _, fun _ => none, ⟨hb, World.ownsRow_nil _ _ _ _, hd, fun k b _ h => (by cases h), fun _ _ _ _ _ => rfl, hs, by omega, fun _ => by omega, by omega, by simp [Value.ownBlock], by simp [Value.ownBlock], fun k b _ h => (by cases h), fun k k' b _ _ h => (by cases h)⟩, ⟨fun p hp => by omega, fun p hp => by omega, fun i hi => absurd rfl hi⟩, fun k h0 hk => by omega, fun i k => ⟨fun h => by (cases h), fun ⟨p, hp, _⟩ => by omega⟩, rfl⟩, ((Fr.refl _ _).alloc _).alloc _, fun b hb => ?_⟩
 rcases mem_hB.1 hb with rfl | rfl | hb | ⟨k, _, hb⟩
 · omega
 · omega
 · cases hb
 · cases hb
end Go.Proofs.YtgmnemndjjmgkaaGreat
namespace Go.Proofs.YtgmnemndjjmgkaaGreat
open Go.RowKit Classical
set_option maxRecDepth 10000
set_option maxHeartbeats 800000
abbrev fptr (b : Nat) : Value := .pointer (some ⟨b, 0, none⟩)
def edV (e : Nat × Nat × Int) (t : Bool) : Value := .agg #[.int .i64 e.1, .int .i64 e.2.1, .int .i64 e.2.2, .bool t]
def edZ : Value := .agg #[.int .i64 0, .int .i64 0, .int .i64 0, .bool false]
noncomputable def mapG (G : EMap) (T : Nat → Prop) : Int → Option Value := fun k => if 0 ≤ k then (G k.toNat).map (fun e => edV e (decide (T k.toNat))) else none
theorem mapG_nat (G : EMap) (T : Nat → Prop) (s : Nat) : mapG G T s = (G s).map (fun e => edV e (decide (T s))) := by simp [mapG]
def qOf (G : EMap) : Nat → Option Int := fun i => (G i).map fun e => e.2.2
def okA : Value → Bool := fun _ => true
structure FB (w : World) (pf pl g ph mb S V : Nat) (G : EMap) (T : Nat → Prop) (key : Nat → Int) (n : Nat) : Prop where
  hd : Blk w pf 125 [.int .i64 V, .int .i64 S, fptr pl, fptr ph, .map (some mb), .int .i64 (cntT S T)]
  lct : LM w pl g (S + V) (TE S G T) key
  edges : IMap Tryz.prog 3 .i64 okA w mb (mapG G T) n
  gw : GW S V G
  keys : KeyOK S V G T key
  cn : n = cntT S (fun s => (G s).isSome = true)
  leS : S ≤ 16384
  leV : V ≤ 4096
  ne1 : pf ≠ pl
  ne2 : pf ≠ g
  ne3 : pf ≠ mb
  ne4 : pl ≠ mb
  ne5 : g ≠ mb
section
variable {w w' : World} {pf pl g ph mb S V n : Nat} {G : EMap} {T : Nat → Prop} {key : Nat → Int} {l : List Nat}
theorem FB.fr {X : List Nat} (h : FB w pf pl g ph mb S V G T key n) (hf : Fr X w w') (h1 : pf ∉ X) (h2 : pl ∉ X) (h3 : g ∉ X) (h4 : mb ∉ X) : FB w' pf pl g ph mb S V G T key n :=
  ⟨hf.blk h.hd h1, h.lct.fr hf h2 h3, h.edges.same (hf.keep mb h.edges.lt h4), h.gw, h.keys, h.cn, h.leS, h.leV, h.ne1, h.ne2, h.ne3, h.ne4, h.ne5⟩
theorem FB.fr0 (h : FB w pf pl g ph mb S V G T key n) (hf : Fr [] w w') : FB w' pf pl g ph mb S V G T key n := h.fr hf (by simp) (by simp) (by simp) (by simp)
theorem FB.lt (h : FB w pf pl g ph mb S V G T key n) : pf < w.heap.size ∧ pl < w.heap.size ∧ g < w.heap.size ∧ mb < w.heap.size := ⟨h.hd.lt, (LG.lts h.lct).1, (LG.lts h.lct).2.1, h.edges.lt⟩
theorem FB.frs (h : FB w pf pl g ph mb S V G T key n) : Frs (TE S G T) := LG.frs h.lct
@[go_sem] theorem neq_map (w : World) (r : Option Nat) : (binOp .neq 123 (.map r) (.map none)).run Tryz.prog w = .ok (.bool (!r.isNone)) w := run_neq_map_nil w _ _ _ r Tryz.underlying123
theorem fvalid_w (h : FB w pf pl g ph mb S V G T key n) : Calls Tryz.prog 87 #[fptr pf] w fun e w' => e = .returned (.bool true) ∧ w' = w := by
 have c4 := h.hd.cell 4
 simp only [List.getElem?_cons_zero, List.getElem?_cons_succ] at c4
 clear h
 go_enter Tryz.func87, Tryz.ntmps87
 go_wp2
 go_ret
 exact ⟨rfl, rfl⟩
theorem fhas_w (h : FB w pf pl g ph mb S V G T key n) (v : Int) : Calls Tryz.prog 81 #[fptr pf, .int .i64 v] w fun e w' => e = .returned (.bool (inV V v)) ∧ w' = w := by
 have c0 := h.hd.cell 0
 simp only [List.getElem?_cons_zero] at c0
 have hV := Lib.hid (fvalid_w h)
 clear h
 by_cases h1 : 0 ≤ v
 {
 by_cases h2 : v < V
 {
 have e : inV V v = true := by simp [inV, h1, h2]
 rw [e]; clear e
 go_enter Tryz.func81, Tryz.ntmps81
 go_wp2_with fail
 refine hV.out.mono ?_
 rintro _ w1 ⟨rfl, rfl⟩
 go_wp2
 go_ret
 exact ⟨rfl, rfl⟩
 }
 {
 have e : inV V v = false := by simp [inV, h2]
 rw [e]; clear e
 have t2 : decide (v < V) = false := decide_eq_false h2
 go_enter Tryz.func81, Tryz.ntmps81
 go_wp2_with fail
 refine hV.out.mono ?_
 rintro _ w1 ⟨rfl, rfl⟩
 go_wp2
 go_ret
 exact ⟨rfl, rfl⟩
 }
 }
 {
 have e : inV V v = false := by simp [inV, h1]
 rw [e]; clear e
 go_enter Tryz.func81, Tryz.ntmps81
 go_wp2_with fail
 refine hV.out.mono ?_
 rintro _ w1 ⟨rfl, rfl⟩
 go_wp2
 go_ret
 exact ⟨rfl, rfl⟩
 }
theorem fcount_w (h : FB w pf pl g ph mb S V G T key n) : Calls Tryz.prog 49 #[fptr pf] w fun e w' => e = .returned (.int .i64 ((V : Int) - cntT S T)) ∧ Fr [] w w' := by
 have c0 := h.hd.cell 0
 have c5 := h.hd.cell 5
 simp only [List.getElem?_cons_zero, List.getElem?_cons_succ] at c0 c5
 have hV := Lib.hid (fvalid_w h)
 have h1 := h.leV
 have h2 := h.leS
 have h3 := cntT_le S T
 clear h
 generalize cntT S T = q at *
 go_enter Tryz.func49, Tryz.ntmps49
 go_wp2_with fail
 refine hV.out.mono ?_
 rintro _ w1 ⟨rfl, rfl⟩
 go_wp2_with fail
 go_quiet (fail)
 go_wp2
 go_ret
 exact ⟨rfl, (Fr.refl _ _).drewN _⟩
end
def setKey (n : Nat) (key : Nat → Int) (a : Int) (k : Int) : Nat → Int := fun v => if inV n a = true ∧ v = a.toNat then k else key v
def setCode (n : Nat) (a : Int) : Int := if inV n a then 0 else 3
theorem set_w {w : World} {pf g n : Nat} {E : Nat → Nat → Prop} {key : Nat → Int} {ed : Int} (h : LG w pf g n E key ed) (a : Int) (k : Int) :
    Calls Tryz.prog 167 #[.pointer (some ⟨pf, 0, none⟩), .int .i64 a, .int .i64 k] w fun e w' => e = .returned (.int .i64 (setCode n a)) ∧ LG w' pf g n E (setKey n key a k) ed ∧ Fr [g] w w' := by
 have H := Lib.hid h
 obtain ⟨hp1, hg1, hn1⟩ := LG.lts h
 obtain ⟨cap, σ, F, par, d, rt, hL, hF, hE, hk⟩ := h
 have HF := Lib.hid hF; clear hF
 have HE := Lib.hid hE; clear hE
 have HK := Lib.hid hk; clear hk
 have hLa : LctAt (w.alloc (.cells #[.int .i64 a] 3)) pf g (n + 1) cap σ ed := hL.below ((Below.refl _ w).alloc (Nat.le_refl _) _) hp1 hg1
 have hblk := Blk.new w [.int .i64 a] 3
 have hFa : Fr [] w (w.alloc (.cells #[.int .i64 a] 3)) := (Fr.refl _ _).alloc _
 have HMa := Lib.hid (LG.fr H.out hFa (by simp) (by simp))
 have hCk := check_w hLa w.heap.size 1 (fun _ => a) (by decide) (fun k hk => by
   rw [hblk.cell]
   obtain rfl : k = 0 := by omega
   rfl)
 have HCk := Lib.hid hCk; clear hCk hblk hL
 go_enter Tryz.func167, Tryz.ntmps167
 go_wp2_with fail
 refine HCk.out.mono ?_
 rintro _ w1 ⟨hcode, rfl⟩
 clear HCk
 generalize w.alloc (.cells #[.int .i64 a] 3) = w1 at *
 rcases hcode with ⟨rfl, hall⟩ | ⟨rfl, j, hj, hbad⟩
 {
 have va : inV n a = true := hall 0 (by decide)
 clear hall
 obtain ⟨v, rfl, hv⟩ := inV_nat va
 have Hva := Lib.hid va; clear va
 go_wp2_with fail
 refine (expose_v hLa HF.out v hv).mono ?_
 rintro _ w2 ⟨m1, τ1, l1, R1, rfl, hL1, hE1, hF1⟩
 have HS := Lib.hid (hE1.lf.set k)
 have HE1 := Lib.hid hE1; clear hE1
 have d1 := hL1.hd.cell 1
 simp only [List.getElem?_cons_zero, List.getElem?_cons_succ] at d1
 have hfz := hL1.nodes.frozen
 have a4 := hL1.nodes.c4 (v + 1) (by omega)
 obtain ⟨hL2, hF2⟩ := hL1.st4 (Fr.refl [g] w2) (i := v + 1) (by omega) k
 have HL2 := Lib.hid (show LctAt _ pf g (n + 1) cap (set1 τ1 (v + 1) k) ed from hL2); clear hL2
 have hv2 : ((v + 1 : Nat) : Int) < ((n + 1 : Nat) : Int) := by omega
 go_wp2_with fail
 refine (refresh_v HL2.out v hv HS.out.2.2.2.2 HS.out.2.2.1 HS.out.2.2.2.1).mono ?_
 rintro _ w3 ⟨rfl, hL3, hF3⟩
 have HL3 := Lib.hid hL3; clear hL3
 go_wp2
 go_ret
 rw [show setCode n (v : Int) = 0 by unfold setCode; rw [Hva.out]; rfl]
 refine ⟨rfl, ⟨cap, _, _, par, d, rt, HL3.out, HS.out.1, HE.out, fun x hx => ?_⟩, (hFa.mono (S' := [g]) (by simp)).then (hF1.then (hF2.then hF3))⟩
 rw [HS.out.2.1]
 unfold setKey
 by_cases e : x = v
 · subst e; rw [if_pos rfl, if_pos ⟨Hva.out, by simp⟩]
 · rw [if_neg (by omega), if_neg (by simp; omega), HE1.out.key]; exact HK.out x hx
 }
 {
 have hva : inV n a = false := hbad
 have Hva := Lib.hid hva; clear hva hbad
 go_wp2
 go_ret
 rw [show setCode n a = 3 by unfold setCode; rw [Hva.out]; rfl]
 refine ⟨rfl, ?_, hFa.mono (by simp)⟩
 have : setKey n key a k = key := by funext x; unfold setKey; rw [if_neg (by simp [Hva.out])]
 rw [this]; exact HMa.out
 }
end Go.Proofs.YtgmnemndjjmgkaaGreat
