/- The document's store: Remove, the walk. -/
import Derived.Test.YtbegdgnhpklceaaGreatB17
set_option linter.unusedSimpArgs false
set_option linter.unusedVariables false
/- The document's store: Insert. -/
namespace Go.Proofs.YtbegdgnhpklceaaGreat
open Go.RowKit
set_option maxRecDepth 10000
set_option maxHeartbeats 1600000

section
variable {w w' : World} {pr pa pt n : Nat} {vL vU vC vR vT vF : Value} {s : Sm} {c : List Nat} {cl : Nat → Nat} {S K : List Nat}
theorem rs_ins_yes (h : RSB w pr pa pt vL vU vC vR vT vF s c n cl) (u v : Nat) (hu : u < 18446744073709551616) (hv : v < 18446744073709551616) (wt t x : Int) (hc : s.chk u v = 0) (hl : s.last + 1 < 18446744073709551616) (hcn : n + 1 < 18446744073709551616) :
    Calls Tryz.prog 11 #[ptr pr, recA u v wt t, .int .i64 x] w fun e w' => e = .returned (.tuple #[lvA (s.edge u v wt t x), .int .i64 0]) ∧
      ∃ K', RSt w' pr (s.ins u v wt t x) (n + 1) K' ∧ Fr (rsK pr pa pt vL vU vC vR vT vF) w w' ∧ ∀ q ∈ K', q ∈ rsK pr pa pt vL vU vC vR vT vF ∨ w.heap.size ≤ q := by
  have hok' := Sm.ok_ins h.ok hu hv hc hl wt t x
  have Hok' := Lib.hid hok'; clear hok'
  have hsl := Sm.slot_next h.ok hc
  have hslt := Ar.next_lt h.ok.ar hsl
  have hlen := sm_len_le h.ok
  have hokA := h.ok.ar
  have HOM := Lib.hid (And.intro h.ok.md (Md.ok_put h.ok.md hu))
  have HCN := Lib.hid (h.cn.alloc hokA hsl)
  have HKK := Lib.hid (And.intro h.kp (And.intro h.kl (And.intro h.ka h.kt)))
  have HLT := Lib.hid h.lt
  obtain ⟨aL, cL, rfl⟩ := h.row.slice
  have HC0 := rs_check (w := w) h u v wt t
  clear HC0
  have hf0 : Fr [] w ((w.alloc (.cells #[.int .u64 u, .int .u64 v, .int .i64 wt, .int .i64 t] 34)).alloc (.cells #[.int .i64 0, .int .u64 0, .int .u64 0, .int .u64 0, .int .i64 0, .int .i64 0, .int .i64 0] 36)) := ((Fr.refl [] w).alloc _).alloc _
  have hC := rs_check (h.fr0 hf0) u v wt t
  rw [hc] at hC
  have HC := Lib.hid hC; clear hC
  have hbr : Blk (w.alloc (.cells #[.int .u64 u, .int .u64 v, .int .i64 wt, .int .i64 t] 34)) w.heap.size 34 [.int .u64 u, .int .u64 v, .int .i64 wt, .int .i64 t] := Blk.new w _ _
  have hbr1 := hbr.fr1 ((Fr.refl [] _).alloc (.cells #[.int .i64 0, .int .u64 0, .int .u64 0, .int .u64 0, .int .i64 0, .int .i64 0, .int .i64 0] 36))
  have q0 := hbr1.cell 0; have q1 := hbr1.cell 1; have q2 := hbr1.cell 2; have q3 := hbr1.cell 3
  simp only [List.getElem?_cons_zero, List.getElem?_cons_succ] at q0 q1 q2 q3
  have hbx : Blk ((w.alloc (.cells #[.int .u64 u, .int .u64 v, .int .i64 wt, .int .i64 t] 34)).alloc (.cells #[.int .i64 0, .int .u64 0, .int .u64 0, .int .u64 0, .int .i64 0, .int .i64 0, .int .i64 0] 36)) (w.heap.size + 1) 36 [.int .i64 0, .int .u64 0, .int .u64 0, .int .u64 0, .int .i64 0, .int .i64 0, .int .i64 0] := by
    have := Blk.new (w.alloc (.cells #[.int .u64 u, .int .u64 v, .int .i64 wt, .int .i64 t] 34)) [.int .i64 0, .int .u64 0, .int .u64 0, .int .u64 0, .int .i64 0, .int .i64 0, .int .i64 0] 36
    simpa using this
  have hsz1 : w.heap.size + 2 ≤ ((w.alloc (.cells #[.int .u64 u, .int .u64 v, .int .i64 wt, .int .i64 t] 34)).alloc (.cells #[.int .i64 0, .int .u64 0, .int .u64 0, .int .u64 0, .int .i64 0, .int .i64 0, .int .i64 0] 36)).heap.size := by simp
  have H1 := Lib.hid (And.intro (h.fr0 hf0) (And.intro hbr1 (And.intro hbx (And.intro hf0 hsz1))))
  clear hbr hbr1 hbx hf0 hsz1 h hc
  obtain ⟨ed, hed⟩ : ∃ ed, ed = s.edge u v wt t x := ⟨_, rfl⟩
  rw [← hed]
  have hedf : ed = ⟨s.slot, s.last + 1, u, v, wt, t, x⟩ := hed
  have HED := Lib.hid (And.intro hed hedf); clear hed hedf
  go_enter Tryz.func11, Tryz.ntmps11
  go_wp2_with fail
  clear q0 q1 q2 q3
  generalize (w.alloc (.cells #[.int .u64 u, .int .u64 v, .int .i64 wt, .int .i64 t] 34)).alloc (.cells #[.int .i64 0, .int .u64 0, .int .u64 0, .int .u64 0, .int .i64 0, .int .i64 0, .int .i64 0] 36) = w1 at *
  refine HC.out.mono ?_
  rintro _ w2 ⟨rfl, hF2⟩
  have H2 := Lib.hid (And.intro (H1.out.1.fr0 hF2) (And.intro (H1.out.2.1.fr1 hF2) (And.intro (H1.out.2.2.1.fr1 hF2) (And.intro (H1.out.2.2.2.1.trans' hF2) (Nat.le_trans H1.out.2.2.2.2 hF2.size)))))
  clear HC hF2 H1
  have c4 := H2.out.1.hd.cell 4
  simp only [List.getElem?_cons_zero, List.getElem?_cons_succ] at c4
  have HA := Lib.hid (raalloc_w H2.out.1.ar hokA H2.out.1.cn hcn hsl)
  go_wp2_with fail
  clear c4
  refine HA.out.mono ?_
  rintro _ w3 ⟨rfl, vR', hA3, hF3, hq3⟩
  clear HA
  -- after Alloc
  have hnA : ∀ q, q ∈ rAB pa vU vC vR → q < w.heap.size ∧ cl q = 2 := fun q hq => ⟨HLT.out q (by simp [rsK, hq]), HKK.out.2.2.1 q hq⟩
  have H3 := Lib.hid (And.intro (hF3.blk H2.out.1.hd (fun hm => by have := (hnA _ hm).2; have := HKK.out.1; omega)) (And.intro (H2.out.1.row.fr hF3 (fun q hq hm => by have := (hnA _ hm).2; have := HKK.out.2.1 q hq; omega))
    (And.intro (H2.out.1.tb.fr hF3 (fun q hq hm => by have := (hnA _ hm).2; have := HKK.out.2.2.2 q hq; omega)) (And.intro (hF3.blk H2.out.2.1 (fun hm => by have := (hnA _ hm).1; omega)) (And.intro (hF3.blk H2.out.2.2.1 (fun hm => by have := (hnA _ hm).1; omega)) (And.intro hA3 hq3))))))
  have HF3 := Lib.hid (And.intro ((H2.out.2.2.2.1.mono (S' := rsK pr pa pt (.slice aL s.L.length cL) vU vC vR vT vF) (by simp)).trans' (hF3.mono (fun q hq => .inl (by simp [rsK, hq])))) (Nat.le_trans H2.out.2.2.2.2 hF3.size))
  clear hF3 hA3 hq3 hnA H2
  have hnT : ∀ q, q ∈ rTB pt vT vF → q < w.heap.size ∧ cl q = 3 := fun q hq => ⟨HLT.out q (by simp [rsK, hq]), HKK.out.2.2.2 q hq⟩
  have HnT := Lib.hid hnT; clear hnT
  have c5 := H3.out.1.cell 5
  have q0 := H3.out.2.2.2.1.cell 0
  simp only [List.getElem?_cons_zero, List.getElem?_cons_succ] at c5 q0
  have HP := Lib.hid (rput_w (H3.out.2.2.1.fr0 (Fr.refl [] w3).drew) HOM.out.1 u)
  have HK4 := Lib.hid (fun (w4 : World) (hf : Fr (rTB pt vT vF) w3.drew w4) => And.intro (hf.cell ((Fr.refl [] w3).drew.cell c5 (by simp)) (fun hm => by have := (HnT.out _ hm).2; have := HKK.out.1; dsimp only at *; omega)) (hf.cell ((Fr.refl [] w3).drew.cell q0 (by simp)) (fun hm => by have := (HnT.out _ hm).1; dsimp only at *; omega)))
  go_wp2_with fail
  go_region_held3 (fun w' => w'.cell? ⟨pr, 5, none⟩ = some (ptr pt) ∧ w'.cell? ⟨w.heap.size, 0, none⟩ = some (.int .u64 u))
    (first
      | go_keep
      | (exact HK4.out _ hF4))
    (first
      | (go_at_call 45; refine HP.out.mono ?_; rintro _ w4 ⟨rfl, vT1, vF1, hT4, hF4, hq4⟩))
  have hs34 : w3.drew.heap.size = w3.heap.size := rfl
  have hF4' : Fr (rTB pt vT vF) w3 w4 := (Fr.refl _ w3).drew.trans' hF4
  have H4 := Lib.hid (And.intro (hF4'.blk H3.out.1 (fun hm => by have := (HnT.out _ hm).2; have := HKK.out.1; omega)) (And.intro (H3.out.2.1.fr hF4' (fun q hq hm => by have := (HnT.out _ hm).2; have := HKK.out.2.1 q hq; omega))
    (And.intro hT4 (And.intro (hF4'.blk H3.out.2.2.2.1 (fun hm => by have := (HnT.out _ hm).1; omega)) (And.intro (hF4'.blk H3.out.2.2.2.2.1 (fun hm => by have := (HnT.out _ hm).1; omega)) (And.intro (H3.out.2.2.2.2.2.1.fr hF4' (fun q hq hm => by have h1 := (HnT.out _ hm).2; have h2 := HKK.out.2.2.1 q (H3.out.2.2.2.2.2.2 q hq); omega)) H3.out.2.2.2.2.2.2))))))
  have HF4 := Lib.hid (And.intro (HF3.out.1.trans' (hF4'.mono (fun q hq => .inl (by simp [rsK, hq])))) (Nat.le_trans HF3.out.2 hF4'.size))
  have hw03 := HF3.out.2
  have HnT1 := Lib.hid (show ∀ q, q ∈ rTB pt vT1 vF1 → (q < w.heap.size ∧ cl q = 3) ∨ w.heap.size + 2 ≤ q from fun q hq => (hq4 q hq).imp (HnT.out q) (fun e => by omega))
  have HQ4 := Lib.hid (show ∀ q, q ∈ rTB pt vT1 vF1 → q ∈ rTB pt vT vF ∨ w.heap.size ≤ q from fun q hq => (hq4 q hq).imp id (fun e => by omega))
  clear hF4 hF4' hT4 hq4 H3 HP HK4 c5 q0 hs34 hw03 HF3
  have c5 := H4.out.1.cell 5
  have q1 := H4.out.2.2.2.1.cell 1
  simp only [List.getElem?_cons_zero, List.getElem?_cons_succ] at c5 q1
  have HP := Lib.hid (rput_w (H4.out.2.2.1.fr0 (Fr.refl [] w4).drew) HOM.out.2 v)
  have HK5 := Lib.hid (fun (w5 : World) (hf : Fr (rTB pt vT1 vF1) w4.drew w5) => And.intro (hf.cell ((Fr.refl [] w4).drew.cell c5 (by simp)) (fun hm => by have h1 := HnT1.out _ hm; have h2 := HKK.out.1; have h3 := HLT.out pr (by simp [rsK]); dsimp only at *; omega)) (hf.cell ((Fr.refl [] w4).drew.cell q1 (by simp)) (fun hm => by have := HnT1.out _ hm; dsimp only at *; omega)))
  go_wp2_with fail
  go_region_held3 (fun w' => w'.cell? ⟨pr, 5, none⟩ = some (ptr pt) ∧ w'.cell? ⟨w.heap.size, 1, none⟩ = some (.int .u64 v))
    (first
      | go_keep
      | (exact HK5.out _ hF5))
    (first
      | (go_at_call 45; refine HP.out.mono ?_; rintro _ w5 ⟨rfl, vT2, vF2, hT5, hF5, hq5⟩))
  have hF5' : Fr (rTB pt vT1 vF1) w4 w5 := (Fr.refl _ w4).drew.trans' hF5
  have hw04 := HF4.out.2
  have hs4d : w4.drew.heap.size = w4.heap.size := rfl
  have hlpr := HLT.out pr (by simp [rsK])
  have hkp := HKK.out.1
  have H5 := Lib.hid (And.intro (hF5'.blk H4.out.1 (fun hm => by have := HnT1.out _ hm; omega)) (And.intro (H4.out.2.1.fr hF5' (fun q hq hm => by have h1 := HnT1.out _ hm; have h2 := HKK.out.2.1 q hq; have h3 := HLT.out q (by simp [rsK, hq]); omega))
    (And.intro hT5 (And.intro (hF5'.blk H4.out.2.2.2.1 (fun hm => by have := HnT1.out _ hm; omega)) (And.intro (hF5'.blk H4.out.2.2.2.2.1 (fun hm => by have := HnT1.out _ hm; omega)) (And.intro (H4.out.2.2.2.2.2.1.fr hF5' (fun q hq hm => by have h1 := HnT1.out _ hm; have h4 := H4.out.2.2.2.2.2.2 q hq; have h2 := HKK.out.2.2.1 q h4; have h3 := HLT.out q (by simp [rsK, h4]); omega)) H4.out.2.2.2.2.2.2))))))
  have HF5 := Lib.hid (And.intro (HF4.out.1.trans (hF5'.mono (S' := rTB pt vT1 vF1) (fun q hq => .inl hq)) (fun q hq => (HQ4.out q hq).imp (fun e => by simp [rsK, e]) (fun e => e))) (Nat.le_trans HF4.out.2 hF5'.size))
  have HnT2 := Lib.hid (show ∀ q, q ∈ rTB pt vT2 vF2 → (q ∈ rTB pt vT vF ∧ q < w.heap.size ∧ cl q = 3) ∨ (w.heap.size + 2 ≤ q ∧ q < w5.heap.size) from fun q hq => by
    have hlt := hT5.lt q hq
    rcases hq5 q hq with e | e
    · rcases HnT1.out q e with e1 | e1
      · rcases HQ4.out q e with e2 | e2
        · exact .inl ⟨e2, e1⟩
        · omega
      · exact .inr ⟨e1, hlt⟩
    · exact .inr ⟨by omega, hlt⟩)
  clear hF5 hF5' hT5 hq5 H4 HP HK5 c5 q1 hs4d hw04 HF4 HnT1 HQ4 HnT
  -- the number
  have c2 := H5.out.1.cell 2
  have f2 := H5.out.1.frozen 2
  simp only [List.getElem?_cons_zero, List.getElem?_cons_succ] at c2
  obtain ⟨l1, hl1⟩ : ∃ l1, l1 = s.last + 1 := ⟨_, rfl⟩
  obtain ⟨sl, hsl2⟩ : ∃ sl, sl = s.slot := ⟨_, rfl⟩
  have hwl : IntKind.u64.wrap ((s.last : Int) + 1) = (l1 : Int) := by rw [hl1]; simp [IntKind.wrap, IntKind.bits, IntKind.signed]; omega
  have hed2 := HED.out.2
  rw [← hl1, ← hsl2] at hed2
  have HE2 := Lib.hid (And.intro hed2 (And.intro hl1 hsl2))
  rw [← hsl2]
  clear hed2 hl1 hsl2
  go_wp2_with fail
  clear c2 f2 hwl
  have hF6 : Fr [pr] w5 (w5.setCell ⟨pr, 2, none⟩ (.int .u64 l1)) := (Fr.refl _ _).setCell _ _ (.inl (by simp))
  have hd6 := H5.out.1.set 2 (.int .u64 l1)
  simp only [List.set_cons_succ, List.set_cons_zero] at hd6
  have hlT := HnT2.out
  have H6 := Lib.hid (And.intro hd6 (And.intro (H5.out.2.1.fr hF6 (fun q hq hm => by have h2 := HKK.out.2.1 q hq; simp at hm; subst hm; omega))
    (And.intro (H5.out.2.2.1.fr hF6 (fun q hq hm => by have h1 := HnT2.out q hq; simp at hm; subst hm; omega)) (And.intro (hF6.blk H5.out.2.2.2.1 (by simp; omega)) (And.intro (hF6.blk H5.out.2.2.2.2.1 (by simp; omega)) (And.intro (H5.out.2.2.2.2.2.1.fr hF6 (fun q hq hm => by have h4 := H5.out.2.2.2.2.2.2 q hq; have h2 := HKK.out.2.2.1 q h4; simp at hm; subst hm; omega)) H5.out.2.2.2.2.2.2))))))
  have HF6 := Lib.hid (And.intro (HF5.out.1.trans' (hF6.mono (fun q hq => .inl (by simp at hq; simp [rsK, hq])))) (Nat.le_trans HF5.out.2 hF6.size))
  have HS6 := Lib.hid (show w5.heap.size ≤ (w5.setCell ⟨pr, 2, none⟩ (.int .u64 l1)).heap.size from hF6.size)
  clear hd6 hF6 H5 HF5 hlT
  obtain ⟨w5s, hw5s⟩ : ∃ m, m = w5.heap.size := ⟨_, rfl⟩
  rw [← hw5s] at HnT2 HS6
  clear hw5s
  generalize w5.setCell ⟨pr, 2, none⟩ (.int .u64 l1) = w6 at *
  have c2 := H6.out.1.cell 2
  have p0 := H6.out.2.2.2.1.cell 0; have p1 := H6.out.2.2.2.1.cell 1; have p2 := H6.out.2.2.2.1.cell 2; have p3 := H6.out.2.2.2.1.cell 3
  simp only [List.getElem?_cons_zero, List.getElem?_cons_succ] at c2 p0 p1 p2 p3
  have HC4 := Lib.hid (fun (w' : World) (hf : Fr [] w6 w') => And.intro (hf.cell c2 (by simp)) (And.intro (hf.cell p0 (by simp)) (And.intro (hf.cell p1 (by simp)) (And.intro (hf.cell p2 (by simp)) (hf.cell p3 (by simp))))))
  go_region_held3 (fun w' => w'.cell? ⟨pr, 2, none⟩ = some (.int .u64 l1) ∧ w'.cell? ⟨w.heap.size, 0, none⟩ = some (.int .u64 u) ∧ w'.cell? ⟨w.heap.size, 1, none⟩ = some (.int .u64 v) ∧ w'.cell? ⟨w.heap.size, 2, none⟩ = some (.int .i64 wt) ∧ w'.cell? ⟨w.heap.size, 3, none⟩ = some (.int .i64 t))
    (first
      | go_keep
      | (exact HC4.out _ ((Fr.refl [] w6).alloc _))
      | (exact HC4.out _ (((Fr.refl [] w6).alloc _).drew)))
    (fail)
  have hF7 : Fr [] w6 (w6.alloc (.cells #[.int .i64 sl, .int .u64 l1, .int .u64 u, .int .u64 v, .int .i64 wt, .int .i64 t, .int .i64 x] 36)).drew := ((Fr.refl [] w6).alloc _).drew
  have hx7 : Blk (w6.alloc (.cells #[.int .i64 sl, .int .u64 l1, .int .u64 u, .int .u64 v, .int .i64 wt, .int .i64 t, .int .i64 x] 36)).drew w6.heap.size 36 [.int .i64 sl, .int .u64 l1, .int .u64 u, .int .u64 v, .int .i64 wt, .int .i64 t, .int .i64 x] := (Blk.new w6 _ _).drew
  have hs67 : w6.heap.size + 1 = (w6.alloc (.cells #[.int .i64 sl, .int .u64 l1, .int .u64 u, .int .u64 v, .int .i64 wt, .int .i64 t, .int .i64 x] 36)).drew.heap.size := by simp
  clear c2 p0 p1 p2 p3 HC4
  have H7 := Lib.hid (And.intro (H6.out.1.fr1 hF7) (And.intro (H6.out.2.1.fr0 hF7) (And.intro (H6.out.2.2.1.fr0 hF7) (And.intro hx7 (And.intro (H6.out.2.2.2.2.1.fr1 hF7) (And.intro (H6.out.2.2.2.2.2.1.fr0 hF7) H6.out.2.2.2.2.2.2))))))
  have HF7 := Lib.hid (And.intro (HF6.out.1.trans' (hF7.mono (by simp))) (Nat.le_trans HF6.out.2 hF7.size))
  have hw6 := HF6.out.2
  have hs6 := HS6.out
  obtain ⟨xb, hxb⟩ : ∃ xb, xb = w6.heap.size := ⟨_, rfl⟩
  rw [← hxb] at H7 hs67 hw6 hs6 hx7 ⊢
  have HXB := Lib.hid (And.intro hs67 (And.intro hw6 hs6))
  clear hF7 hx7 hs67 HF6 H6 HS6 hxb hw6 hs6
  generalize (w6.alloc (.cells #[.int .i64 sl, .int .u64 l1, .int .u64 u, .int .u64 v, .int .i64 wt, .int .i64 t, .int .i64 x] 36)).drew = w7 at *
  -- the row
  have c3 := H7.out.1.cell 3
  have f3 := H7.out.1.frozen 3
  simp only [List.getElem?_cons_zero, List.getElem?_cons_succ] at c3
  have e3 := ((Fr.refl [] w7).alloc (.cells #[.int .i64 sl, .int .u64 l1, .int .u64 u, .int .u64 v, .int .i64 wt, .int .i64 t, .int .i64 x] 36)).cell c3 (by simp)
  have g0 := H7.out.2.2.2.1.cell 0; have g1 := H7.out.2.2.2.1.cell 1; have g2 := H7.out.2.2.2.1.cell 2; have g3 := H7.out.2.2.2.1.cell 3; have g4 := H7.out.2.2.2.1.cell 4; have g5 := H7.out.2.2.2.1.cell 5; have g6 := H7.out.2.2.2.1.cell 6
  simp only [List.getElem?_cons_zero, List.getElem?_cons_succ] at g0 g1 g2 g3 g4 g5 g6
  have hprL : ∀ q, (Value.slice aL s.L.length cL).ownBlock = some q → q ≠ pr := fun q hq e => by have h2 := HKK.out.2.1 q hq; subst e; omega
  have HprL := Lib.hid hprL; clear hprL
  go_wp2_with fail
  go_region_law (first | (refine step_appK (by rfl) _ _ _ (by rfl) 36 lvZero 7 56 Tryz.underlying60 Tryz.info36 rfl (by decide) (.slice aL s.L.length cL) s.L.length _ (by rfl) (show World.ownsRow _ 0 _ 7 _ _ (rowV s.L) from (H7.out.2.1.fr0 (((Fr.refl [] w7).alloc (.cells #[.int .i64 sl, .int .u64 l1, .int .u64 u, .int .u64 v, .int .i64 wt, .int .i64 t, .int .i64 x] 36)).drew))) w7.heap.size 36 [.int .i64 sl, .int .u64 l1, .int .u64 u, .int .u64 v, .int .i64 wt, .int .i64 t, .int .i64 x] (by rfl) ((Blk.new w7 [.int .i64 sl, .int .u64 l1, .int .u64 u, .int .u64 v, .int .i64 wt, .int .i64 t, .int .i64 x] 36).drew) rfl (by simp [Value.oneCell']) (by omega) (by decide) ?_; intro g' cap' w8 hown8 hgrow8 hg8; have hF8 := (Fr.refl (Value.slice aL s.L.length cL).ownBlock.toList _).grown hgrow8 (fun q e => .inl (by simp [e])); have hk8 := ((((Fr.refl _ w7).alloc (.cells #[.int .i64 sl, .int .u64 l1, .int .u64 u, .int .u64 v, .int .i64 wt, .int .i64 t, .int .i64 x] 36)).drew).trans' hF8).blk H7.out.1 (fun hm => HprL.out pr (by simpa using hm) rfl); have y8 := hk8.cell 3; have z8 := hk8.frozen 3; simp only [List.getElem?_cons_zero, List.getElem?_cons_succ] at y8))
  all_goals
    have HL := Lib.hid (show ∀ q, q ∈ (Value.slice aL s.L.length cL).ownBlock.toList → q < w.heap.size ∧ cl q = 1 from fun q hq => ⟨HLT.out q (by simp only [rsK, List.mem_cons, List.mem_append]; exact .inr (.inl hq)), HKK.out.2.1 q (by simpa using hq)⟩)
    have hF8' : Fr (Value.slice aL s.L.length cL).ownBlock.toList w7 w8 := (((Fr.refl _ w7).alloc _).drew).trans' hF8
    have hxs := HXB.out
    have hd8 := hF8'.blk H7.out.1 (fun hm => HprL.out pr (by simpa using hm) rfl)
    have hd9 := hd8.set 3 (.slice (some ⟨g', 0, none⟩) (s.L.length + 1) cap')
    simp only [List.set_cons_succ, List.set_cons_zero] at hd9
    have hg8' : (Value.slice aL s.L.length cL).ownBlock = some g' ∨ w7.heap.size + 1 ≤ g' := hg8.imp id (fun e => by simpa using e)
    have hgp : g' ≠ pr := by
      rcases hg8' with e | e
      · exact HprL.out g' e
      · omega
    have hr9 : RowV (w8.setCell ⟨pr, 3, none⟩ (.slice (some ⟨g', 0, none⟩) (s.L.length + 1) cap')) (.slice (some ⟨g', 0, none⟩) (s.L.length + 1) cap') (s.L ++ [ed]) := by
      unfold RowV
      rw [rowV_snoc, List.length_append, HE2.out.1]
      exact ownsRow_other hown8 _ _ (by simpa [Value.ownBlock] using hgp)
    have hF9 : Fr [pr] w8 (w8.setCell ⟨pr, 3, none⟩ (.slice (some ⟨g', 0, none⟩) (s.L.length + 1) cap')) := (Fr.refl _ _).setCell _ _ (.inl (by simp))
    have ht9 := (H7.out.2.2.1.fr hF8' (fun q hq hm => by have h1 := HnT2.out q hq; have h2 := HL.out q hm; omega)).fr hF9 (fun q hq hm => by have h1 := HnT2.out q hq; simp at hm; subst hm; omega)
    have ha9 := (H7.out.2.2.2.2.2.1.fr hF8' (fun q hq hm => by have h4 := H7.out.2.2.2.2.2.2 q hq; have h2 := HKK.out.2.2.1 q h4; have h3 := HL.out q hm; omega)).fr hF9 (fun q hq hm => by have h4 := H7.out.2.2.2.2.2.2 q hq; have h2 := HKK.out.2.2.1 q h4; simp at hm; subst hm; omega)
    have hx9 := hF9.blk (hF8'.blk H7.out.2.2.2.1 (fun hm => by have h3 := HL.out _ hm; omega)) (by simp; omega)
    have hb9 := hF9.blk (hF8'.blk H7.out.2.2.2.2.1 (fun hm => by have h3 := HL.out _ hm; omega)) (by simp; omega)
    have hT9 := (HF7.out.1.trans' (hF8'.mono (S' := rsK pr pa pt (.slice aL s.L.length cL) vU vC vR vT vF) (fun q hq => .inl (by simp only [rsK, List.mem_cons, List.mem_append]; exact .inr (.inl hq))))).trans' (hF9.mono (fun q hq => .inl (by simp at hq; simp [rsK, hq])))
    have H9 := Lib.hid (And.intro hd9 (And.intro hr9 (And.intro ht9 (And.intro ha9 (And.intro hT9 (And.intro hg8' hgp))))))
    have HR := Lib.hid (hb9.put7 ed)
    have HQA := Lib.hid H7.out.2.2.2.2.2.2
    have HSZ := Lib.hid (show w.heap.size + 2 ≤ xb ∧ xb + 1 = w7.heap.size ∧ w5s ≤ xb from ⟨hxs.2.1, hxs.1, hxs.2.2⟩)
    clear hF8 hF8' hd8 hd9 hg8 hg8' hgp hr9 hF9 ht9 ha9 hT9 hown8 hgrow8 y8 z8 hk8 c3 f3 e3 g0 g1 g2 g3 g4 g5 g6 hxs HF7 H7
    generalize w8.setCell ⟨pr, 3, none⟩ (.slice (some ⟨g', 0, none⟩) (s.L.length + 1) cap') = w9 at *
    have g0 := hx9.cell 0; have g1 := hx9.cell 1; have g2 := hx9.cell 2; have g3 := hx9.cell 3; have g4 := hx9.cell 4; have g5 := hx9.cell 5; have g6 := hx9.cell 6
    have z := hb9.frozen
    have t0 := hb9.cell 0; have t1 := hb9.cell 1; have t2 := hb9.cell 2; have t3 := hb9.cell 3; have t4 := hb9.cell 4; have t5 := hb9.cell 5; have t6 := hb9.cell 6
    simp only [List.getElem?_cons_zero, List.getElem?_cons_succ] at g0 g1 g2 g3 g4 g5 g6 t0 t1 t2 t3 t4 t5 t6
    clear hx9 hb9
    go_wp2_with fail
    have r := HR.out.lvAt
    rw [HE2.out.1] at r
    unfold LvAt Go.Proofs.YtbegdgnhpklceaaGreat.put7 at r
    simp only [Nat.zero_add] at r
    obtain ⟨r0, r1, r2, r3, r4, r5, r6⟩ := r
    refine bodyPost_ret (v := .tuple #[lvA ed, .int .i64 0]) (by rw [HE2.out.1]; simp [results, Tryz.results11, go_sem, r0, r1, r2, r3, r4, r5, r6]) rfl ⟨rfl, ?_⟩
    have hE := HE2.out.1
    have hput : put7 w9 (w.heap.size + 1) 0 ⟨sl, l1, u, v, wt, t, x⟩ = put7 w9 (w.heap.size + 1) 0 ed := by rw [hE]
    have hF10 : Fr [w.heap.size + 1] w9 (put7 w9 (w.heap.size + 1) 0 ⟨sl, l1, u, v, wt, t, x⟩) := (Fr.refl _ _).put7 _ _ _ (.inl (by simp))
    obtain ⟨k1, k2, k3, k4, k5, k6, k7⟩ := H9.out
    have hsz := HSZ.out
    have hLp := HLT.out pr (by simp [rsK])
    have hAl : ∀ q, q ∈ rAB pa vU vC vR' → q < w.heap.size ∧ cl q = 2 := fun q hq => ⟨HLT.out q (by have := HQA.out q hq; simp [rsK, this]), HKK.out.2.2.1 q (HQA.out q hq)⟩
    refine ⟨_, ⟨pa, pt, .slice (some ⟨g', 0, none⟩) (s.L.length + 1) cap', vU, vC, vR', vT2, vF2, _, fun q => if q < w.heap.size then cl q else if q = g' then 1 else 3, ⟨?_, ?_, k4.fr hF10 (fun q hq hm => by have := (hAl q hq).1; simp at hm; omega), k3.fr hF10 (fun q hq hm => by have h1 := HnT2.out q hq; simp at hm; omega), HCN.out, Hok'.out, ?_, ?_, ?_, ?_⟩, rfl⟩, ?_, ?_⟩
    · have hb := hF10.blk k1 (by simp; omega)
      show Blk _ pr _ [.bool true, .int .i64 s.V, .int .u64 ((s.last + 1 : Nat) : Int), _, ptr pa, ptr pt]
      rw [← HE2.out.2.1]; exact hb
    · show RowV _ _ (s.L ++ [s.edge u v wt t x])
      rw [← HED.out.1]
      refine k2.fr hF10 (fun q hq hm => ?_)
      simp only [Value.ownBlock, Option.some.injEq] at hq
      simp at hm
      rcases k6 with e | e
      · have := (HL.out g' (by simp [e])).1; omega
      · omega
    · show (if pr < w.heap.size then cl pr else _) = 0
      rw [if_pos hLp]; exact HKK.out.1
    · intro q hq
      simp only [Value.ownBlock, Option.some.injEq] at hq
      subst hq
      show (if g' < w.heap.size then cl g' else if g' = g' then 1 else 3) = 1
      rcases k6 with e | e
      · have := HL.out g' (by simp [e]); rw [if_pos this.1]; exact this.2
      · rw [if_neg (by omega), if_pos rfl]
    · intro q hq
      have := hAl q hq
      show (if q < w.heap.size then cl q else _) = 2
      rw [if_pos this.1]; exact this.2
    · intro q hq
      show (if q < w.heap.size then cl q else if q = g' then 1 else 3) = 3
      rcases HnT2.out q hq with e | e
      · rw [if_pos e.2.1]; exact e.2.2
      · rw [if_neg (by omega), if_neg]
        rintro rfl
        rcases k6 with e1 | e1
        · have := (HL.out q (by simp [e1])).1; omega
        · omega
    · exact k5.put7 (w.heap.size + 1) 0 ⟨sl, l1, u, v, wt, t, x⟩ (.inr (by omega))
    · intro q hq
      have e1 : (Value.slice (some ⟨g', 0, none⟩) (s.L.length + 1) cap').ownBlock = some g' := rfl
      simp only [rsK, e1, Option.toList_some, List.mem_cons, List.mem_append, List.not_mem_nil, or_false] at hq ⊢
      rcases hq with hq | hq | hq | hq
      · exact .inl (.inl hq)
      · subst hq
        rcases k6 with e | e
        · exact .inl (.inr (.inl (by simp [e])))
        · exact .inr (by omega)
      · exact .inl (.inr (.inr (.inl (HQA.out q hq))))
      · rcases HnT2.out q hq with e | e
        · exact .inl (.inr (.inr (.inr e.1)))
        · exact .inr (by omega)
end
end Go.Proofs.YtbegdgnhpklceaaGreat

/- The document's store: Remove. -/
namespace Go.Proofs.YtbegdgnhpklceaaGreat
open Go.RowKit
set_option maxRecDepth 10000
set_option maxHeartbeats 1600000

abbrev zL : List Value := [.int .i64 0, .int .u64 0, .int .u64 0, .int .u64 0, .int .i64 0, .int .i64 0, .int .i64 0]
/-- A stage of Remove. -/
structure Stg (w0 : World) (K0 : List Nat) (w : World) (pr pa pt V last : Nat) (y : Value) (L : List Lv) (vU vC vR : Value) (A : Ar) (c : List Nat) (vT vF : Value) (M : Md) (xb yb : Nat) (e : Lv) (cl : Nat → Nat) : Prop where
  hd : Blk w pr 81 [.bool true, .int .i64 V, .int .u64 last, y, ptr pa, ptr pt]
  row : RowV w y L
  ar : RArn w pa vU vC vR A c
  tb : RTab w pt vT vF M
  xx : Blk w xb 36 zL
  yy : Blk w yb 36 (lvC e)
  kp : cl pr = 0
  kl : ∀ q, y.ownBlock = some q → cl q = 1
  ka : ∀ q ∈ rAB pa vU vC vR, cl q = 2
  kt : ∀ q ∈ rTB pt vT vF, cl q = 3
  kx : cl xb = 4
  ky : cl yb = 5
  fr : Fr K0 w0 w
  own : ∀ q ∈ rsK pr pa pt y vU vC vR vT vF, q ∈ K0 ∨ w0.heap.size ≤ q
  x0 : w0.heap.size ≤ xb
section
variable {w0 w w' : World} {K0 : List Nat} {pr pa pt V last xb yb n : Nat} {y y' vU vC vR vR' vT vF vT' vF' : Value} {L L' : List Lv} {A A' : Ar} {c c' : List Nat} {M M' : Md} {e : Lv} {cl : Nat → Nat}
theorem Stg.fr0 (h : Stg w0 K0 w pr pa pt V last y L vU vC vR A c vT vF M xb yb e cl) (hf : Fr [] w w') : Stg w0 K0 w' pr pa pt V last y L vU vC vR A c vT vF M xb yb e cl :=
  ⟨h.hd.fr1 hf, h.row.fr0 hf, h.ar.fr0 hf, h.tb.fr0 hf, h.xx.fr1 hf, h.yy.fr1 hf, h.kp, h.kl, h.ka, h.kt, h.kx, h.ky, h.fr.trans' (hf.mono (by simp)), h.own, h.x0⟩
theorem Stg.tab (h : Stg w0 K0 w pr pa pt V last y L vU vC vR A c vT vF M xb yb e cl) (hT : RTab w' pt vT' vF' M') (hF : Fr (rTB pt vT vF) w w') (hQ : ∀ q ∈ rTB pt vT' vF', q ∈ rTB pt vT vF ∨ w.heap.size ≤ q) :
    ∃ cl', Stg w0 K0 w' pr pa pt V last y L vU vC vR A c vT' vF' M' xb yb e cl' := by
  have hs0 := h.fr.size
  have hl : ∀ {q k : Nat}, q < w.heap.size → cl q = k → (if q < w.heap.size then cl q else 3) = k := fun h1 h2 => by rw [if_pos h1]; exact h2
  have hlr : ∀ q, y.ownBlock = some q → q < w.heap.size := fun q hq => h.row.lt hq
  refine ⟨fun q => if q < w.heap.size then cl q else 3, hF.blk h.hd (fun hm => by have := h.kt _ hm; have := h.kp; omega), h.row.fr hF (fun q hq hm => by have := h.kt _ hm; have := h.kl q hq; omega), h.ar.fr hF (fun q hq hm => by have := h.kt _ hm; have := h.ka q hq; omega), hT,
    hF.blk h.xx (fun hm => by have := h.kt _ hm; have := h.kx; omega), hF.blk h.yy (fun hm => by have := h.kt _ hm; have := h.ky; omega), hl h.hd.lt h.kp, fun q hq => hl (hlr q hq) (h.kl q hq), fun q hq => hl (h.ar.lt q hq) (h.ka q hq), fun q hq => ?_, hl h.xx.lt h.kx, hl h.yy.lt h.ky,
    h.fr.trans hF (fun q hq => h.own q (by simp [rsK, hq])), fun q hq => ?_, h.x0⟩
  · show (if q < w.heap.size then cl q else 3) = 3
    rcases hQ q hq with e | e
    · exact hl (h.tb.lt q e) (h.kt q e)
    · rw [if_neg (by omega)]
  · simp only [rsK, List.mem_cons, List.mem_append] at hq
    rcases hq with h1 | h1 | h1 | h1
    · exact h.own q (by simp [rsK, h1])
    · exact h.own q (by simp only [rsK, List.mem_cons, List.mem_append]; exact .inr (.inl h1))
    · exact h.own q (by simp only [rsK, List.mem_cons, List.mem_append]; exact .inr (.inr (.inl h1)))
    · rcases hQ q h1 with e | e
      · exact h.own q (by simp only [rsK, List.mem_cons, List.mem_append]; exact .inr (.inr (.inr e)))
      · exact .inr (by omega)
theorem Stg.arn (h : Stg w0 K0 w pr pa pt V last y L vU vC vR A c vT vF M xb yb e cl) (hA : RArn w' pa vU vC vR' A' c') (hF : Fr (rAB pa vU vC vR) w w') (hQ : ∀ q ∈ rAB pa vU vC vR', q ∈ rAB pa vU vC vR ∨ w.heap.size ≤ q) :
    ∃ cl', Stg w0 K0 w' pr pa pt V last y L vU vC vR' A' c' vT vF M xb yb e cl' := by
  have hs0 := h.fr.size
  have hl : ∀ {q k : Nat}, q < w.heap.size → cl q = k → (if q < w.heap.size then cl q else 2) = k := fun h1 h2 => by rw [if_pos h1]; exact h2
  have hlr : ∀ q, y.ownBlock = some q → q < w.heap.size := fun q hq => h.row.lt hq
  refine ⟨fun q => if q < w.heap.size then cl q else 2, hF.blk h.hd (fun hm => by have := h.ka _ hm; have := h.kp; omega), h.row.fr hF (fun q hq hm => by have := h.ka _ hm; have := h.kl q hq; omega), hA, h.tb.fr hF (fun q hq hm => by have := h.ka _ hm; have := h.kt q hq; omega),
    hF.blk h.xx (fun hm => by have := h.ka _ hm; have := h.kx; omega), hF.blk h.yy (fun hm => by have := h.ka _ hm; have := h.ky; omega), hl h.hd.lt h.kp, fun q hq => hl (hlr q hq) (h.kl q hq), fun q hq => ?_, fun q hq => hl (h.tb.lt q hq) (h.kt q hq), hl h.xx.lt h.kx, hl h.yy.lt h.ky,
    h.fr.trans hF (fun q hq => h.own q (by simp [rsK, hq])), fun q hq => ?_, h.x0⟩
  · show (if q < w.heap.size then cl q else 2) = 2
    rcases hQ q hq with e | e
    · exact hl (h.ar.lt q e) (h.ka q e)
    · rw [if_neg (by omega)]
  · simp only [rsK, List.mem_cons, List.mem_append] at hq
    rcases hq with h1 | h1 | h1 | h1
    · exact h.own q (by simp [rsK, h1])
    · exact h.own q (by simp only [rsK, List.mem_cons, List.mem_append]; exact .inr (.inl h1))
    · rcases hQ q h1 with e | e
      · exact h.own q (by simp only [rsK, List.mem_cons, List.mem_append]; exact .inr (.inr (.inl e)))
      · exact .inr (by omega)
    · exact h.own q (by simp only [rsK, List.mem_cons, List.mem_append]; exact .inr (.inr (.inr h1)))
/-- Another list, which was made since. -/
theorem Stg.setL {m : Nat} (h : Stg w0 K0 w pr pa pt V last y L vU vC vR A c vT vF M xb yb e cl) (hr : RowV w y' L') (hm : ∀ q, y'.ownBlock = some q → m ≤ q) (hlt : ∀ q ∈ rsK pr pa pt y vU vC vR vT vF, q < m) (hx : xb < m) (hy : yb < m) (h0 : w0.heap.size ≤ m) :
    ∃ cl', Stg w0 K0 (w.setCell ⟨pr, 3, none⟩ y') pr pa pt V last y' L' vU vC vR A c vT vF M xb yb e cl' := by
  have hl : ∀ {q k : Nat}, q < m → cl q = k → (if q < m then cl q else 1) = k := fun h1 h2 => by rw [if_pos h1]; exact h2
  have hF : Fr [pr] w (w.setCell ⟨pr, 3, none⟩ y') := (Fr.refl _ _).setCell _ _ (.inl (by simp))
  have hp := hlt pr (by simp [rsK])
  refine ⟨fun q => if q < m then cl q else 1, h.hd.set 3 _, hr.fr hF (fun q hq hm' => by have := hm q hq; simp at hm'; omega), h.ar.fr hF (fun q hq hm' => by have := h.ka q hq; have := h.kp; simp at hm'; subst hm'; omega), h.tb.fr hF (fun q hq hm' => by have := h.kt q hq; have := h.kp; simp at hm'; subst hm'; omega),
    hF.blk h.xx (fun hm' => by have := h.kx; have := h.kp; simp at hm'; subst hm'; omega), hF.blk h.yy (fun hm' => by have := h.ky; have := h.kp; simp at hm'; subst hm'; omega), hl hp h.kp, fun q hq => ?_, fun q hq => hl (hlt q (by simp [rsK, hq])) (h.ka q hq), fun q hq => hl (hlt q (by simp [rsK, hq])) (h.kt q hq), hl hx h.kx, hl hy h.ky,
    h.fr.setCell _ _ ((h.own pr (by simp [rsK]))), fun q hq => ?_, h.x0⟩
  · show (if q < m then cl q else 1) = 1
    rw [if_neg (by have := hm q hq; omega)]
  · simp only [rsK, List.mem_cons, List.mem_append] at hq
    rcases hq with h1 | h1 | h1 | h1
    · exact h.own q (by simp [rsK, h1])
    · exact .inr (Nat.le_trans h0 (hm q (by simpa using h1)))
    · exact h.own q (by simp only [rsK, List.mem_cons, List.mem_append]; exact .inr (.inr (.inl h1)))
    · exact h.own q (by simp only [rsK, List.mem_cons, List.mem_append]; exact .inr (.inr (.inr h1)))
theorem Stg.done {s : Sm} (h : Stg w0 K0 w pr pa pt s.V s.last y s.L vU vC vR s.A c vT vF s.M xb yb e cl) (hok : s.Ok) (hc : Cnt s.A c n) (e' : Lv) :
    ∃ K', RSt (put7 w xb 0 e') pr s n K' ∧ Fr K0 w0 (put7 w xb 0 e') ∧ ∀ q ∈ K', q ∈ K0 ∨ w0.heap.size ≤ q := by
  have hF : Fr [xb] w (put7 w xb 0 e') := (Fr.refl _ _).put7 _ _ e' (.inl (by simp))
  refine ⟨_, ⟨pa, pt, y, vU, vC, vR, vT, vF, c, cl, ⟨hF.blk h.hd (fun hm => ?_), h.row.fr hF (fun q hq hm => ?_), h.ar.fr hF (fun q hq hm => ?_), h.tb.fr hF (fun q hq hm => ?_), hc, hok, h.kp, h.kl, h.ka, h.kt⟩, rfl⟩, h.fr.put7 xb 0 e' (.inr h.x0), h.own⟩
  · have := h.kx; have := h.kp; simp at hm; subst hm; omega
  · have := h.kx; have := h.kl q hq; simp at hm; subst hm; omega
  · have := h.kx; have := h.ka q hq; simp at hm; subst hm; omega
  · have := h.kx; have := h.kt q hq; simp at hm; subst hm; omega
end
theorem rs_isv0 {w : World} {pr : Nat} {vL : Value} {L : List Lv} (hc : w.cell? ⟨pr, 3, none⟩ = some vL) (hr : RowV w vL L) (hn : L.length ≤ 16384) (id : Nat) : Calls Tryz.prog 54 #[ptr pr, .int .u64 id] w fun e w' => e = .returned (.bool (L.any fun e => e.at id)) ∧ Fr [] w w' := by
  obtain ⟨aL, cL, rfl⟩ := hr.slice
  have HB := Lib.hid (And.intro hc hr); clear hc hr
  go_enter Tryz.func54, Tryz.ntmps54
  go_wp2_with fail
  go_loopw [5] (fun z wr => ∃ i : Nat, i ≤ L.length ∧ z = .int .i64 i ∧ Hid (Fr [] w wr ∧ ∀ j (hj : j < L.length), j < i → (L[j]).at id = false)) (fun z _ => L.length - (intOf z).toNat)
  case atStart => exact ⟨0, Nat.zero_le _, rfl, Lib.hid ⟨Fr.refl _ _, fun j _ hj => absurd hj (Nat.not_lt_zero _)⟩⟩
  case round =>
    obtain ⟨i, hi, rfl, HT⟩ := hrel
    rename World => wr
    have HBr := Lib.hid (HB.out.2.fr0 HT.out.1)
    have c3 := HT.out.1.cell HB.out.1 (by simp)
    by_cases hil : i < L.length
    · have hii : (i : Int) < L.length := by omega
      obtain ⟨b, cv', ev, _, _, _, hat⟩ := HBr.out.at hil
      simp only [Value.slice.injEq, true_and] at ev
      obtain ⟨rfl, rfl⟩ := ev
      obtain ⟨e, he⟩ : ∃ e, e = L[i] := ⟨_, rfl⟩
      rw [← he] at hat
      have x2 := hat.2.2.1
      have x3 := hat.2.2.2.1
      have HE := Lib.hid he; clear he hat
      cases hea : e.at id with
      | false =>
        have hea' := hea
        simp only [Lv.at, Bool.or_eq_false_iff, beq_eq_false_iff_ne] at hea'
        have d1 : ((e.u : Int) == (id : Int)) = false := by simp; omega
        have d2 : ((e.v : Int) == (id : Int)) = false := by simp; omega
        have HEA := Lib.hid hea; clear hea hea'
        go_wp2_with fail
        exact ⟨⟨i + 1, by omega, by go_num, Lib.hid ⟨HT.out.1, fun j hj hji => by
          by_cases e1 : j = i
          · subst e1; rw [← HE.out]; exact HEA.out
          · exact HT.out.2 j hj (by omega)⟩⟩, by simp [intOf]; omega⟩
      | true =>
        have hyes := Lib.hid (show L.any (fun e => e.at id) = true from List.any_eq_true.2 ⟨e, by rw [HE.out]; exact List.getElem_mem hil, hea⟩)
        have hcase : (e.u : Int) = id ∨ (¬ (e.u : Int) = id ∧ (e.v : Int) = id) := by
          simp only [Lv.at, Bool.or_eq_true, beq_iff_eq] at hea
          omega
        clear hea
        rcases hcase with h1 | ⟨h1, h2⟩
        · go_wp2_with fail
          go_ret
          rw [hyes.out]
          exact ⟨rfl, HT.out.1⟩
        · go_wp2_with fail
          go_ret
          rw [hyes.out]
          exact ⟨rfl, HT.out.1⟩
    · obtain rfl : i = L.length := by omega
      have hno := Lib.hid (show L.any (fun e => e.at id) = false by
        rw [List.any_eq_false]
        intro e he
        obtain ⟨j, hj, rfl⟩ := List.getElem_of_mem he
        rw [HT.out.2 j hj hj]; simp)
      go_wp2_with fail
      go_ret
      rw [hno.out]
      exact ⟨rfl, HT.out.1⟩
end Go.Proofs.YtbegdgnhpklceaaGreat

namespace Go.Proofs.YtbegdgnhpklceaaGreat
open Go.RowKit
set_option maxRecDepth 10000
set_option maxHeartbeats 3200000

section
variable {w w' : World} {pr pa pt n : Nat} {vL vU vC vR vT vF : Value} {s : Sm} {c : List Nat} {cl : Nat → Nat} {S K : List Nat}
theorem rs_rem_no (h : RSB w pr pa pt vL vU vC vR vT vF s c n cl) (i : Int) (hh : s.has i = false) :
    Calls Tryz.prog 14 #[ptr pr, .int .i64 i] w fun e w' => e = .returned (.tuple #[lvA (s.got i), .int .i64 (s.remC i)]) ∧ Fr [] w w' := by
  have hE := h.ok.leE
  have hsl := h.ok.sl
  have hgo : s.got i = Lv.z := Sm.got_no hh
  have hrm : s.remC i = if i < 0 ∨ (s.E : Int) ≤ i then 3 else 5 := by unfold Sm.remC; rw [if_neg (by rw [hh]; simp)]
  have hf0 : Fr [] w (w.alloc (.cells #[.int .i64 0, .int .u64 0, .int .u64 0, .int .u64 0, .int .i64 0, .int .i64 0, .int .i64 0] 36)) := (Fr.refl [] w).alloc _
  have hbx : Blk (w.alloc (.cells #[.int .i64 0, .int .u64 0, .int .u64 0, .int .u64 0, .int .i64 0, .int .i64 0, .int .i64 0] 36)) w.heap.size 36 zL := Blk.new w zL _
  have HC : Hid (Calls Tryz.prog 52 #[ptr pa] (w.alloc (.cells #[.int .i64 0, .int .u64 0, .int .u64 0, .int .u64 0, .int .i64 0, .int .i64 0, .int .i64 0] 36)) fun e w'' => e = .returned (.int .i64 s.E) ∧ w'' = (w.alloc (.cells #[.int .i64 0, .int .u64 0, .int .u64 0, .int .u64 0, .int .i64 0, .int .i64 0, .int .i64 0] 36))) := Lib.hid (by rw [← hsl]; exact racap_w (h.ar.fr0 hf0))
  have hG := rs_get (h.fr0 hf0) i
  rw [hgo, hh] at hG
  have HG := Lib.hid hG; clear hG
  rw [hgo]
  have HV := Lib.hid (rs_valid (h.fr0 hf0))
  have hB := h.fr0 hf0
  have c4 := hB.hd.cell 4
  simp only [List.getElem?_cons_zero, List.getElem?_cons_succ] at c4
  have H1 := Lib.hid (And.intro hbx hf0)
  clear hB h hsl hgo hh hbx hf0
  go_enter Tryz.func14, Tryz.ntmps14
  go_wp2_with fail
  generalize w.alloc (.cells #[.int .i64 0, .int .u64 0, .int .u64 0, .int .u64 0, .int .i64 0, .int .i64 0, .int .i64 0] 36) = w1 at *
  refine HV.out.mono ?_
  rintro _ w1 ⟨rfl, rfl⟩
  clear HV
  have z := H1.out.1.frozen
  have t0 := H1.out.1.cell 0; have t1 := H1.out.1.cell 1; have t2 := H1.out.1.cell 2; have t3 := H1.out.1.cell 3; have t4 := H1.out.1.cell 4; have t5 := H1.out.1.cell 5; have t6 := H1.out.1.cell 6
  simp only [List.getElem?_cons_zero, List.getElem?_cons_succ] at t0 t1 t2 t3 t4 t5 t6
  have HX := Lib.hid (H1.out.1.put7 Lv.z)
  by_cases h0 : i < 0
  · have d1 : decide (i < 0) = true := decide_eq_true h0
    have HRM := Lib.hid (show s.remC i = 3 by rw [hrm, if_pos (.inl h0)])
    clear hrm h0
    go_wp2_with fail
    have r := HX.out.lvAt
    unfold LvAt Go.Proofs.YtbegdgnhpklceaaGreat.put7 at r
    simp only [Lv.z, Nat.zero_add, Int.ofNat_zero] at r
    obtain ⟨r0, r1, r2, r3, r4, r5, r6⟩ := r
    exact bodyPost_ret (v := .tuple #[lvA Lv.z, .int .i64 3]) (by simp [results, Tryz.results14, go_sem, r0, r1, r2, r3, r4, r5, r6, Lv.z]) rfl ⟨by rw [HRM.out], H1.out.2.put7 w.heap.size 0 Lv.z (.inr (Nat.le_refl _))⟩
  · have d1 : decide (i < 0) = false := decide_eq_false h0
    by_cases hEi : (s.E : Int) ≤ i
    · have d2 : decide (i ≥ (s.E : Int)) = true := decide_eq_true hEi
      have HRM := Lib.hid (show s.remC i = 3 by rw [hrm, if_pos (.inr hEi)])
      clear hrm h0
      go_wp2_with fail
      refine HC.out.mono ?_
      rintro _ w1 ⟨rfl, rfl⟩
      go_wp2_with fail
      have r := HX.out.lvAt
      unfold LvAt Go.Proofs.YtbegdgnhpklceaaGreat.put7 at r
      simp only [Lv.z, Nat.zero_add, Int.ofNat_zero] at r
      obtain ⟨r0, r1, r2, r3, r4, r5, r6⟩ := r
      exact bodyPost_ret (v := .tuple #[lvA Lv.z, .int .i64 3]) (by simp [results, Tryz.results14, go_sem, r0, r1, r2, r3, r4, r5, r6, Lv.z]) rfl ⟨by rw [HRM.out], H1.out.2.put7 w.heap.size 0 Lv.z (.inr (Nat.le_refl _))⟩
    · have d2 : decide (i ≥ (s.E : Int)) = false := decide_eq_false hEi
      have HRM := Lib.hid (show s.remC i = 5 by rw [hrm, if_neg (by omega)])
      clear hrm h0 hEi HX z t0 t1 t2 t3 t4 t5 t6
      go_wp2_with fail
      refine HC.out.mono ?_
      rintro _ w1 ⟨rfl, rfl⟩
      go_wp2_with fail
      refine HG.out.mono ?_
      rintro _ w2 ⟨rfl, hF2⟩
      have hx3 := (H1.out.1.fr1 hF2).fr1 ((Fr.refl [] w2).alloc (.cells #[.int .i64 0, .int .u64 0, .int .u64 0, .int .u64 0, .int .i64 0, .int .i64 0, .int .i64 0] 36))
      have HF3 := Lib.hid (H1.out.2.trans' (hF2.trans' ((Fr.refl [] w2).alloc (.cells #[.int .i64 0, .int .u64 0, .int .u64 0, .int .u64 0, .int .i64 0, .int .i64 0, .int .i64 0] 36))))
      have z := hx3.frozen
      have t0 := hx3.cell 0; have t1 := hx3.cell 1; have t2 := hx3.cell 2; have t3 := hx3.cell 3; have t4 := hx3.cell 4; have t5 := hx3.cell 5; have t6 := hx3.cell 6
      simp only [List.getElem?_cons_zero, List.getElem?_cons_succ] at t0 t1 t2 t3 t4 t5 t6
      have HX := Lib.hid (hx3.put7 Lv.z)
      clear hx3 hF2 H1 HG HC
      simp only [Lv.z, lvA]
      go_wp2_with fail
      have r := HX.out.lvAt
      unfold LvAt Go.Proofs.YtbegdgnhpklceaaGreat.put7 at r
      simp only [Lv.z, Nat.zero_add, Int.ofNat_zero] at r
      obtain ⟨r0, r1, r2, r3, r4, r5, r6⟩ := r
      exact bodyPost_ret (v := .tuple #[lvA Lv.z, .int .i64 5]) (by simp [results, Tryz.results14, go_sem, r0, r1, r2, r3, r4, r5, r6, Lv.z]) rfl ⟨by rw [HRM.out], HF3.out.put7 w.heap.size 0 Lv.z (.inr (Nat.le_refl _))⟩
end
end Go.Proofs.YtbegdgnhpklceaaGreat
