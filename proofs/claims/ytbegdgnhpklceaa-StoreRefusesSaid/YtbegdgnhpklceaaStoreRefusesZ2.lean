/- The statement 'StoreRefuses': for every input the call returns true, and each argument reads afterwards as it read before. -/
import Derived.Test.YtbegdgnhpklceaaStoreRefusesZ1
import Derived.Test.YtbegdgnhpklceaaB1
set_option linter.unusedSimpArgs false
set_option linter.unusedVariables false
/- StoreRefuses: the walk. -/
namespace Go.Proofs.Ytbegdgnhpklceaa
open Go.RowKit
set_option maxRecDepth 10000
set_option maxHeartbeats 1600000

def G10 (va : Value) (u v n : Nat) : Nat → Value → Prop
  | 1, x => x = va
  | 3, x => x = .agg #[.int .u64 u, .int .u64 v, .int .i64 3, .int .i64 4]
  | 4, x => x = .agg #[.int .i64 0, .int .u64 0, .int .u64 u, .int .u64 v, .int .i64 3, .int .i64 4, .int .i64 0]
  | 7, x => ∃ a c, x = .slice a n c
  | 8, x => x = .int .i64 n
  | 9, x => x = .bool (decide (10 < (n : Int)))
  | 10, x => x = .bool (decide (10 < (n : Int)))
  | _, _ => True
def g10 (l : List Lv) (x : Lv) (L : Nat → Bool) : Nat → Option (List Lv)
  | 0 => if L 0 = true ∧ L 2 = false then some [] else none
  | 2 => if L 2 = true ∧ L 6 = false then some l else none
  | 5 => if L 5 = true ∧ L 6 = false then some [x] else none
  | 6 => if L 6 = true then some (l ++ [x]) else none
  | _ => none
theorem g10_pass {l : List Lv} {x : Lv} {L : Nat → Bool} {i : Nat} (h0 : i ≠ 0) (h2 : i ≠ 2) (h5 : i ≠ 5) (h6 : i ≠ 6) : ∀ k c, g10 l x (updG L i true) k = some c → k ≠ i ∧ g10 l x L k = some c := by
  intro k c hk
  have e : g10 l x (updG L i true) k = g10 l x L k := by
    unfold g10
    split <;> simp only [updG, if_neg (Ne.symm h0), if_neg (Ne.symm h2), if_neg (Ne.symm h5), if_neg (Ne.symm h6)]
  rw [e] at hk
  refine ⟨?_, hk⟩
  rintro rfl
  unfold g10 at hk
  split at hk <;> first | exact h0 rfl | exact h2 rfl | exact h5 rfl | exact h6 rfl | cases hk
theorem g10_new {l : List Lv} {x : Lv} {L : Nat → Bool} {i : Nat} (hi : i = 0 ∨ i = 5) : ∀ k c, g10 l x (updG L i true) k = some c → (k = i ∧ c = if i = 0 then [] else [x]) ∨ (k ≠ i ∧ g10 l x L k = some c) := by
  intro k c hk
  rcases hi with rfl | rfl <;> unfold g10 at hk ⊢ <;> split at hk <;> simp_all [updG]
theorem g10_app2 {l : List Lv} {x : Lv} {L : Nat → Bool} : ∀ k c, g10 l x (updG L 2 true) k = some c → (k = 2 ∧ c = [] ++ l) ∨ (k ≠ 2 ∧ k ≠ 0 ∧ g10 l x L k = some c) := by
  intro k c hk
  unfold g10 at hk ⊢; split at hk <;> simp_all [updG]
theorem g10_app6 {l : List Lv} {x : Lv} {L : Nat → Bool} : ∀ k c, g10 l x (updG L 6 true) k = some c → (k = 6 ∧ c = l ++ [x]) ∨ (k ≠ 6 ∧ k ≠ 2 ∧ g10 l x L k = some c) := by
  intro k c hk
  unfold g10 at hk ⊢; split at hk <;> simp_all [updG]
theorem g10_none {l : List Lv} {x : Lv} : ∀ k, g10 l x (fun _ => false) k = none := by
  intro k
  unfold g10
  split <;> simp
def G19 (p va : Value) (y : Lv) : Nat → Value → Prop
  | 0, x => x = p
  | 3, x => x = va
  | 5, x => x = lvA y
  | 8, x => x = .bool true
  | 9, x => x = .bool true
  | 10, x => x = .bool true
  | 11, x => x = .bool true
  | 12, x => x = .bool true
  | _, _ => True
def g19 (l : List Lv) (x : Lv) (L : Nat → Bool) : Nat → Option (List Lv)
  | 1 => if L 1 = true then some (l ++ [x]) else none
  | 2 => if L 2 = true ∧ L 4 = false then some [] else none
  | 4 => if L 4 = true ∧ L 7 = false then some l else none
  | 6 => if L 6 = true ∧ L 7 = false then some [x] else none
  | 7 => if L 7 = true then some (l ++ [x]) else none
  | _ => none
theorem g19_pass {l : List Lv} {x : Lv} {L : Nat → Bool} {i : Nat} (h1 : i ≠ 1) (h2 : i ≠ 2) (h4 : i ≠ 4) (h6 : i ≠ 6) (h7 : i ≠ 7) : ∀ k c, g19 l x (updG L i true) k = some c → k ≠ i ∧ g19 l x L k = some c := by
  intro k c hk
  have e : g19 l x (updG L i true) k = g19 l x L k := by
    unfold g19
    split <;> simp only [updG, if_neg (Ne.symm h1), if_neg (Ne.symm h2), if_neg (Ne.symm h4), if_neg (Ne.symm h6), if_neg (Ne.symm h7)]
  rw [e] at hk
  refine ⟨?_, hk⟩
  rintro rfl
  unfold g19 at hk
  split at hk <;> first | exact h1 rfl | exact h2 rfl | exact h4 rfl | exact h6 rfl | exact h7 rfl | cases hk
theorem g19_new1 {l : List Lv} {x : Lv} {L : Nat → Bool} : ∀ k c, g19 l x (updG L 1 true) k = some c → (k = 1 ∧ c = l ++ [x]) ∨ (k ≠ 1 ∧ g19 l x L k = some c) := by
  intro k c hk
  unfold g19 at hk ⊢; split at hk <;> simp_all [updG]
theorem g19_new2 {l : List Lv} {x : Lv} {L : Nat → Bool} : ∀ k c, g19 l x (updG L 2 true) k = some c → (k = 2 ∧ c = []) ∨ (k ≠ 2 ∧ g19 l x L k = some c) := by
  intro k c hk
  unfold g19 at hk ⊢; split at hk <;> simp_all [updG]
theorem g19_new6 {l : List Lv} {x : Lv} {L : Nat → Bool} : ∀ k c, g19 l x (updG L 6 true) k = some c → (k = 6 ∧ c = [x]) ∨ (k ≠ 6 ∧ g19 l x L k = some c) := by
  intro k c hk
  unfold g19 at hk ⊢; split at hk <;> simp_all [updG]
theorem g19_app4 {l : List Lv} {x : Lv} {L : Nat → Bool} : ∀ k c, g19 l x (updG L 4 true) k = some c → (k = 4 ∧ c = [] ++ l) ∨ (k ≠ 4 ∧ k ≠ 2 ∧ g19 l x L k = some c) := by
  intro k c hk
  unfold g19 at hk ⊢; split at hk <;> simp_all [updG]
theorem g19_app7 {l : List Lv} {x : Lv} {L : Nat → Bool} : ∀ k c, g19 l x (updG L 7 true) k = some c → (k = 7 ∧ c = l ++ [x]) ∨ (k ≠ 7 ∧ k ≠ 4 ∧ g19 l x L k = some c) := by
  intro k c hk
  unfold g19 at hk ⊢; split at hk <;> simp_all [updG]
theorem g19_none {l : List Lv} {x : Lv} : ∀ k, g19 l x (fun _ => false) k = none := by
  intro k
  unfold g19
  split <;> simp
theorem InvR.start {G : Nat → Value → Prop} {g : (Nat → Bool) → Nat → Option (List Lv)} (w : World) (h : ∀ k, g (fun _ => false) k = none) : InvR G g w (fun _ => undef) (fun _ => false) w.drew :=
  ⟨fun k hk => (by cases hk), show LRows w w.drew _ _ from ⟨(Fr.refl [] w).drew, fun k c hk => (by rw [h k] at hk; cases hk), fun j k c d _ hj => (by rw [h j] at hj; cases hj)⟩⟩
theorem tm_of {b : Act} {d : Nat} {v : Value} (h : b.tmps[d]? = some v) : ∀ h : d < b.tmps.size, b.tmps[d]'h = v := fun hd => by rw [Array.getElem?_eq_getElem hd] at h; exact Option.some.inj h
theorem ev_tmp {b : Act} {d : Nat} {v : Value} (h : b.tmps[d]? = some v) : b.eval (.tmp d) = v := by simp [Act.eval, h]
theorem own_mk {n len cap : Nat} : ∀ q, (Value.slice (some ⟨n, 0, none⟩) len cap).ownBlock = some q → n ≤ q := fun q hq => by
  simp [Value.ownBlock] at hq; omega
theorem sg_list' {W wr : World} {ps : Nat} {s : Sm} {Z : List Nat} (h : SG W wr ps s Z) : Calls Try.prog 13 #[sptr ps] wr fun e w' => ∃ v, e = .returned v ∧ RowV w' v s.L ∧ (∀ q, v.ownBlock = some q → wr.heap.size ≤ q) ∧ Fr [] wr w' := by
  obtain ⟨K, h1, _⟩ := h
  exact st_list h1

theorem Blk.fr0'' {w w' : World} {b : Nat} {t : TypeId} {l : List Value} (h : Blk w b t l) (hf : Fr [] w w') : Blk w' b t l := hf.blk h (by simp)
theorem walk_storeRefuses (W : World) (a : Option Addr) (len cap : Nat) (z : Nat → Bool × Nat × Nat × Nat) (hz : MovesF W a len z) (a1 : Int) (w1 : (Lit.int .u8 a1).wf = true) (a2 : Int) (w2 : (Lit.int .u8 a2).wf = true) :
    Calls Try.prog 5 #[.slice a len cap, .int .u8 a1, .int .u8 a2] W fun e w' => e = .returned (.bool true) ∧ Below W.heap.size W w' := by
  obtain ⟨mu, rfl, l1⟩ := u8_of_wf w1
  obtain ⟨mvv, rfl, l2⟩ := u8_of_wf w2
  have HM := Lib.hid (moved_w W a len cap z hz)
  have HWk := Lib.hid (fun w => works_w w)
  have hwu : IntKind.u64.wrap ((mu : Int).tmod 16) = ((mu % 16 : Nat) : Int) := by rw [Int.tmod_eq_emod_of_nonneg (by omega)]; simp [IntKind.wrap, IntKind.bits, IntKind.signed]; omega
  have hwv : IntKind.u64.wrap ((mvv : Int).tmod 16) = ((mvv % 16 : Nat) : Int) := by rw [Int.tmod_eq_emod_of_nonneg (by omega)]; simp [IntKind.wrap, IntKind.bits, IntKind.signed]; omega
  have hu16 : ((mu : Int) % 16) = ((mu % 16 : Nat) : Int) := by omega
  have hv16 : ((mvv : Int) % 16) = ((mvv % 16 : Nat) : Int) := by omega
  have hlu : mu % 16 < 16 := Nat.mod_lt _ (by omega)
  have hlv : mvv % 16 < 16 := Nat.mod_lt _ (by omega)
  generalize mu % 16 = u at *
  generalize mvv % 16 = v at *
  clear hz w1 w2
  go_enter Try.func5, Try.ntmps5
  go_wp2_with fail
  refine HM.out.mono ?_
  rintro _ w1 ⟨ps, s, va, rfl, hS, hr, hb⟩
  clear HM
  have hn := hb.len hS.ok
  obtain ⟨av, cv, rfl⟩ := hr.slice
  have HBD := Lib.hid hb
  have HOK := Lib.hid hS.ok
  have hck := chk_of hS.ok hb (x := ⟨0, 0, u, v, 3, 4, 0⟩) hlu hlv
  simp only at hck
  have hb2 := Blk.new w1 [.int .u64 u, .int .u64 v, .int .i64 3, .int .i64 4] 32
  have hf2 : Fr [] w1 (w1.alloc (.cells #[.int .u64 u, .int .u64 v, .int .i64 3, .int .i64 4] 32)) := (Fr.refl [] w1).alloc _
  have hS2 := hS.alloc (.cells #[.int .u64 u, .int .u64 v, .int .i64 3, .int .i64 4] 32)
  have H2 := Lib.hid (And.intro hS2 (And.intro hb2 (hr.fr0 hf2)))
  have HCK := Lib.hid hck
  clear hb2 hf2 hS2 hck hS hr hb
  have hcase : (u = v ∧ s.chk u v = 9) ∨ (u ≠ v ∧ s.L.length = 20 ∧ s.chk u v = 12) ∨ (u ≠ v ∧ s.L.length < 20 ∧ s.chk u v = if 10 < (idsOf (s.L ++ [⟨0, 0, u, v, 3, 4, 0⟩])).length then 11 else 0) := by
    have h := HCK.out
    by_cases e : u = v
    · rw [if_pos e] at h; exact .inl ⟨e, h⟩
    · rw [if_neg e] at h
      by_cases e2 : 20 ≤ s.L.length
      · rw [if_pos e2] at h; exact .inr (.inl ⟨e, by omega, h⟩)
      · rw [if_neg e2] at h; exact .inr (.inr ⟨e, by omega, h⟩)
  clear HCK
  rcases hcase with ⟨e1, hc⟩ | ⟨e1, e2, hc⟩ | ⟨e1, e2, hc⟩
  · have g1 : ((u : Int) == (v : Int)) = true := by simp; omega
    have Hc := Lib.hid hc; clear hc e1
    go_wp2_with fail
    clear g1
    generalize w1.alloc (.cells #[.int .u64 u, .int .u64 v, .int .i64 3, .int .i64 4] 32) = wt at *
    have hc := Hc.out; clear Hc
    have hck2 := sg_check H2.out.1 u v 3 4 (by omega) (by omega)
    rw [hc] at hck2
    have HC := Lib.hid hck2; clear hck2
    refine HC.out.mono ?_
    rintro _ w3 ⟨rfl, hS3, hF3⟩
    have H3 := Lib.hid (And.intro hS3 (And.intro (H2.out.2.1.fr0'' hF3) (H2.out.2.2.fr0 hF3)))
    clear hS3 hF3 HC H2
    have HLi := Lib.hid (sg_list H3.out.1)
    go_wp2_with fail
    refine HLi.out.mono ?_
    rintro _ w4 ⟨v4, rfl, hr4, _, hF4⟩
    have hsm := same_w hr4 (H3.out.2.2.fr0 hF4) (by omega) (by omega)
    rw [decide_eq_true (rfl : s.L = s.L)] at hsm
    have HSm := Lib.hid hsm
    have H4 := Lib.hid (And.intro (H3.out.1.go0 hF4) (And.intro (H3.out.2.1.fr0'' hF4) (H3.out.2.2.fr0 hF4)))
    clear hsm hr4 hF4 HLi H3
    go_wp2_with fail
    refine HSm.out.mono ?_
    rintro _ w5 ⟨rfl, hF5⟩
    have H5 := Lib.hid (And.intro (H4.out.1.go0 hF5) (And.intro (H4.out.2.1.fr0'' hF5) (H4.out.2.2.fr0 hF5)))
    clear hF5 HSm H4
    have q0 := H5.out.2.1.cell 0; have q1 := H5.out.2.1.cell 1; have q2 := H5.out.2.1.cell 2; have q3 := H5.out.2.1.cell 3
    simp only [List.getElem?_cons_zero, List.getElem?_cons_succ] at q0 q1 q2 q3
    have hin := sg_ins H5.out.1 u v 3 4 9 (by omega) (by omega) (by have := HBD.out.last; omega)

    have hir : s.insR u v 3 4 9 = Lv.z := if_neg (by omega)
    have his : s.insS u v 3 4 9 = s := if_neg (by omega)
    rw [hir, his, hc] at hin
    have HIN := Lib.hid hin; clear hin hir his
    go_wp2_with fail
    refine HIN.out.mono ?_
    rintro _ w6 ⟨rfl, hS6, hG6⟩
    clear q0 q1 q2 q3 HIN
    have hr6 := hG6.rowV H5.out.2.2 (fun q hq => List.mem_cons_of_mem _ (by simpa using hq))
    have hS7 := hS6.alloc (.cells #[.int .i64 0, .int .u64 0, .int .u64 0, .int .u64 0, .int .i64 0, .int .i64 0, .int .i64 0] 34)
    have hr7 := hr6.fr0 ((Fr.refl [] w6).alloc (.cells #[.int .i64 0, .int .u64 0, .int .u64 0, .int .u64 0, .int .i64 0, .int .i64 0, .int .i64 0] 34))
    have H7 := Lib.hid (And.intro hS7 hr7)
    have HL7 := Lib.hid (sg_list hS7)
    clear hS7 hr7 hr6 hS6 hG6 H5
    simp only [Lv.z, lvA]
    go_wp2_with fail
    generalize w6.alloc (.cells #[.int .i64 0, .int .u64 0, .int .u64 0, .int .u64 0, .int .i64 0, .int .i64 0, .int .i64 0] 34) = w7 at *
    refine HL7.out.mono ?_
    rintro _ w8 ⟨v8, rfl, hr8, _, hF8⟩
    have hsm := same_w hr8 (H7.out.2.fr0 hF8) (by omega) (by omega)
    rw [decide_eq_true (rfl : s.L = s.L)] at hsm
    have HSm := Lib.hid hsm
    have HF8 := Lib.hid hF8
    clear hsm hr8 hF8 HL7
    go_wp2_with fail
    refine HSm.out.mono ?_
    rintro _ w9 ⟨rfl, hF9⟩
    have HF9 := Lib.hid (HF8.out.trans' hF9)
    have hid9 := sg_ids (H7.out.1.go0 HF9.out)
    rw [ids_of HOK.out HBD.out.id] at hid9
    have HID := Lib.hid hid9
    clear HSm HF8 hF9 hid9
    go_wp2_with fail
    refine HID.out.mono ?_
    rintro _ w10 ⟨v10, rfl, hu10, _, hF10⟩
    have HF10 := Lib.hid (HF9.out.trans' hF10)
    have HIW := Lib.hid (ids_w (H7.out.2.fr0 HF10.out) (by omega))
    have HU10 := Lib.hid hu10
    clear hu10 hF10 HF9 HID
    go_wp2_with fail
    refine HIW.out.mono ?_
    rintro _ w11 ⟨v11, rfl, hu11, _, hF11⟩
    have hil : (idsOf s.L).length ≤ 16 := idsN_len _ _
    have hsi := sameIDs_w (HU10.out.fr0 hF11) hu11 (by omega) (by omega)
    rw [decide_eq_true (rfl : idsOf s.L = idsOf s.L)] at hsi
    have HSi := Lib.hid hsi
    have HF11 := Lib.hid (HF10.out.trans' hF11)
    clear hsi hu11 hF11 HF10 HIW HU10
    go_wp2_with fail
    refine HSi.out.mono ?_
    rintro _ w12 ⟨rfl, hF12⟩
    have HF12 := Lib.hid (HF11.out.trans' hF12)
    clear hF12 HF11 HSi
    go_wp2_with fail
    refine (HWk.out _).mono ?_
    rintro _ w13 ⟨rfl, hF13⟩
    have HF13 := Lib.hid (H7.out.1.go0 (HF12.out.trans' hF13)); clear hF13
    go_wp2_with fail
    go_ret
    exact ⟨rfl, HF13.out.below⟩
  · have g1 : ((u : Int) == (v : Int)) = false := by simp; omega
    have g2 : ((s.L.length : Int) == 20) = true := by simp; omega
    have Hc := Lib.hid hc; clear hc e1 e2
    go_wp2_with fail
    clear g1 g2
    generalize w1.alloc (.cells #[.int .u64 u, .int .u64 v, .int .i64 3, .int .i64 4] 32) = wt at *
    have hc := Hc.out; clear Hc
    have hck2 := sg_check H2.out.1 u v 3 4 (by omega) (by omega)
    rw [hc] at hck2
    have HC := Lib.hid hck2; clear hck2
    refine HC.out.mono ?_
    rintro _ w3 ⟨rfl, hS3, hF3⟩
    have H3 := Lib.hid (And.intro hS3 (And.intro (H2.out.2.1.fr0'' hF3) (H2.out.2.2.fr0 hF3)))
    clear hS3 hF3 HC H2
    have HLi := Lib.hid (sg_list H3.out.1)
    go_wp2_with fail
    refine HLi.out.mono ?_
    rintro _ w4 ⟨v4, rfl, hr4, _, hF4⟩
    have hsm := same_w hr4 (H3.out.2.2.fr0 hF4) (by omega) (by omega)
    rw [decide_eq_true (rfl : s.L = s.L)] at hsm
    have HSm := Lib.hid hsm
    have H4 := Lib.hid (And.intro (H3.out.1.go0 hF4) (And.intro (H3.out.2.1.fr0'' hF4) (H3.out.2.2.fr0 hF4)))
    clear hsm hr4 hF4 HLi H3
    go_wp2_with fail
    refine HSm.out.mono ?_
    rintro _ w5 ⟨rfl, hF5⟩
    have H5 := Lib.hid (And.intro (H4.out.1.go0 hF5) (And.intro (H4.out.2.1.fr0'' hF5) (H4.out.2.2.fr0 hF5)))
    clear hF5 HSm H4
    have q0 := H5.out.2.1.cell 0; have q1 := H5.out.2.1.cell 1; have q2 := H5.out.2.1.cell 2; have q3 := H5.out.2.1.cell 3
    simp only [List.getElem?_cons_zero, List.getElem?_cons_succ] at q0 q1 q2 q3
    have hin := sg_ins H5.out.1 u v 3 4 9 (by omega) (by omega) (by have := HBD.out.last; omega)

    have hir : s.insR u v 3 4 9 = Lv.z := if_neg (by omega)
    have his : s.insS u v 3 4 9 = s := if_neg (by omega)
    rw [hir, his, hc] at hin
    have HIN := Lib.hid hin; clear hin hir his
    go_wp2_with fail
    refine HIN.out.mono ?_
    rintro _ w6 ⟨rfl, hS6, hG6⟩
    clear q0 q1 q2 q3 HIN
    have hr6 := hG6.rowV H5.out.2.2 (fun q hq => List.mem_cons_of_mem _ (by simpa using hq))
    have hS7 := hS6.alloc (.cells #[.int .i64 0, .int .u64 0, .int .u64 0, .int .u64 0, .int .i64 0, .int .i64 0, .int .i64 0] 34)
    have hr7 := hr6.fr0 ((Fr.refl [] w6).alloc (.cells #[.int .i64 0, .int .u64 0, .int .u64 0, .int .u64 0, .int .i64 0, .int .i64 0, .int .i64 0] 34))
    have H7 := Lib.hid (And.intro hS7 hr7)
    have HL7 := Lib.hid (sg_list hS7)
    clear hS7 hr7 hr6 hS6 hG6 H5
    simp only [Lv.z, lvA]
    go_wp2_with fail
    generalize w6.alloc (.cells #[.int .i64 0, .int .u64 0, .int .u64 0, .int .u64 0, .int .i64 0, .int .i64 0, .int .i64 0] 34) = w7 at *
    refine HL7.out.mono ?_
    rintro _ w8 ⟨v8, rfl, hr8, _, hF8⟩
    have hsm := same_w hr8 (H7.out.2.fr0 hF8) (by omega) (by omega)
    rw [decide_eq_true (rfl : s.L = s.L)] at hsm
    have HSm := Lib.hid hsm
    have HF8 := Lib.hid hF8
    clear hsm hr8 hF8 HL7
    go_wp2_with fail
    refine HSm.out.mono ?_
    rintro _ w9 ⟨rfl, hF9⟩
    have HF9 := Lib.hid (HF8.out.trans' hF9)
    have hid9 := sg_ids (H7.out.1.go0 HF9.out)
    rw [ids_of HOK.out HBD.out.id] at hid9
    have HID := Lib.hid hid9
    clear HSm HF8 hF9 hid9
    go_wp2_with fail
    refine HID.out.mono ?_
    rintro _ w10 ⟨v10, rfl, hu10, _, hF10⟩
    have HF10 := Lib.hid (HF9.out.trans' hF10)
    have HIW := Lib.hid (ids_w (H7.out.2.fr0 HF10.out) (by omega))
    have HU10 := Lib.hid hu10
    clear hu10 hF10 HF9 HID
    go_wp2_with fail
    refine HIW.out.mono ?_
    rintro _ w11 ⟨v11, rfl, hu11, _, hF11⟩
    have hil : (idsOf s.L).length ≤ 16 := idsN_len _ _
    have hsi := sameIDs_w (HU10.out.fr0 hF11) hu11 (by omega) (by omega)
    rw [decide_eq_true (rfl : idsOf s.L = idsOf s.L)] at hsi
    have HSi := Lib.hid hsi
    have HF11 := Lib.hid (HF10.out.trans' hF11)
    clear hsi hu11 hF11 HF10 HIW HU10
    go_wp2_with fail
    refine HSi.out.mono ?_
    rintro _ w12 ⟨rfl, hF12⟩
    have HF12 := Lib.hid (HF11.out.trans' hF12)
    clear hF12 HF11 HSi
    go_wp2_with fail
    refine (HWk.out _).mono ?_
    rintro _ w13 ⟨rfl, hF13⟩
    have HF13 := Lib.hid (H7.out.1.go0 (HF12.out.trans' hF13)); clear hF13
    go_wp2_with fail
    go_ret
    exact ⟨rfl, HF13.out.below⟩
  · have g1 : ((u : Int) == (v : Int)) = false := by simp; omega
    have g2 : ((s.L.length : Int) == 20) = false := by simp; omega
    obtain ⟨x, hx⟩ : ∃ x : Lv, x = ⟨0, 0, u, v, 3, 4, 0⟩ := ⟨_, rfl⟩
    obtain ⟨nn, hnn⟩ : ∃ nn, nn = (idsOf (s.L ++ [x])).length := ⟨_, rfl⟩
    rw [← hx, ← hnn] at hc
    have HX := Lib.hid (And.intro hx (And.intro hnn (And.intro hc (And.intro e1 e2))))
    have hnl : nn ≤ 16 := by rw [hnn]; exact idsN_len _ _
    clear hx hnn hc e1 e2
    go_wp2_with fail
    generalize w1.alloc (.cells #[.int .u64 u, .int .u64 v, .int .i64 3, .int .i64 4] 32) = w2 at *
    refine region_invB (InvR (G10 (.slice av s.L.length cv) u v nn) (g10 s.L x) w2) (by kernel_rfl) (by kernel_rfl) (InvR.start w2 g10_none) ?_ ?_
    · refine (fun (H : ∀ a : Act, a.tmps.size = 104 → a.tmps[8]? = some (.slice av s.L.length cv) → a.tmps[10]? = some (.pointer (some ⟨w1.heap.size, 0, none⟩)) → ∀ f, StepsB _ _ _ _ f a 0 _) => H _ rfl rfl rfl) fun a hsz t8 t10 f => ?_
      refine ⟨?_, ?_, ?_, ?_, ?_, ?_, ?_, ?_, ?_, ?_, ?_, trivial⟩
      · intro b hb hf hg
        have hbs : b.tmps.size = 104 := hb.trans hsz
        clear hf hg hb
        refine stepI_plain rfl fun L w hd hnL hI => ?_
        go_simp
        exact hI.new trivial ((Fr.refl [] w).alloc _) (RowV.mt w) own_mk (g10_new (.inl rfl))
      · intro b hb hf hg
        have hbs : b.tmps.size = 104 := hb.trans hsz
        have T8 := tm_of ((hg 8 (by kernel_rfl)).trans t8)
        clear hf hg hb
        refine stepI_plain rfl fun L w hd hnL hI => ?_
        go_simp
        exact hI.pass rfl (Fr.refl [] w) (g10_pass (by decide) (by decide) (by decide) (by decide))
      · intro b hb hf hg
        have hbs : b.tmps.size = 104 := hb.trans hsz
        have t40 : b.tmps[40]? = some (f 0) := hf 0 40 (by decide) (by kernel_rfl) (by rw [hsz]; decide)
        have T40 := tm_of t40
        have t41 : b.tmps[41]? = some (f 1) := hf 1 41 (by decide) (by kernel_rfl) (by rw [hsz]; decide)
        have T41 := tm_of t41
        clear hf hg hb
        refine stepI_plain rfl fun L w hd hnL hI => ?_
        have e1 : f 1 = (.slice av s.L.length cv) := hI.1 1 (dep_of hd 1 (by decide))
        have hr0 : g10 s.L x L 0 = some [] := if_pos ⟨dep_of hd 0 (by decide), hnL⟩
        have hy : RowV w (f 1) s.L := by rw [e1]; exact H2.out.2.2.fr0 hI.fr
        refine si_app (.tmp 40) (.tmp 41) rfl (ev_tmp t40) (ev_tmp t41) (hI.row hr0) hy (by simp; omega) fun v' w' k1 k2 k3 => ?_
        exact hI.app trivial hr0 k2 k1 k3 g10_app2
      · intro b hb hf hg
        have hbs : b.tmps.size = 104 := hb.trans hsz
        have T10 := tm_of ((hg 10 (by kernel_rfl)).trans t10)
        clear hf hg hb
        refine stepI_plain rfl fun L w hd hnL hI => ?_
        have hb := H2.out.2.1.fr0'' hI.fr
        have q0 := hb.cell 0; have q1 := hb.cell 1; have q2 := hb.cell 2; have q3 := hb.cell 3
        simp only [List.getElem?_cons_zero, List.getElem?_cons_succ] at q0 q1 q2 q3
        clear hb
        go_simp
        exact hI.pass rfl (Fr.refl [] w) (g10_pass (by decide) (by decide) (by decide) (by decide))
      · intro b hb hf hg
        have hbs : b.tmps.size = 104 := hb.trans hsz
        have t43 : b.tmps[43]? = some (f 3) := hf 3 43 (by decide) (by kernel_rfl) (by rw [hsz]; decide)
        have T43 := tm_of t43
        clear hf hg hb
        refine stepI_plain rfl fun L w hd hnL hI => ?_
        have e3 : f 3 = .agg #[.int .u64 u, .int .u64 v, .int .i64 3, .int .i64 4] := hI.1 3 (dep_of hd 3 (by decide))
        rw [e3] at T43
        go_simp
        exact hI.pass rfl (Fr.refl [] w) (g10_pass (by decide) (by decide) (by decide) (by decide))
      · intro b hb hf hg
        have hbs : b.tmps.size = 104 := hb.trans hsz
        have t44 : b.tmps[44]? = some (f 4) := hf 4 44 (by decide) (by kernel_rfl) (by rw [hsz]; decide)
        have T44 := tm_of t44
        clear hf hg hb
        refine stepI_plain rfl fun L w hd hnL hI => ?_
        have e4 : f 4 = .agg #[.int .i64 0, .int .u64 0, .int .u64 u, .int .u64 v, .int .i64 3, .int .i64 4, .int .i64 0] := hI.1 4 (dep_of hd 4 (by decide))
        rw [e4] at T44
        go_simp
        refine hI.new trivial ((Fr.refl [] w).alloc _) (c := [x]) ?_ own_mk (g10_new (.inr rfl))
        rw [HX.out.1]
        exact RowV.one w ⟨0, 0, u, v, 3, 4, 0⟩
      · intro b hb hf hg
        have hbs : b.tmps.size = 104 := hb.trans hsz
        have t42 : b.tmps[42]? = some (f 2) := hf 2 42 (by decide) (by kernel_rfl) (by rw [hsz]; decide)
        have T42 := tm_of t42
        have t45 : b.tmps[45]? = some (f 5) := hf 5 45 (by decide) (by kernel_rfl) (by rw [hsz]; decide)
        have T45 := tm_of t45
        clear hf hg hb
        refine stepI_plain rfl fun L w hd hnL hI => ?_
        have hr2 : g10 s.L x L 2 = some s.L := if_pos ⟨dep_of hd 2 (by decide), hnL⟩
        have hr5 : g10 s.L x L 5 = some [x] := if_pos ⟨dep_of hd 5 (by decide), hnL⟩
        refine si_app (.tmp 42) (.tmp 45) rfl (ev_tmp t42) (ev_tmp t45) (hI.row hr2) (hI.row hr5) (by simp; omega) fun v' w' k1 k2 k3 => ?_
        exact hI.app trivial hr2 k2 k1 k3 g10_app6
      · intro b hb hf hg
        have hbs : b.tmps.size = 104 := hb.trans hsz
        have t46 : b.tmps[46]? = some (f 6) := hf 6 46 (by decide) (by kernel_rfl) (by rw [hsz]; decide)
        have T46 := tm_of t46
        clear hf hg hb
        refine stepI_plain rfl fun L w hd hnL hI => ?_
        have hr6 : g10 s.L x L 6 = some (s.L ++ [x]) := if_pos (dep_of hd 6 (by decide))
        have HI := Lib.hid (ids_w (hI.row hr6) (by simp; omega))
        go_simp
        refine HI.out.mono ?_
        rintro _ w' ⟨v', rfl, hu, _, hF⟩
        obtain ⟨a', c', rfl⟩ := hu.slice
        exact ⟨_, rfl, hI.pass ⟨a', c', by rw [HX.out.2.1]⟩ hF (g10_pass (by decide) (by decide) (by decide) (by decide))⟩
      · intro b hb hf hg
        have hbs : b.tmps.size = 104 := hb.trans hsz
        have t47 : b.tmps[47]? = some (f 7) := hf 7 47 (by decide) (by kernel_rfl) (by rw [hsz]; decide)
        have T47 := tm_of t47
        clear hf hg hb
        refine stepI_plain rfl fun L w hd hnL hI => ?_
        obtain ⟨a7, c7, e7⟩ : ∃ a c, f 7 = .slice a nn c := hI.1 7 (dep_of hd 7 (by decide))
        rw [e7] at T47
        go_simp
        exact hI.pass rfl (Fr.refl [] w) (g10_pass (by decide) (by decide) (by decide) (by decide))
      · intro b hb hf hg
        have hbs : b.tmps.size = 104 := hb.trans hsz
        have t48 : b.tmps[48]? = some (f 8) := hf 8 48 (by decide) (by kernel_rfl) (by rw [hsz]; decide)
        have T48 := tm_of t48
        clear hf hg hb
        refine stepI_plain rfl fun L w hd hnL hI => ?_
        have e8 : f 8 = .int .i64 nn := hI.1 8 (dep_of hd 8 (by decide))
        rw [e8] at T48
        go_simp
        exact hI.pass rfl (Fr.refl [] w) (g10_pass (by decide) (by decide) (by decide) (by decide))
      · intro b hb hf hg
        have hbs : b.tmps.size = 104 := hb.trans hsz
        have t49 : b.tmps[49]? = some (f 9) := hf 9 49 (by decide) (by kernel_rfl) (by rw [hsz]; decide)
        have T49 := tm_of t49
        clear hf hg hb
        refine stepI_plain rfl fun L w hd hnL hI => ?_
        have e9 : f 9 = .bool (decide (10 < (nn : Int))) := hI.1 9 (dep_of hd 9 (by decide))
        rw [e9] at T49
        go_simp
        exact hI.pass rfl (Fr.refl [] w) (g10_pass (by decide) (by decide) (by decide) (by decide))
    · intro f L wt hL hI
      have e10 : f 10 = .bool (decide (10 < (nn : Int))) := hI.1 10 (hL 10 (by simp))
      have H2' := Lib.hid (And.intro (H2.out.1.go0 hI.fr) (And.intro (H2.out.2.1.fr0'' hI.fr) (H2.out.2.2.fr0 hI.fr)))
      clear H2 hI hL
      have H2 := H2'; clear H2'
      simp only [endA, e10]
      clear e10
      by_cases h10 : 10 < nn
      · have d10 : decide (10 < (nn : Int)) = true := by simp; omega
        have Hc := Lib.hid (show s.chk u v = 11 by rw [HX.out.2.2.1, if_pos h10])
        clear h10 HX
        have hb := H2.out.2.1
        have q0 := hb.cell 0; have q1 := hb.cell 1; have q2 := hb.cell 2; have q3 := hb.cell 3
        simp only [List.getElem?_cons_zero, List.getElem?_cons_succ] at q0 q1 q2 q3
        clear hb
        rw [d10]
        go_simp
        go_wp2_with fail
        clear g1 g2 d10 q0 q1 q2 q3
        have hc := Hc.out; clear Hc
        have hck2 := sg_check H2.out.1 u v 3 4 (by omega) (by omega)
        rw [hc] at hck2
        have HC := Lib.hid hck2; clear hck2
        refine HC.out.mono ?_
        rintro _ w3 ⟨rfl, hS3, hF3⟩
        have H3 := Lib.hid (And.intro hS3 (And.intro (H2.out.2.1.fr0'' hF3) (H2.out.2.2.fr0 hF3)))
        clear hS3 hF3 HC H2
        have HLi := Lib.hid (sg_list H3.out.1)
        go_wp2_with fail
        refine HLi.out.mono ?_
        rintro _ w4 ⟨v4, rfl, hr4, _, hF4⟩
        have hsm := same_w hr4 (H3.out.2.2.fr0 hF4) (by omega) (by omega)
        rw [decide_eq_true (rfl : s.L = s.L)] at hsm
        have HSm := Lib.hid hsm
        have H4 := Lib.hid (And.intro (H3.out.1.go0 hF4) (And.intro (H3.out.2.1.fr0'' hF4) (H3.out.2.2.fr0 hF4)))
        clear hsm hr4 hF4 HLi H3
        go_wp2_with fail
        refine HSm.out.mono ?_
        rintro _ w5 ⟨rfl, hF5⟩
        have H5 := Lib.hid (And.intro (H4.out.1.go0 hF5) (And.intro (H4.out.2.1.fr0'' hF5) (H4.out.2.2.fr0 hF5)))
        clear hF5 HSm H4
        have q0 := H5.out.2.1.cell 0; have q1 := H5.out.2.1.cell 1; have q2 := H5.out.2.1.cell 2; have q3 := H5.out.2.1.cell 3
        simp only [List.getElem?_cons_zero, List.getElem?_cons_succ] at q0 q1 q2 q3
        have hin := sg_ins H5.out.1 u v 3 4 9 (by omega) (by omega) (by have := HBD.out.last; omega)

        have hir : s.insR u v 3 4 9 = Lv.z := if_neg (by omega)
        have his : s.insS u v 3 4 9 = s := if_neg (by omega)
        rw [hir, his, hc] at hin
        have HIN := Lib.hid hin; clear hin hir his
        go_wp2_with fail
        refine HIN.out.mono ?_
        rintro _ w6 ⟨rfl, hS6, hG6⟩
        clear q0 q1 q2 q3 HIN
        have hr6 := hG6.rowV H5.out.2.2 (fun q hq => List.mem_cons_of_mem _ (by simpa using hq))
        have hS7 := hS6.alloc (.cells #[.int .i64 0, .int .u64 0, .int .u64 0, .int .u64 0, .int .i64 0, .int .i64 0, .int .i64 0] 34)
        have hr7 := hr6.fr0 ((Fr.refl [] w6).alloc (.cells #[.int .i64 0, .int .u64 0, .int .u64 0, .int .u64 0, .int .i64 0, .int .i64 0, .int .i64 0] 34))
        have H7 := Lib.hid (And.intro hS7 hr7)
        have HL7 := Lib.hid (sg_list hS7)
        clear hS7 hr7 hr6 hS6 hG6 H5
        simp only [Lv.z, lvA]
        go_wp2_with fail
        generalize w6.alloc (.cells #[.int .i64 0, .int .u64 0, .int .u64 0, .int .u64 0, .int .i64 0, .int .i64 0, .int .i64 0] 34) = w7 at *
        refine HL7.out.mono ?_
        rintro _ w8 ⟨v8, rfl, hr8, _, hF8⟩
        have hsm := same_w hr8 (H7.out.2.fr0 hF8) (by omega) (by omega)
        rw [decide_eq_true (rfl : s.L = s.L)] at hsm
        have HSm := Lib.hid hsm
        have HF8 := Lib.hid hF8
        clear hsm hr8 hF8 HL7
        go_wp2_with fail
        refine HSm.out.mono ?_
        rintro _ w9 ⟨rfl, hF9⟩
        have HF9 := Lib.hid (HF8.out.trans' hF9)
        have hid9 := sg_ids (H7.out.1.go0 HF9.out)
        rw [ids_of HOK.out HBD.out.id] at hid9
        have HID := Lib.hid hid9
        clear HSm HF8 hF9 hid9
        go_wp2_with fail
        refine HID.out.mono ?_
        rintro _ w10 ⟨v10, rfl, hu10, _, hF10⟩
        have HF10 := Lib.hid (HF9.out.trans' hF10)
        have HIW := Lib.hid (ids_w (H7.out.2.fr0 HF10.out) (by omega))
        have HU10 := Lib.hid hu10
        clear hu10 hF10 HF9 HID
        go_wp2_with fail
        refine HIW.out.mono ?_
        rintro _ w11 ⟨v11, rfl, hu11, _, hF11⟩
        have hil : (idsOf s.L).length ≤ 16 := idsN_len _ _
        have hsi := sameIDs_w (HU10.out.fr0 hF11) hu11 (by omega) (by omega)
        rw [decide_eq_true (rfl : idsOf s.L = idsOf s.L)] at hsi
        have HSi := Lib.hid hsi
        have HF11 := Lib.hid (HF10.out.trans' hF11)
        clear hsi hu11 hF11 HF10 HIW HU10
        go_wp2_with fail
        refine HSi.out.mono ?_
        rintro _ w12 ⟨rfl, hF12⟩
        have HF12 := Lib.hid (HF11.out.trans' hF12)
        clear hF12 HF11 HSi
        go_wp2_with fail
        refine (HWk.out _).mono ?_
        rintro _ w13 ⟨rfl, hF13⟩
        have HF13 := Lib.hid (H7.out.1.go0 (HF12.out.trans' hF13)); clear hF13
        go_wp2_with fail
        go_ret
        exact ⟨rfl, HF13.out.below⟩
      · have d10 : decide (10 < (nn : Int)) = false := by simp; omega
        have Hc := Lib.hid (show s.chk u v = 0 by rw [HX.out.2.2.1, if_neg h10])
        clear h10 HX
        have hb := H2.out.2.1
        have q0 := hb.cell 0; have q1 := hb.cell 1; have q2 := hb.cell 2; have q3 := hb.cell 3
        simp only [List.getElem?_cons_zero, List.getElem?_cons_succ] at q0 q1 q2 q3
        clear hb
        rw [d10]
        go_simp
        go_wp2_with fail
        clear g1 g2 d10 q0 q1 q2 q3
        have hc := Hc.out; clear Hc
        have hck2 := sg_check H2.out.1 u v 3 4 (by omega) (by omega)
        rw [hc] at hck2
        have HC := Lib.hid hck2; clear hck2
        refine HC.out.mono ?_
        rintro _ w3 ⟨rfl, hS3, hF3⟩
        have H3 := Lib.hid (And.intro hS3 (And.intro (H2.out.2.1.fr0'' hF3) (H2.out.2.2.fr0 hF3)))
        clear hS3 hF3 HC H2
        have HLi := Lib.hid (sg_list H3.out.1)
        go_wp2_with fail
        refine HLi.out.mono ?_
        rintro _ w4 ⟨v4, rfl, hr4, _, hF4⟩
        have hsm := same_w hr4 (H3.out.2.2.fr0 hF4) (by omega) (by omega)
        rw [decide_eq_true (rfl : s.L = s.L)] at hsm
        have HSm := Lib.hid hsm
        have H4 := Lib.hid (And.intro (H3.out.1.go0 hF4) (And.intro (H3.out.2.1.fr0'' hF4) (H3.out.2.2.fr0 hF4)))
        clear hsm hr4 hF4 HLi H3
        go_wp2_with fail
        refine HSm.out.mono ?_
        rintro _ w5 ⟨rfl, hF5⟩
        have H5 := Lib.hid (And.intro (H4.out.1.go0 hF5) (And.intro (H4.out.2.1.fr0'' hF5) (H4.out.2.2.fr0 hF5)))
        clear hF5 HSm H4
        have q0 := H5.out.2.1.cell 0; have q1 := H5.out.2.1.cell 1; have q2 := H5.out.2.1.cell 2; have q3 := H5.out.2.1.cell 3
        simp only [List.getElem?_cons_zero, List.getElem?_cons_succ] at q0 q1 q2 q3
        have hin := sg_ins H5.out.1 u v 3 4 9 (by omega) (by omega) (by have := HBD.out.last; omega)

        have hir : s.insR u v 3 4 9 = s.edge u v 3 4 9 := if_pos hc
        have his : s.insS u v 3 4 9 = s.ins u v 3 4 9 := if_pos hc
        rw [hir, his, hc] at hin
        obtain ⟨y, hy⟩ : ∃ y, y = s.edge u v 3 4 9 := ⟨_, rfl⟩
        have hLy : (s.ins u v 3 4 9).L = s.L ++ [y] := by rw [hy]; rfl
        rw [← hy] at hin
        have HY := Lib.hid hLy
        clear hir his hy hLy
        generalize s.ins u v 3 4 9 = s' at *
        have HIN := Lib.hid hin; clear hin
        go_wp2_with fail
        refine HIN.out.mono ?_
        rintro _ w6 ⟨rfl, hS6, hG6⟩
        clear q0 q1 q2 q3 HIN
        have hr6 := hG6.rowV H5.out.2.2 (fun q hq => List.mem_cons_of_mem _ (by simpa using hq))
        have hS7 := hS6.alloc (.cells #[.int .i64 y.slot, .int .u64 y.seq, .int .u64 y.u, .int .u64 y.v, .int .i64 y.wt, .int .i64 y.t, .int .i64 y.x] 34)
        have hr7 := hr6.fr0 ((Fr.refl [] w6).alloc (.cells #[.int .i64 y.slot, .int .u64 y.seq, .int .u64 y.u, .int .u64 y.v, .int .i64 y.wt, .int .i64 y.t, .int .i64 y.x] 34))
        have hy7 : Blk (w6.alloc (.cells #[.int .i64 y.slot, .int .u64 y.seq, .int .u64 y.u, .int .u64 y.v, .int .i64 y.wt, .int .i64 y.t, .int .i64 y.x] 34)) w6.heap.size 34 (lvC y) := Blk.new w6 (lvC y) 34
        have H7 := Lib.hid (And.intro hS7 (And.intro hy7 hr7))
        clear hS7 hr7 hy7 hr6 hS6 hG6 H5
        go_wp2_with fail
        generalize w6.alloc (.cells #[.int .i64 y.slot, .int .u64 y.seq, .int .u64 y.u, .int .u64 y.v, .int .i64 y.wt, .int .i64 y.t, .int .i64 y.x] 34) = w7 at *
        refine region_invB (InvR (G19 (sptr ps) (.slice av s.L.length cv) y) (g19 s.L y) w7) (by kernel_rfl) (by kernel_rfl) (InvR.start w7 g19_none) ?_ ?_
        · refine (fun (H : ∀ a : Act, a.tmps.size = 104 → a.tmps[7]? = some (sptr ps) → a.tmps[8]? = some (.slice av s.L.length cv) → a.tmps[12]? = some (.pointer (some ⟨w6.heap.size, 0, none⟩)) → ∀ f, StepsB _ _ _ _ f a 0 _) => H _ rfl rfl rfl rfl) fun a hsz t7 t8 t12 f => ?_
          refine ⟨?_, ?_, ?_, ?_, ?_, ?_, ?_, ?_, ?_, ?_, ?_, ?_, ?_, trivial⟩
          · intro b hb hf hg
            have hbs : b.tmps.size = 104 := hb.trans hsz
            have T7 := tm_of ((hg 7 (by kernel_rfl)).trans t7)
            clear hf hg hb
            refine stepI_plain rfl fun L w hd hnL hI => ?_
            go_simp
            exact hI.pass rfl (Fr.refl [] w) (g19_pass (by decide) (by decide) (by decide) (by decide) (by decide))
          · intro b hb hf hg
            have hbs : b.tmps.size = 104 := hb.trans hsz
            have t92 : b.tmps[92]? = some (f 0) := hf 0 92 (by decide) (by kernel_rfl) (by rw [hsz]; decide)
            have T92 := tm_of t92
            clear hf hg hb
            refine stepI_plain rfl fun L w hd hnL hI => ?_
            have e0 : f 0 = sptr ps := hI.1 0 (dep_of hd 0 (by decide))
            rw [e0] at T92
            have HLL := Lib.hid (sg_list' (H7.out.1.go0 hI.fr))
            go_simp
            refine HLL.out.mono ?_
            rintro _ w' ⟨v', rfl, hr', hq', hF'⟩
            rw [HY.out] at hr'
            exact ⟨_, rfl, hI.new trivial hF' hr' hq' g19_new1⟩
          · intro b hb hf hg
            have hbs : b.tmps.size = 104 := hb.trans hsz
            clear hf hg hb
            refine stepI_plain rfl fun L w hd hnL hI => ?_
            go_simp
            exact hI.new trivial ((Fr.refl [] w).alloc _) (RowV.mt w) own_mk g19_new2
          · intro b hb hf hg
            have hbs : b.tmps.size = 104 := hb.trans hsz
            have T8 := tm_of ((hg 8 (by kernel_rfl)).trans t8)
            clear hf hg hb
            refine stepI_plain rfl fun L w hd hnL hI => ?_
            go_simp
            exact hI.pass rfl (Fr.refl [] w) (g19_pass (by decide) (by decide) (by decide) (by decide) (by decide))
          · intro b hb hf hg
            have hbs : b.tmps.size = 104 := hb.trans hsz
            have t94 : b.tmps[94]? = some (f 2) := hf 2 94 (by decide) (by kernel_rfl) (by rw [hsz]; decide)
            have T94 := tm_of t94
            have t95 : b.tmps[95]? = some (f 3) := hf 3 95 (by decide) (by kernel_rfl) (by rw [hsz]; decide)
            have T95 := tm_of t95
            clear hf hg hb
            refine stepI_plain rfl fun L w hd hnL hI => ?_
            have e3 : f 3 = (.slice av s.L.length cv) := hI.1 3 (dep_of hd 3 (by decide))
            have hr2 : g19 s.L y L 2 = some [] := if_pos ⟨dep_of hd 2 (by decide), hnL⟩
            have hy : RowV w (f 3) s.L := by rw [e3]; exact H7.out.2.2.fr0 hI.fr
            refine si_app (.tmp 94) (.tmp 95) rfl (ev_tmp t94) (ev_tmp t95) (hI.row hr2) hy (by simp; omega) fun v' w' k1 k2 k3 => ?_
            exact hI.app trivial hr2 k2 k1 k3 g19_app4
          · intro b hb hf hg
            have hbs : b.tmps.size = 104 := hb.trans hsz
            have T12 := tm_of ((hg 12 (by kernel_rfl)).trans t12)
            clear hf hg hb
            refine stepI_plain rfl fun L w hd hnL hI => ?_
            obtain ⟨y0, y1, y2, y3, y4, y5, y6⟩ := (H7.out.2.1.fr0'' hI.fr).lvAt
            simp only [Nat.zero_add] at y0 y1 y2 y3 y4 y5 y6
            go_simp
            exact hI.pass rfl (Fr.refl [] w) (g19_pass (by decide) (by decide) (by decide) (by decide) (by decide))
          · intro b hb hf hg
            have hbs : b.tmps.size = 104 := hb.trans hsz
            have t97 : b.tmps[97]? = some (f 5) := hf 5 97 (by decide) (by kernel_rfl) (by rw [hsz]; decide)
            have T97 := tm_of t97
            clear hf hg hb
            refine stepI_plain rfl fun L w hd hnL hI => ?_
            have e5 : f 5 = lvA y := hI.1 5 (dep_of hd 5 (by decide))
            rw [e5] at T97
            go_simp
            exact hI.new trivial ((Fr.refl [] w).alloc _) (RowV.one w y) own_mk g19_new6
          · intro b hb hf hg
            have hbs : b.tmps.size = 104 := hb.trans hsz
            have t96 : b.tmps[96]? = some (f 4) := hf 4 96 (by decide) (by kernel_rfl) (by rw [hsz]; decide)
            have T96 := tm_of t96
            have t98 : b.tmps[98]? = some (f 6) := hf 6 98 (by decide) (by kernel_rfl) (by rw [hsz]; decide)
            have T98 := tm_of t98
            clear hf hg hb
            refine stepI_plain rfl fun L w hd hnL hI => ?_
            have hr4 : g19 s.L y L 4 = some s.L := if_pos ⟨dep_of hd 4 (by decide), hnL⟩
            have hr6 : g19 s.L y L 6 = some [y] := if_pos ⟨dep_of hd 6 (by decide), hnL⟩
            refine si_app (.tmp 96) (.tmp 98) rfl (ev_tmp t96) (ev_tmp t98) (hI.row hr4) (hI.row hr6) (by simp; omega) fun v' w' k1 k2 k3 => ?_
            exact hI.app trivial hr4 k2 k1 k3 g19_app7
          · intro b hb hf hg
            have hbs : b.tmps.size = 104 := hb.trans hsz
            have t93 : b.tmps[93]? = some (f 1) := hf 1 93 (by decide) (by kernel_rfl) (by rw [hsz]; decide)
            have T93 := tm_of t93
            have t99 : b.tmps[99]? = some (f 7) := hf 7 99 (by decide) (by kernel_rfl) (by rw [hsz]; decide)
            have T99 := tm_of t99
            clear hf hg hb
            refine stepI_plain rfl fun L w hd hnL hI => ?_
            have hr1 : g19 s.L y L 1 = some (s.L ++ [y]) := if_pos (dep_of hd 1 (by decide))
            have hr7 : g19 s.L y L 7 = some (s.L ++ [y]) := if_pos (dep_of hd 7 (by decide))
            have hsm := same_w (hI.row hr1) (hI.row hr7) (by simp; omega) (by simp; omega)
            rw [decide_eq_true (rfl : s.L ++ [y] = s.L ++ [y])] at hsm
            have HSm := Lib.hid hsm; clear hsm
            go_simp
            refine HSm.out.mono ?_
            rintro _ w' ⟨rfl, hF⟩
            exact ⟨_, rfl, hI.pass rfl hF (g19_pass (by decide) (by decide) (by decide) (by decide) (by decide))⟩
          · intro b hb hf hg
            have hbs : b.tmps.size = 104 := hb.trans hsz
            have t100 : b.tmps[100]? = some (f 8) := hf 8 100 (by decide) (by kernel_rfl) (by rw [hsz]; decide)
            have T100 := tm_of t100
            clear hf hg hb
            refine stepI_plain rfl fun L w hd hnL hI => ?_
            have e8 : f 8 = .bool true := hI.1 8 (dep_of hd 8 (by decide))
            rw [e8] at T100
            go_simp
            exact hI.pass rfl (Fr.refl [] w) (g19_pass (by decide) (by decide) (by decide) (by decide) (by decide))
          · intro b hb hf hg
            have hbs : b.tmps.size = 104 := hb.trans hsz
            have t101 : b.tmps[101]? = some (f 9) := hf 9 101 (by decide) (by kernel_rfl) (by rw [hsz]; decide)
            have T101 := tm_of t101
            clear hf hg hb
            refine stepI_on fun L w hd hnL hI => ?_
            have e9 : f 9 = .bool true := hI.1 9 (dep_of hd 9 (by decide))
            refine ⟨by simp [Region.wanted, yielded, t101, e9], ?_⟩
            go_simp
            refine (HWk.out _).mono ?_
            rintro _ w' ⟨rfl, hF⟩
            exact ⟨_, rfl, hI.pass rfl hF (g19_pass (by decide) (by decide) (by decide) (by decide) (by decide))⟩
          · intro b hb hf hg
            have hbs : b.tmps.size = 104 := hb.trans hsz
            have t101 : b.tmps[101]? = some (f 9) := hf 9 101 (by decide) (by kernel_rfl) (by rw [hsz]; decide)
            have T101 := tm_of t101
            have t102 : b.tmps[102]? = some (f 10) := hf 10 102 (by decide) (by kernel_rfl) (by rw [hsz]; decide)
            have T102 := tm_of t102
            clear hf hg hb
            refine stepI_plain rfl fun L w hd hnL hI => ?_
            have e9 : f 9 = .bool true := hI.1 9 (dep_of hd 9 (by decide))
            have e10 : f 10 = .bool true := hI.1 10 (dep_of hd 10 (by decide))
            rw [e9] at T101
            rw [e10] at T102
            go_simp
            exact hI.pass rfl (Fr.refl [] w) (g19_pass (by decide) (by decide) (by decide) (by decide) (by decide))
          · intro b hb hf hg
            have hbs : b.tmps.size = 104 := hb.trans hsz
            have t103 : b.tmps[103]? = some (f 11) := hf 11 103 (by decide) (by kernel_rfl) (by rw [hsz]; decide)
            have T103 := tm_of t103
            clear hf hg hb
            refine stepI_plain rfl fun L w hd hnL hI => ?_
            have e11 : f 11 = .bool true := hI.1 11 (dep_of hd 11 (by decide))
            rw [e11] at T103
            go_simp
            exact hI.pass rfl (Fr.refl [] w) (g19_pass (by decide) (by decide) (by decide) (by decide) (by decide))
        · intro f L w8 hL hI
          have e12 := hI.1 12 (hL 12 (by simp))
          have HF8 := Lib.hid hI.fr
          simp only [G19] at e12
          simp only [endA, e12]
          clear hI hL e12
          go_simp
          go_wp2_with fail
          go_ret
          exact ⟨rfl, (H7.out.1.go0 HF8.out).below⟩
end Go.Proofs.Ytbegdgnhpklceaa

namespace Go.Proofs.Ytbegdgnhpklceaa.storeRefuses
open Go.ChangeShapes Go.WideShapes Go.ChangeAt Go.RowKit
set_option linter.unusedVariables false

theorem own : ownKnob Try.prog.godebug = none := by kernel_rfl
theorem laidOut : laidOutB Try.prog = true := by kernel_rfl

set_option maxRecDepth 100000 in
theorem lifted (os : Os) (started : os.Started) (H : Type) (enc : TypeId × Value → H) :
    ReturnsInHanded {} Try.checked os 5 .any (Rows.storeRefusesSpec.pre6 enc Try.prog Try.f5 Rows.storeRefusesRow.domain false) (Rows.storeRefusesSpec.post enc Try.prog Try.f5 false true false false) := by
  refine returnsInHanded_of_change (C := Try.checked) own started (by kernel_rfl) Try.func5
    (ChangeSpec.witness6 (enc := enc) (C := Try.checked) false ⟨#[], #[.slice none 0 0, .int .u8 0, .int .u8 0], []⟩ 8 (by kernel_rfl) (by kernel_rfl) (by kernel_rfl) (by kernel_rfl)) ?_
  intro W base args ds gs before hval0 hW hcnd _
  have hval : ∀ (j : Nat) t v, Try.f5.params[j]? = some t → args[j]? = some v → Value.okWide Try.prog W .any base t v := hval0
  have hW' := hW
  obtain ⟨p, q, hA0, hV, rfl, hfz, hnd⟩ := hW
  have hA : DataW.TrodAll enc Try.prog W 0 (fun _ => true) true Try.f5.params.toList args.toList ds p := hA0
  rw [Try.params5] at hA hval
  obtain ⟨v0, vs0, d0, ds0, p0, q0, hargs, rfl, rfl, h0, r0⟩ := trodAll_cons hA
  obtain ⟨v1, vs1, d1, ds1, p1, q1, rfl, rfl, rfl, h1, r1⟩ := trodAll_cons r0
  obtain ⟨v2, vs2, d2, ds2, p2, q2, rfl, rfl, rfl, h2, r2⟩ := trodAll_cons r1
  obtain ⟨rfl, rfl, rfl⟩ := trodAll_nil r2
  obtain rfl : args = #[v0, v1, v2] := by cases args; simp_all
  obtain ⟨rfl, rfl⟩ := trodVars_none hV
  obtain ⟨a0, len0, cap0, rfl⟩ := okWide_slice Try.underlying22 (hval 0 22 v0 rfl rfl)
  have k0 := h0
  have lt0 : ∀ x ∈ p0, x.block < W.heap.size := by obtain ⟨m, hm⟩ := k0; exact DataW.trod_lt m _ _ _ hm
  obtain ⟨z0, w0⟩ := open_moves h0
  obtain ⟨a1, rfl, rfl, rfl, w1⟩ := open_int Try.underlying5 (hval 1 5 v1 rfl rfl) h1
  obtain ⟨a2, rfl, rfl, rfl, w2⟩ := open_int Try.underlying5 (hval 2 5 v2 rfl rfl) h2
  clear hA0 hval0
  refine (walk_storeRefuses W a0 len0 cap0 z0 w0 a1 w1 a2 w2).mono fun e W' ⟨he, bel⟩ => ?_
  subst he
  exact ⟨_, rfl, _, _, _, [], _, [], hW', trodAll_mk1 (shut_bool Try.underlying4 _), (trodAll_cons_mk (Below.trod laidOut (by kernel_rfl) (of_decide_eq_true (by kernel_rfl)) k0 bel lt0) (trodAll_cons_mk (shut_int Try.underlying5 w1) (trodAll_cons_mk (shut_int Try.underlying5 w2) trodAll_mk0))), rfl, bel.frame _, fun h => by cases h⟩

theorem over : Rows.storeRefusesRow.holds Try.pinned (OpenSpec.ofChange Rows.storeRefusesSpec) :=
  OpenClaim.holds_of_wide 5 Try.f5 rfl rfl rfl rfl rfl rfl rfl ⟨rfl, rfl, rfl, rfl, rfl⟩ rfl rfl rfl rfl rfl (by kernel_rfl) Try.func5 (by kernel_rfl)
    (of_decide_eq_true (by kernel_rfl)) (by unfold Func.isWrapper; first | (rw [if_pos (by decide +kernel)]; kernel_rfl) | (rw [if_neg (by decide +kernel)]; exact ⟨rfl, rfl⟩))
    (fun os started H enc _ => lifted os started H enc)

end Go.Proofs.Ytbegdgnhpklceaa.storeRefuses

namespace Go.Proofs.Ytbegdgnhpklceaa
theorem storeRefuses_holds : Rows.StoreRefusesSaid := storeRefuses.over
#print axioms storeRefuses_holds
end Go.Proofs.Ytbegdgnhpklceaa
