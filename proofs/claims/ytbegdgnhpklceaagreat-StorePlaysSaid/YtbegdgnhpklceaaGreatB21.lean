/- A range over a map with integer keys: the keys that were met, in whatever order. -/
import Derived.Test.YtbegdgnhpklceaaGreatB20
import Derived.Test.YtbegdgnhpklceaaGreatB12
import Derived.Shelf.SlSortCmp.WholeK
import Derived.Shelf.Lay
import Derived.Ground.SlsfProg
import Derived.Test.YtbegdgnhpklceaaGreatB15
import Derived.Test.YtbegdgnhpklceaaGreatB16
import Derived.Maps.RangeWalk
import Derived.Test.YtbegdgnhpklceaaGreatB6
set_option linter.unusedSimpArgs false
set_option linter.unusedVariables false
/- store: the example of the chapter. -/
namespace Go.Proofs.YtbegdgnhpklceaaGreat
open Go.RowKit
set_option maxRecDepth 10000
set_option maxHeartbeats 1000000

def exS1 : Sm := (Sm.new 3 2 0).insS 1 2 5 0 10
def exS2 : Sm := exS1.insS 2 9 1 4 14
def exS3 : Sm := exS2.remS 0
theorem ex_r1 : (Sm.new 3 2 0).insR 1 2 5 0 10 = ⟨0, 1, 1, 2, 5, 0, 10⟩ ∧ (Sm.new 3 2 0).chk 1 2 = 0 ∧ (Sm.new 3 2 0).last = 0 := by decide
theorem ex_r2 : exS1.insR 2 9 1 4 14 = ⟨1, 2, 2, 9, 1, 4, 14⟩ ∧ exS1.chk 2 9 = 0 ∧ exS1.last = 1 := by decide
theorem ex_r3 : exS2.chk 1 1 = 9 ∧ exS2.chk 1 9 = 12 := by decide
theorem ex_r4 : exS2.got 0 = ⟨0, 1, 1, 2, 5, 0, 10⟩ ∧ exS2.remC 0 = 0 := by decide
theorem ex_r5 : exS3.chk 3 4 = 11 ∧ exS3.M.L.length = 2 := by decide

theorem works_w (w : World) : Calls Tryz.prog 12 #[] w fun e w' => e = .returned (.bool true) ∧ Fr [] w w' := by
  have HN := Lib.hid (sg_new (Z := []) 3 2 (Fr.refl [] w) (by simp) (by omega) (by omega))
  go_enter Tryz.func12, Tryz.ntmps12
  go_wp2_with fail
  refine HN.out.mono ?_
  rintro _ w1 ⟨ps, rfl, hS1, _⟩
  have A1 := sg_ins hS1 1 2 5 0 10 (by omega) (by omega) (by rw [ex_r1.2.2]; omega)
  rw [ex_r1.1, ex_r1.2.1, show (Sm.new 3 2 0).insS 1 2 5 0 10 = exS1 from rfl] at A1
  have A1 := Lib.hid A1
  clear hS1 HN
  go_wp2_with fail
  refine A1.out.mono ?_
  rintro _ w2 ⟨rfl, hS2, _⟩
  have hb2 := Blk.new w2 [.int .i64 0, .int .u64 1, .int .u64 1, .int .u64 2, .int .i64 5, .int .i64 0, .int .i64 10] 36
  have A2 := sg_ins (hS2.alloc (.cells #[.int .i64 0, .int .u64 1, .int .u64 1, .int .u64 2, .int .i64 5, .int .i64 0, .int .i64 10] 36)) 2 9 1 4 14 (by omega) (by omega) (by rw [ex_r2.2.2]; omega)
  rw [ex_r2.1, ex_r2.2.1, show exS1.insS 2 9 1 4 14 = exS2 from rfl] at A2
  have A2 := Lib.hid A2
  have HB2 := Lib.hid hb2
  clear hS2 A1 hb2
  go_wp2_with fail
  refine A2.out.mono ?_
  rintro _ w3 ⟨rfl, hS3, hG3⟩
  have hb3 := Blk.new w3 [.int .i64 1, .int .u64 2, .int .u64 2, .int .u64 9, .int .i64 1, .int .i64 4, .int .i64 14] 36
  have hx3 := (hG3.blk HB2.out (by simp)).alloc (.cells #[.int .i64 1, .int .u64 2, .int .u64 2, .int .u64 9, .int .i64 1, .int .i64 4, .int .i64 14] 36)
  have hS4 := hS3.alloc (.cells #[.int .i64 1, .int .u64 2, .int .u64 2, .int .u64 9, .int .i64 1, .int .i64 4, .int .i64 14] 36)
  have A3 := sg_check hS4 1 1 0 0 (by omega) (by omega)
  rw [ex_r3.1] at A3
  have A3 := Lib.hid A3
  have HB3 := Lib.hid (And.intro hx3 hb3)
  clear hS3 hS4 A2 hb3 hx3 HB2 hG3
  go_wp2_with fail
  refine A3.out.mono ?_
  rintro _ w4 ⟨rfl, hS4, hF4⟩
  have A4 := sg_check hS4 1 9 0 0 (by omega) (by omega)
  rw [ex_r3.2] at A4
  have A4 := Lib.hid A4
  have HB4 := Lib.hid (And.intro (hF4.blk HB3.out.1 (by simp)) (hF4.blk HB3.out.2 (by simp)))
  clear hS4 hF4 A3 HB3
  go_wp2_with fail
  refine A4.out.mono ?_
  rintro _ w5 ⟨rfl, hS5, hF5⟩
  have A5 := sg_rem hS5 0
  rw [ex_r4.1, ex_r4.2, show exS2.remS 0 = exS3 from rfl] at A5
  have A5 := Lib.hid A5
  have HB5 := Lib.hid (And.intro (hF5.blk HB4.out.1 (by simp)) (hF5.blk HB4.out.2 (by simp)))
  clear hS5 hF5 A4 HB4
  go_wp2_with fail
  refine A5.out.mono ?_
  rintro _ w6 ⟨rfl, hS6, hG6⟩
  have hb6 := Blk.new w6 [.int .i64 0, .int .u64 1, .int .u64 1, .int .u64 2, .int .i64 5, .int .i64 0, .int .i64 10] 36
  have hx6 := (hG6.blk HB5.out.1 (by simp)).alloc (.cells #[.int .i64 0, .int .u64 1, .int .u64 1, .int .u64 2, .int .i64 5, .int .i64 0, .int .i64 10] 36)
  have hy6 := (hG6.blk HB5.out.2 (by simp)).alloc (.cells #[.int .i64 0, .int .u64 1, .int .u64 1, .int .u64 2, .int .i64 5, .int .i64 0, .int .i64 10] 36)
  have A6 := sg_check (hS6.alloc (.cells #[.int .i64 0, .int .u64 1, .int .u64 1, .int .u64 2, .int .i64 5, .int .i64 0, .int .i64 10] 36)) 3 4 0 0 (by omega) (by omega)
  rw [ex_r5.1] at A6
  have A6 := Lib.hid A6
  have HB6 := Lib.hid (And.intro hx6 (And.intro hy6 hb6))
  clear hS6 hG6 A5 HB5 hb6 hx6 hy6
  go_wp2_with fail
  refine A6.out.mono ?_
  rintro _ w7 ⟨rfl, hS7, hF7⟩
  have A7 := sg_verts hS7
  rw [ex_r5.2] at A7
  have A7 := Lib.hid A7
  have H7 := Lib.hid hS7
  have t1 := (hF7.blk HB6.out.1 (by simp)).cell
  have t2 := (hF7.blk HB6.out.2.1 (by simp)).cell
  have t3 := (hF7.blk HB6.out.2.2 (by simp)).cell
  have x0 := t1 0; have x1 := t1 1; have x2 := t1 2; have x3 := t1 3; have x4 := t1 4; have x5 := t1 5; have x6 := t1 6
  have y0 := t2 0; have y1 := t2 1
  have z0 := t3 0; have z1 := t3 1; have z2 := t3 2; have z3 := t3 3; have z4 := t3 4; have z5 := t3 5; have z6 := t3 6
  simp only [List.getElem?_cons_zero, List.getElem?_cons_succ] at x0 x1 x2 x3 x4 x5 x6 y0 y1 z0 z1 z2 z3 z4 z5 z6
  clear hS7 hF7 A6 HB6 t1 t2 t3
  go_wp2_with fail
  refine A7.out.mono ?_
  rintro _ w8 ⟨rfl, rfl⟩
  clear A7
  go_wp2
  go_ret
  exact ⟨rfl, H7.out.fr⟩
end Go.Proofs.YtbegdgnhpklceaaGreat

/- slices.SortFunc of edges by their sequence numbers. -/
namespace Go.Proofs.YtbegdgnhpklceaaGreat
open Go.RowKit Go.Lib Go.Sort
set_option maxRecDepth 10000
set_option maxHeartbeats 1000000

instance : Inhabited Lv := ⟨Lv.z⟩
def Tryz.laysSortL_ren : Go.Shelf.Ren := ⟨fun | 6 => 71 | 15 => 91 | 14 => 90 | 28 => 104 | 29 => 105 | 20 => 96 | 21 => 97 | 22 => 98 | 23 => 99 | 24 => 100 | 25 => 101 | 26 => 102 | 27 => 103 | 46 => 108 | 47 => 109 | 48 => 110 | 49 => 111 | 50 => 112 | 57 => 122 | n => n, fun | 22 => 60 | 24 => 36 | 25 => 103 | 3 => 3 | 39 => 133 | 0 => 0 | 53 => 146 | 55 => 22 | 4 => 4 | 46 => 140 | 45 => 139 | 50 => 51 | 5 => 5 | 9 => 9 | 66 => 149 | 70 => 153 | 76 => 161 | 77 => 162 | n => n, fun | n => n⟩
theorem Tryz.laysSortL : Go.Proofs.SlLaysF0.n6 Tryz.prog Tryz.laysSortL_ren := {
  mixed := by kernel_rfl
  f6 := ⟨Tryz.f71.name, by decide, Tryz.func71.trans (congrArg some (by kernel_rfl))⟩
  f14 := ⟨Tryz.f90.name, by decide, Tryz.func90.trans (congrArg some (by kernel_rfl))⟩
  f15 := Tryz.func91.trans (congrArg some (by kernel_rfl))
  f20 := ⟨Tryz.f96.name, by decide, Tryz.func96.trans (congrArg some (by kernel_rfl))⟩
  f21 := ⟨Tryz.f97.name, by decide, Tryz.func97.trans (congrArg some (by kernel_rfl))⟩
  f22 := ⟨Tryz.f98.name, by decide, Tryz.func98.trans (congrArg some (by kernel_rfl))⟩
  f23 := ⟨Tryz.f99.name, by decide, Tryz.func99.trans (congrArg some (by kernel_rfl))⟩
  f24 := ⟨Tryz.f100.name, by decide, Tryz.func100.trans (congrArg some (by kernel_rfl))⟩
  f25 := ⟨Tryz.f101.name, by decide, Tryz.func101.trans (congrArg some (by kernel_rfl))⟩
  f26 := ⟨Tryz.f102.name, by decide, Tryz.func102.trans (congrArg some (by kernel_rfl))⟩
  f27 := ⟨Tryz.f103.name, by decide, Tryz.func103.trans (congrArg some (by kernel_rfl))⟩
  f28 := Tryz.func104.trans (congrArg some (by kernel_rfl))
  f29 := Tryz.func105.trans (congrArg some (by kernel_rfl))
  f46 := ⟨Tryz.f108.name, by decide, Tryz.func108.trans (congrArg some (by kernel_rfl))⟩
  f47 := Tryz.func109.trans (congrArg some (by kernel_rfl))
  f48 := Tryz.func110.trans (congrArg some (by kernel_rfl))
  f49 := ⟨Tryz.f111.name, by decide, Tryz.func111.trans (congrArg some (by kernel_rfl))⟩
  f50 := ⟨Tryz.f112.name, by decide, Tryz.func112.trans (congrArg some (by kernel_rfl))⟩
  f57 := ⟨Tryz.f122.name, by decide, Tryz.func122.trans (congrArg some (by kernel_rfl))⟩
  t0 := Tryz.underlying0
  a0 := Tryz.isAgg0
  z0 := Tryz.sizeOf0
  v0 := Tryz.zeroValue0
  t3 := Tryz.underlying3
  a3 := Tryz.isAgg3
  z3 := Tryz.sizeOf3
  v3 := Tryz.zeroValue3
  t4 := Tryz.underlying4
  a4 := Tryz.isAgg4
  z4 := Tryz.sizeOf4
  v4 := Tryz.zeroValue4
  t5 := Tryz.underlying5
  a5 := Tryz.isAgg5
  z5 := Tryz.sizeOf5
  v5 := Tryz.zeroValue5
  t9 := Tryz.underlying9
  a9 := Tryz.isAgg9
  z9 := Tryz.sizeOf9
  v9 := Tryz.zeroValue9
  t22 := Tryz.underlying60
  a22 := Tryz.isAgg60
  z22 := Tryz.sizeOf60
  v22 := Tryz.zeroValue60
  t25 := Tryz.underlying103
  a25 := Tryz.isAgg103
  z25 := Tryz.sizeOf103
  v25 := Tryz.zeroValue103
  t39 := Tryz.underlying133
  a39 := Tryz.isAgg133
  z39 := Tryz.sizeOf133
  v39 := Tryz.zeroValue133
  t45 := Tryz.underlying139
  a45 := Tryz.isAgg139
  z45 := Tryz.sizeOf139
  v45 := Tryz.zeroValue139
  t46 := Tryz.underlying140
  a46 := Tryz.isAgg140
  z46 := Tryz.sizeOf140
  v46 := Tryz.zeroValue140
  t50 := Tryz.underlying51
  a50 := Tryz.isAgg51
  z50 := Tryz.sizeOf51
  v50 := Tryz.zeroValue51
  t53 := Tryz.underlying146
  a53 := Tryz.isAgg146
  z53 := Tryz.sizeOf146
  v53 := Tryz.zeroValue146
  t55 := Tryz.underlying22
  a55 := Tryz.isAgg22
  z55 := Tryz.sizeOf22
  v55 := Tryz.zeroValue22
  t66 := Tryz.underlying149
  a66 := Tryz.isAgg149
  z66 := Tryz.sizeOf149
  v66 := Tryz.zeroValue149
  t70 := Tryz.underlying153
  a70 := Tryz.isAgg153
  z70 := Tryz.sizeOf153
  v70 := Tryz.zeroValue153
  t76 := Tryz.underlying161
  a76 := Tryz.isAgg161
  z76 := Tryz.sizeOf161
  v76 := Tryz.zeroValue161
  t77 := Tryz.underlying162
  a77 := Tryz.isAgg162
  z77 := Tryz.sizeOf162
  v77 := Tryz.zeroValue162 }

def seqC (a b : Lv) : Int := if a.seq < b.seq then -1 else if b.seq < a.seq then 1 else 0
theorem seq_lt (a b : Lv) : ltOf seqC a b = decide (a.seq < b.seq) := by
  unfold ltOf seqC
  by_cases h1 : a.seq < b.seq
  · simp [h1]
  · by_cases h2 : b.seq < a.seq <;> simp [h1, h2]
theorem seq_swo : SWO (ltOf seqC) where
  irrefl x := by rw [seq_lt]; simp
  trans x y z h1 h2 := by rw [seq_lt] at *; simp at *; omega
  ntrans x y z h1 h2 := by rw [seq_lt] at *; simp at *; omega
theorem flat_row (l : List Lv) : (flatK lvC 7 l.toArray).toList = rowV l := by
  refine List.ext_getElem? fun t => ?_
  by_cases ht : t < l.length * 7
  · have h7 : t / 7 < l.length := by omega
    have hm : t % 7 < 7 := Nat.mod_lt _ (by omega)
    have h1 := rowV_at h7 (t % 7) hm
    rw [show t / 7 * 7 + t % 7 = t by omega] at h1
    rw [h1, Array.getElem?_toList]
    have hc : t % 7 < (lvC l[t / 7]).length := by simp [lvC]; omega
    rw [List.getElem?_eq_getElem hc]
    simp only [flatK, List.size_toArray, Array.getElem?_map]
    rw [Array.getElem?_eq_getElem (by simpa using ht)]
    simp only [Array.getElem_range, Option.map_some]
    rw [getElem!_pos l.toArray (t / 7) (by simpa using h7)]
    simp only [List.getElem_toArray]
    rw [getElem!_pos (lvC (l[t / 7])) (t % 7) hc]
  · rw [List.getElem?_eq_none (by simp; omega), List.getElem?_eq_none (by rw [rowV_len]; omega)]
theorem perm_sorted_eq : ∀ {L l : List Lv}, l.Perm L → L.Pairwise (fun a b => a.seq < b.seq) → l.Pairwise (fun a b => a.seq ≤ b.seq) → l = L
  | [], l, hp, _, _ => List.Perm.eq_nil hp
  | a :: r, [], hp, _, _ => by have := hp.length_eq; simp at this
  | a :: r, b :: t, hp, hL, hl => by
    rw [List.pairwise_cons] at hL hl
    have hb : b ∈ a :: r := hp.subset (List.mem_cons_self ..)
    have ha : a ∈ b :: t := hp.symm.subset (List.mem_cons_self ..)
    have e : b = a := by
      rcases List.mem_cons.1 hb with e | hb
      · exact e
      · rcases List.mem_cons.1 ha with e | ha
        · exact e.symm
        · have h1 := hL.1 b hb
          have h2 := hl.1 a ha
          omega
    subst e
    rw [perm_sorted_eq (List.Perm.cons_inv hp) hL.2 hl.2]
theorem isnan_u (x : Int) (w : World) : Calls Tryz.prog 92 #[.int .u64 x] w fun e w' => e = .returned (.bool false) ∧ w' = w := by
  go_enter Tryz.func92, Tryz.ntmps92
  go_wp2
  go_ret
  exact ⟨by simp, rfl⟩
theorem compare_u (x y : Nat) (w : World) : Calls Tryz.prog 73 #[.int .u64 x, .int .u64 y] w fun e w' => e = .returned (.int .i64 (if x < y then -1 else if y < x then 1 else 0)) ∧ w' = w := by
  go_enter Tryz.func73, Tryz.ntmps73
  by_cases h1 : x < y
  · have d1 : decide ((x : Int) < (y : Int)) = true := decide_eq_true (by omega)
    go_wp2_with (go_at_call 92; refine (isnan_u _ _).mono ?_; rintro e w' ⟨rfl, rfl⟩)
    go_ret
    exact ⟨by simp [h1], rfl⟩
  · have d1 : decide ((x : Int) < (y : Int)) = false := decide_eq_false (by omega)
    by_cases h2 : y < x
    · have d2 : decide ((y : Int) < (x : Int)) = true := decide_eq_true (by omega)
      go_wp2_with (go_at_call 92; refine (isnan_u _ _).mono ?_; rintro e w' ⟨rfl, rfl⟩)
      go_ret
      exact ⟨by simp [h1], rfl⟩
    · have d2 : decide ((y : Int) < (x : Int)) = false := decide_eq_false (by omega)
      go_wp2_with (go_at_call 92; refine (isnan_u _ _).mono ?_; rintro e w' ⟨rfl, rfl⟩)
      go_ret
      exact ⟨by simp [h1], rfl⟩
theorem seq_closure (a b : Lv) (w : World) : Calls Tryz.prog 72 #[lvA a, lvA b] w fun e w' => e = .returned (.int .i64 (seqC a b)) ∧ ∃ q os', w' = grow (w.drewN q) os' := by
  have hcon := fun W => compare_u a.seq b.seq W
  have hr : seqC a b = if a.seq < b.seq then -1 else if b.seq < a.seq then 1 else 0 := rfl
  rw [← hr] at hcon
  generalize seqC a b = r at *
  have HC := Lib.hid hcon
  clear hr hcon
  go_enter Tryz.func72, Tryz.ntmps72
  go_wp2_with (go_at_call 73; refine (HC.out _).mono ?_; rintro e w' ⟨rfl, rfl⟩)
  go_ret
  exact ⟨rfl, 0, _, by rw [alloc_eq_grow, alloc_eq_grow, grow_grow]; rfl⟩
theorem seq_lays (blk off size : Nat) (w : World) : CmpLays Tryz.prog 72 #[] lvC 7 seqC blk off size w :=
  fun _ _ _ _ x y => seq_closure x y _

theorem insC_nil (fv : Value) (w : World) : Calls Tryz.prog 96 #[.slice none 0 0, .int .i64 0, .int .i64 0, fv] w fun e w' => e = .returned (.tuple #[]) ∧ w' = w := by
  go_enter Tryz.func96, Tryz.ntmps96
  go_wp2
  refine wp_loop_rounds 1 ?_
  rw [rounds_succ]
  go_wp2
  go_end0
  exact ⟨rfl, rfl⟩
theorem pdqC_nil (k : Int) (fv : Value) (w : World) : Calls Tryz.prog 90 #[.slice none 0 0, .int .i64 0, .int .i64 0, .int .i64 k, fv] w fun e w' => e = .returned (.tuple #[]) ∧ w' = w := by
  go_enter Tryz.func90, Tryz.ntmps90
  go_wp2
  refine wp_loop_rounds 1 ?_
  rw [rounds_succ]
  go_wp2_with (first | (go_at_call 96; refine (insC_nil _ _).mono ?_; rintro e w' ⟨rfl, rfl⟩))
  refine bodyPost_ret (v := .tuple #[]) (results_none rfl _ _ _) rfl ?_
  exact ⟨rfl, rfl⟩
theorem sortC_nil (fv : Value) (w : World) : Calls Tryz.prog 71 #[.slice none 0 0, fv] w fun e w' => e = .returned (.tuple #[]) ∧ w' = w := by
  have h := Any.bits_Len Tryz.laysLen 0 w (by omega) (by omega)
  have HL := Lib.hid h
  clear h
  go_enter Tryz.func71, Tryz.ntmps71
  go_wp2_with fail
  refine HL.out.mono ?_
  rintro _ _ ⟨rfl, rfl⟩
  go_wp2_with fail
  refine (pdqC_nil _ _ _).mono ?_
  rintro _ w1 ⟨rfl, rfl⟩
  go_wp2
  go_end0
  exact ⟨rfl, rfl⟩

theorem sort_live {w : World} {v : Value} {l L : List Lv} (h : RowV w v l) (hn : l.length ≤ 16384) (hp : l.Perm L) (hs : L.Pairwise fun a b => a.seq < b.seq) :
    Calls Tryz.prog 71 #[v, .func (.func 72) #[] #[]] w fun e w' => e = .returned (.tuple #[]) ∧ RowV w' v L ∧ Fr v.ownBlock.toList w w' := by
  have hl := h.1
  rcases h.2 with ⟨rfl, h0⟩ | ⟨g, cap, cur, rfl, hg, hcur, hnc, hcm, hcs, htk⟩
  · have : l = [] := List.length_eq_zero_iff.1 (by simpa using h0)
    subst this
    have hL : L = [] := List.Perm.eq_nil hp.symm
    subst hL
    refine (sortC_nil _ w).mono ?_
    rintro _ w' ⟨rfl, rfl⟩
    exact ⟨rfl, h, Fr.refl _ _⟩
  · have eg : ∀ args w, (callFunc 72 args).run Tryz.prog w = .ok (.enter 72 args) w := enters_of Tryz.func72 (by kernel_rfl) rfl
    have hH : HoldsK lvC 7 w g 0 l.toArray := by
      intro j hj
      have hj' : j < l.length * 7 := by simpa using hj
      refine ⟨?_, by simp [World.frozen?, hcur]⟩
      have h1 : (cur.toList.take (l.length * 7))[j]? = (rowV l)[j]? := by rw [htk]
      rw [List.getElem?_take_of_lt hj'] at h1
      simp only [World.cell?, hcur, Nat.zero_add]
      simp only [Option.isSome_none, Bool.false_eq_true, if_false]
      rw [← Array.getElem?_toList, h1, ← flat_row, Array.getElem?_toList, getElem!_pos _ j hj, Array.getElem?_eq_getElem hj]
      rfl
    have hcon := AnyQ.slices_SortFunc Tryz.laysSortL 7 Tryz.isAgg36 Tryz.sizeOf36 lvC (fun _ => rfl) (fun x u hu => by simp [lvC] at hu; rcases hu with rfl | rfl | rfl | rfl | rfl | rfl | rfl <;> rfl) seqC seq_swo 72 #[] g 0 cap l.toArray w eg (seq_lays g 0 l.toArray.size w) hH (Array.getElem?_eq_some_iff.1 hcur).1 (by simp; omega)
    rw [List.size_toArray] at hcon
    refine hcon.mono ?_
    rintro _ w' ⟨rfl, d', m, os, hperm, hsort, rfl⟩
    obtain ⟨hsz, _, hpp⟩ := hperm
    simp only [List.size_toArray] at hsz
    have e1 : d'.extract 0 l.length = d' := by rw [← hsz]; simp
    have e2 : l.toArray.extract 0 l.length = l.toArray := by simp
    rw [e1, e2] at hpp
    have hd : d'.toList = L := by
      refine perm_sorted_eq (hpp.trans hp) hs ?_
      rw [List.pairwise_iff_getElem]
      intro i j hi hj hij
      have hi' : i < d'.size := by simpa using hi
      have hj' : j < d'.size := by simpa using hj
      have := hsort i j (Nat.zero_le _) hij (by omega)
      rw [seq_lt, getElem!_pos d' i hi', getElem!_pos d' j hj'] at this
      simp only [decide_eq_false_iff_not] at this
      simp only [Array.getElem_toList]
      omega
    have hda : d' = L.toArray := by rw [← hd]
    subst hda
    have hLl : L.length = l.length := by simpa using hsz
    have hb : (sortWorldK lvC 7 w g 0 m L.toArray os).heap[g]? = some (.cells (putCells id 0 (flatK lvC 7 L.toArray) cur) 36 (0, 0)) := by
      unfold sortWorldK putRowK
      rw [heap_grow_old _ _ (by simpa using (Array.getElem?_eq_some_iff.1 hcur).1)]
      simp [putRow, mapBlock, Sort.ahead, Array.getElem?_modify, hcur, onCells]
    refine ⟨rfl, ⟨by rw [rowV_len], .inr ⟨g, cap, _, by rw [hLl], Nat.zero_le _, hb, by omega, hcm, by simp [putCells, hcs], ?_⟩⟩, ?_⟩
    · rw [← flat_row]
      refine List.ext_getElem? fun j => ?_
      by_cases hj : j < L.length * 7
      · rw [List.getElem?_take_of_lt hj, Array.getElem?_toList, Array.getElem?_toList]
        have hjc : j < cur.size := by rw [hcs]; omega
        have hjf : j < (flatK lvC 7 L.toArray).size := by simpa using hj
        simp only [putCells, Array.getElem?_mapIdx, Array.getElem?_eq_getElem hjc, Option.map_some, Nat.zero_le, true_and, Nat.zero_add, if_pos hjf, Nat.sub_zero]
        rw [getElem!_pos _ j hjf, Array.getElem?_eq_getElem hjf]
        rfl
      · rw [List.getElem?_take_eq_none (by omega), List.getElem?_eq_none (by simp; omega)]
    · refine (Fr.refl _ _).grown (row := some g) ⟨rfl, rfl, rfl, by simp [sortWorldK, putRowK], fun k hk hne => ?_⟩ (fun k e => .inl (by simp at e; simp [e, Value.ownBlock]))
      unfold sortWorldK putRowK
      rw [heap_grow_old _ _ (by simpa using hk)]
      have : g ≠ k := fun e => hne (by rw [e])
      simp [putRow, mapBlock, Sort.ahead, Array.getElem?_modify, this]
end Go.Proofs.YtbegdgnhpklceaaGreat

/- store: List. -/
namespace Go.Proofs.YtbegdgnhpklceaaGreat
open Go.RowKit
set_option maxRecDepth 10000
set_option maxHeartbeats 1000000

theorem used_perm {s : Sm} (h : s.Ok) : ((usedL s.A).map (liveAt s.L)).Perm s.L := by
  have h1 : (usedL s.A).Perm (s.L.map (·.slot)) := (List.perm_ext_iff_of_nodup (nodup_usedL s.A) h.one).2 fun i => by rw [mem_usedL, h.used]; simp
  have h2 := h1.map (liveAt s.L)
  rw [List.map_map] at h2
  have h3 : s.L.map (liveAt s.L ∘ fun e => e.slot) = s.L := by
    conv => rhs; rw [← List.map_id s.L]
    exact List.map_congr_left fun e he => liveAt_mem h.one he
  rw [h3] at h2
  exact h2
section
variable {w w' : World} {ps : Nat} {s : Sm} {K : List Nat}
theorem st_list (h : StoreAt w ps s K) : Calls Tryz.prog 33 #[sptr ps] w fun e w' => ∃ v, e = .returned v ∧ RowV w' v s.L ∧ (∀ q, v.ownBlock = some q → w.heap.size ≤ q) ∧ Fr [] w w' := by
  have HV := Lib.hid (st_valid h)
  obtain ⟨pa, pt, mb, n, vl, la, lT, lb, c, hB, rfl, c0, c1, c2, c3, c4, c5, c6⟩ := h.open
  have HL := Lib.hid (arena_list hB.ar)
  have HB := Lib.hid hB
  have HLT := Lib.hid hB.lt
  clear h hB c0 c1 c2 c4 c6
  go_enter Tryz.func33, Tryz.ntmps33
  go_wp2_with fail
  refine HV.out.mono ?_
  rintro _ w ⟨rfl, rfl⟩
  go_wp2_with fail
  refine HL.out.mono ?_
  rintro _ w1 ⟨v, rfl, hown, hnew, hF1⟩
  have hrow : RowI w1 v (usedL s.A) := hown
  obtain ⟨av, cv, rfl⟩ := hrow.slice
  obtain ⟨U, hU⟩ : ∃ U, U = usedL s.A := ⟨_, rfl⟩
  have hUu : ∀ i ∈ U, liveAt s.L i ∈ s.L ∧ (liveAt s.L i).slot = i := fun i hi => by
    rw [hU, mem_usedL] at hi
    exact Sm.live_used HB.out.ok hi
  have hperm := used_perm HB.out.ok
  have hUl : U.length ≤ 16384 := by
    rw [hU, usedL_len HB.out.ok.ar]
    have h2 := HB.out.ok.ar.hb; have h3 := HB.out.ok.sl; have h4 := HB.out.ok.leE
    unfold Ar.used
    omega
  rw [← hU] at hown hrow hperm hnew ⊢
  clear hU hown HL HV
  have HU := Lib.hid (And.intro hUu (And.intro hperm hUl)); clear hUu hperm
  have HR := Lib.hid (And.intro hrow (And.intro hnew hF1)); clear hrow hnew hF1
  go_wp2_with fail
  go_loopw [3, 15] (fun x y wr => ∃ (k : Nat) (v' : Value), k ≤ U.length ∧ y = .int .i64 k ∧ x = v' ∧ Hid (RowV wr v' ((U.take k).map (liveAt s.L)) ∧ (∀ q, v'.ownBlock = some q → w1.heap.size ≤ q) ∧ Fr [] w1 wr)) (fun _ y _ => U.length - (intOf y).toNat)
  case atStart => exact ⟨0, _, Nat.zero_le _, rfl, rfl, Lib.hid ⟨RowV.nil _, fun q e => (by cases e), Fr.refl _ _⟩⟩
  case round =>
    obtain ⟨k, v', hk, rfl, rfl, HS⟩ := hrel
    rename World => wr
    by_cases hlt : k < U.length
    · have hki : (k : Int) < U.length := by omega
      obtain ⟨bI, cI, eI, hbI, hcI⟩ := (HR.out.1.fr0 HS.out.2.2).at hlt
      simp only [Value.slice.injEq, true_and] at eI
      obtain ⟨rfl, rfl⟩ := eI
      obtain ⟨x, hx⟩ : ∃ x, x = U[k] := ⟨_, rfl⟩
      obtain ⟨hm, hs⟩ := HU.out.1 x (by rw [hx]; exact List.getElem_mem hlt)
      have hxn : x < n := by have := HB.out.sn _ hm; omega
      have hxi : (x : Int) < n := by omega
      have hF : Fr [] w wr := HR.out.2.2.trans' HS.out.2.2
      obtain ⟨b, cap, ev, _, hb, hz, hat⟩ := (HB.out.lv.fr0 hF).at (i := x) (by simp; omega)
      simp only [List.length_map, List.length_range] at ev
      have k5 := hF.cell c5 (by simp)
      rw [ev] at k5
      simp only [List.getElem_map, List.getElem_range] at hat
      rw [← hx] at hcI
      obtain ⟨e, he⟩ : ∃ e, e = liveAt s.L x := ⟨_, rfl⟩
      rw [← he] at hat
      have HE := Lib.hid (And.intro he hx); clear he hx hm hs hz
      obtain ⟨e0, e1, e2, e3, e4, e5, e6⟩ := hat
      obtain ⟨ar, cr, er⟩ := HS.out.1.slice
      have hlk : ((U.take k).map (liveAt s.L)).length = k := by simp; omega
      rw [hlk] at er
      subst er
      have hrow : (wr.alloc (.cells (lvC e).toArray 36)).ownsRow 0 36 7 (.slice ar k cr) k (rowV ((U.take k).map (liveAt s.L))) := by
        have := HS.out.1.fr0 ((Fr.refl [] wr).alloc (.cells (lvC e).toArray 36))
        unfold RowV at this
        rw [hlk] at this
        exact this
      have HRW := Lib.hid hrow; clear hrow
      have HZ := Lib.hid (Blk.new wr (lvC e) 36)
      have H7 := Lib.hid (show ∀ u ∈ lvC e, u.oneCell' = true from fun u hu => by simp [lvC] at hu; rcases hu with rfl | rfl | rfl | rfl | rfl | rfl | rfl <;> rfl)
      have hUl2 := HU.out.2.2
      go_wp2_with (first | (at_builtin; refine wpList_appK rfl _ _ 60 rfl 36 lvZero 7 56 Tryz.underlying60 Tryz.info36 rfl (by decide) (.slice ar k cr) k _ rfl HRW.out wr.heap.size 36 (lvC e) rfl HZ.out rfl H7.out (by omega) (by decide) ?_; intro g' cap' w6 hown6 hgrow6 hg6; have hF6 : Fr (Value.slice ar k cr).ownBlock.toList (wr.alloc (.cells (lvC e).toArray 36)) w6 := (Fr.refl _ _).grown hgrow6 (fun q e => .inl (by simp [e]))) | fail)
      go_roundw
      case rel =>
        have hs6 := hF6.size
        have hown7 : RowV w6 (.slice (some ⟨g', 0, none⟩) (k + 1) cap') ((U.take (k + 1)).map (liveAt s.L)) := by
          rw [List.take_add_one, List.getElem?_eq_getElem hlt, Option.toList_some, List.map_append, List.map_cons, List.map_nil, ← HE.out.2, ← HE.out.1]
          unfold RowV
          rw [rowV_snoc, List.length_append, hlk]
          exact hown6
        refine ⟨k + 1, _, by omega, by go_num, rfl, Lib.hid ⟨hown7, ?_, ?_⟩⟩
        · intro q hq
          simp only [Value.ownBlock, Option.some.injEq] at hq
          subst hq
          rcases hg6 with h6 | h6
          · exact HS.out.2.1 _ h6
          · have := HS.out.2.2.size
            simp only [World.size_alloc] at h6; omega
        · exact (HS.out.2.2.alloc _).trans hF6 (fun q hq => .inr (HS.out.2.1 q (by simpa using hq)))
      case measure => simp [intOf]; omega
    · obtain rfl : k = U.length := by omega
      have hrow := HS.out.1
      rw [List.take_length] at hrow
      have HSO := Lib.hid (sort_live hrow (by rw [List.length_map]; exact HU.out.2.2) HU.out.2.1 HB.out.ok.seq)
      clear hrow
      go_wp2_with fail
      refine HSO.out.mono ?_
      rintro _ w9 ⟨rfl, hr9, hF9⟩
      have HR9 := Lib.hid (And.intro hr9 hF9); clear hr9 hF9
      go_wp2
      go_ret
      have hs1 := HR.out.2.2.size
      refine ⟨_, rfl, HR9.out.1, fun q hq => Nat.le_trans hs1 (HS.out.2.1 q hq), ?_⟩
      exact (HR.out.2.2.trans' HS.out.2.2).trans HR9.out.2 (fun q hq => .inr (Nat.le_trans hs1 (HS.out.2.1 q (by simpa using hq))))
end
end Go.Proofs.YtbegdgnhpklceaaGreat

/- store laws: moves; where an edge lies in a list; bounds. -/
namespace Go.Proofs.YtbegdgnhpklceaaGreat
open Go.RowKit
set_option maxRecDepth 10000
set_option maxHeartbeats 800000

theorem sg_list {W wr : World} {ps : Nat} {s : Sm} {Z : List Nat} (h : SG W wr ps s Z) : Calls Tryz.prog 33 #[sptr ps] wr fun e w' => ∃ v, e = .returned v ∧ RowV w' v s.L ∧ SG W w' ps s (v.ownBlock.toList ++ Z) ∧ Fr [] wr w' := by
  have h' := h
  obtain ⟨K, h1, _⟩ := h
  refine (st_list h1).mono ?_
  rintro _ w' ⟨v, rfl, k1, k2, k3⟩
  exact ⟨v, rfl, k1, h'.row k3 k2 (fun q hq => k1.lt hq), k3⟩

/-- A slice of len moves reads z. -/
def MovesF (w : World) (a : Option Addr) (len : Nat) (z : Nat → Bool × Nat × Nat × Nat) : Prop :=
  len ≤ 9223372036854775807 ∧ ∀ i, i < len → ∃ b off, a = some ⟨b, off, none⟩ ∧ b < w.heap.size ∧ w.cell? ⟨b, off + i * 4, none⟩ = some (.bool (z i).1) ∧ w.cell? ⟨b, off + i * 4 + 1, none⟩ = some (.int .u8 (z i).2.1) ∧
    w.cell? ⟨b, off + i * 4 + 2, none⟩ = some (.int .u8 (z i).2.2.1) ∧ w.cell? ⟨b, off + i * 4 + 3, none⟩ = some (.int .u8 (z i).2.2.2) ∧ (z i).2.1 < 256 ∧ (z i).2.2.1 < 256 ∧ (z i).2.2.2 < 256
theorem u8_of_wf {a : Int} (h : (Lit.int .u8 a).wf = true) : ∃ n : Nat, a = n ∧ n < 256 := by
  have h : (decide ((0 : Int) ≤ a) && decide (a ≤ 255)) = true := h
  simp only [Bool.and_eq_true, decide_eq_true_eq] at h
  exact ⟨a.toNat, by omega, by omega⟩
/-- Where the edge in a slot lies among the first i ones. -/
def atI (L : List Lv) (sl : Nat) : Nat → Int
  | 0 => -1
  | i + 1 => if (L[i]?.map (·.slot)) = some sl then i else atI L sl i
theorem atI_none {L : List Lv} {sl : Nat} (h : ∀ e ∈ L, e.slot ≠ sl) : ∀ i, atI L sl i = -1
  | 0 => rfl
  | i + 1 => by
    unfold atI
    rw [if_neg, atI_none h i]
    intro e
    obtain ⟨x, hx, hs⟩ := Option.map_eq_some_iff.1 e
    exact h x (List.mem_of_getElem? hx) hs
theorem atI_some {L : List Lv} (hn : (L.map (·.slot)).Nodup) {j : Nat} (hj : j < L.length) : ∀ i, j < i → atI L (L[j]).slot i = j
  | 0, h => absurd h (Nat.not_lt_zero _)
  | i + 1, h => by
    unfold atI
    by_cases e : i = j
    · subst e
      rw [List.getElem?_eq_getElem hj]; exact if_pos rfl
    · rw [if_neg, atI_some hn hj i (by omega)]
      intro h1
      obtain ⟨x, hx, hs⟩ := Option.map_eq_some_iff.1 h1
      obtain ⟨hi, rfl⟩ := List.getElem?_eq_some_iff.1 hx
      have : i = j := (List.getElem_inj (xs := L.map (fun (x : Lv) => x.slot)) (h₀ := by simpa using hi) (h₁ := by simpa using hj) hn).1 (by simpa using hs)
      exact e this
theorem filter_at {L : List Lv} (hn : (L.map (·.slot)).Nodup) {j : Nat} (hj : j < L.length) : (L.filter fun e => e.slot != (L[j]).slot) = L.take j ++ L.drop (j + 1) := by
  have hL : L = L.take j ++ L[j] :: L.drop (j + 1) := by rw [List.getElem_cons_drop, List.take_append_drop]
  have hn' := hn
  generalize hx : L[j] = x at *
  rw [hL] at hn'
  simp only [List.map_append, List.map_cons] at hn'
  rw [List.nodup_append, List.nodup_cons] at hn'
  obtain ⟨_, ⟨h2, _⟩, h3⟩ := hn'
  conv => lhs; rw [hL]
  rw [List.filter_append, List.filter_cons_of_neg (by simp)]
  congr 1
  · refine List.filter_eq_self.2 fun e he => ?_
    simp only [bne_iff_ne]
    exact h3 _ (List.mem_map.2 ⟨e, he, rfl⟩) _ (List.mem_cons_self ..)
  · refine List.filter_eq_self.2 fun e he => ?_
    simp only [bne_iff_ne]
    exact fun h => h2 (List.mem_map.2 ⟨e, he, h⟩)
/-- A store of the laws. -/
structure Bd (s : Sm) (k : Nat) : Prop where
  V : s.V = 10
  E : s.E = 20
  last : s.last ≤ k
  id : ∀ e ∈ s.L, e.u < 16 ∧ e.v < 16
section
variable {s : Sm} {k : Nat}
theorem Bd.mono (h : Bd s k) {m : Nat} (hm : k ≤ m) : Bd s m := ⟨h.V, h.E, Nat.le_trans h.last hm, h.id⟩
theorem Bd.new : Bd (Sm.new 10 20 0) 0 := ⟨rfl, rfl, Nat.le_refl _, by simp [Sm.new]⟩
theorem Bd.rem (h : Bd s k) (i : Nat) : Bd (s.rem i) k := ⟨h.V, h.E, h.last, fun e he => h.id e (List.mem_filter.1 he).1⟩
theorem Bd.ins (h : Bd s k) {u v : Nat} (hu : u < 16) (hv : v < 16) (wt t x : Int) : Bd (s.ins u v wt t x) (k + 1) := by
  refine ⟨h.V, h.E, Nat.succ_le_succ h.last, fun e he => ?_⟩
  rcases List.mem_append.1 he with he | he
  · exact h.id e he
  · rw [List.mem_singleton] at he; subst he; exact ⟨hu, hv⟩
theorem Bd.len (h : Bd s k) (hok : s.Ok) : s.L.length ≤ 20 := by
  have h1 := Sm.len_used hok
  have h2 := hok.ar.hb
  have h3 := hok.sl
  have h4 := h.E
  unfold Ar.used at h1
  omega
/-- The edge in a slot, where the slot is in use. -/
theorem has_at (h : s.Ok) {i : Nat} (hh : s.has i = true) : ∃ j, ∃ hj : j < s.L.length, atI s.L i s.L.length = j ∧ s.L[j] = s.got i ∧ (s.rem i).L = s.L.take j ++ s.L.drop (j + 1) := by
  obtain ⟨h0, hu⟩ := (Sm.has_iff h i).1 hh
  simp only [Int.toNat_natCast] at hu
  obtain ⟨hm, hs⟩ := Sm.live_used h hu
  obtain ⟨j, hj, he⟩ := List.getElem_of_mem hm
  have hg : s.got i = liveAt s.L i := if_pos h0
  refine ⟨j, hj, ?_, by rw [hg, he], ?_⟩
  · have := atI_some h.one hj s.L.length hj
    rwa [he, hs] at this
  · have := filter_at h.one hj
    rw [he, hs] at this
    exact this
theorem has_not {i : Nat} (hh : s.has i = false) : atI s.L i s.L.length = -1 := by
  refine atI_none (fun e he hs => ?_) _
  unfold Sm.has at hh
  rw [decide_eq_true (by omega : (0 : Int) ≤ i), Bool.true_and] at hh
  have := List.any_eq_false.1 hh e he
  simp [hs] at this
end
end Go.Proofs.YtbegdgnhpklceaaGreat

/- StoreNil: stores that are nil or zero; the walk. -/
namespace Go.Proofs.YtbegdgnhpklceaaGreat
open Go.RowKit
set_option maxRecDepth 10000
set_option maxHeartbeats 1600000

theorem flat_rec : Flat Tryz.prog 34 [.i .u64, .i .u64, .i .i64, .i .i64] := by
  refine Flat.struct Tryz.underlying34 (by kernel_rfl) (fun j k hj => ?_)
  have hu : Flat Tryz.prog 22 [.i .u64] := Flat.int Tryz.underlying22 (by kernel_rfl)
  have hi : Flat Tryz.prog 2 [.i .i64] := Flat.int Tryz.underlying2 (by kernel_rfl)
  match j, hj with
  | 0, hj => exact ⟨0, _, _, rfl, hu, by decide, hj⟩
  | 1, hj => exact ⟨1, _, _, rfl, hu, by decide, hj⟩
  | 2, hj => exact ⟨2, _, _, rfl, hi, by decide, hj⟩
  | 3, hj => exact ⟨3, _, _, rfl, hi, by decide, hj⟩
  | j + 4, hj => simp at hj
theorem open_rec {H : Type} {enc : TypeId × Value → H} {W : World} {base : Nat} {v : Value} {d : DataW H} {p : List MemPlace} (hok : Value.okWide Tryz.prog W .any base 34 v)
    (h : DataW.Trod enc Tryz.prog W 0 (fun _ => true) true 34 v d p) : ∃ z : Nat × Nat × Int × Int, v = recA z.1 z.2.1 z.2.2.1 z.2.2.2 ∧ z.1 < U64 ∧ z.2.1 < U64 := by
  obtain ⟨cs, rfl, hsz⟩ := Go.WideShapes.okWide_struct Tryz.underlying34 hok
  have h4 : cs.size = 4 := hsz.trans (by kernel_rfl)
  obtain ⟨fuel, hf⟩ := h
  obtain ⟨v0, e0, n0, rfl, k0⟩ := flat_rec.2 hf 0 _ rfl
  obtain ⟨v1, e1, n1, rfl, k1⟩ := flat_rec.2 hf 1 _ rfl
  obtain ⟨v2, e2, n2, rfl, _⟩ := flat_rec.2 hf 2 _ rfl
  obtain ⟨v3, e3, n3, rfl, _⟩ := flat_rec.2 hf 3 _ rfl
  obtain ⟨u, rfl, hu⟩ := u64_of_wf k0
  obtain ⟨v, rfl, hv⟩ := u64_of_wf k1
  refine ⟨(u, v, n2, n3), ?_, hu, hv⟩
  simp only [Value.cells] at e0 e1 e2 e3
  congr 1
  refine Array.ext_getElem? fun i => ?_
  match i with
  | 0 => simpa using e0
  | 1 => simpa using e1
  | 2 => simpa using e2
  | 3 => simpa using e3
  | i + 4 => rw [Array.getElem?_eq_none (by omega), Array.getElem?_eq_none (by simp)]

/-- A store that is nil, or was not made by New. -/
def Bad (w : World) (v : Value) : Prop := v = .pointer none ∨ ∃ pz, v = .pointer (some ⟨pz, 0, none⟩) ∧ w.cell? ⟨pz, 6, none⟩ = some (.map none)
theorem Bad.fr0 {w w' : World} {v : Value} (h : Bad w v) (hf : Fr [] w w') : Bad w' v := by
  rcases h with h | ⟨pz, h, c⟩
  · exact .inl h
  · exact .inr ⟨pz, h, hf.cell c (by simp)⟩
section
variable {w : World} {v : Value}
theorem valid_bad (h : Bad w v) : Calls Tryz.prog 46 #[v] w fun e w' => e = .returned (.bool false) ∧ w' = w := by
  rcases h with rfl | ⟨pz, rfl, c6⟩
  · go_enter Tryz.func46, Tryz.ntmps46
    go_wp2
    go_ret
    exact ⟨rfl, rfl⟩
  · go_enter Tryz.func46, Tryz.ntmps46
    go_wp2
    go_ret
    exact ⟨rfl, rfl⟩
theorem len_bad (h : Bad w v) : Calls Tryz.prog 28 #[v] w fun e w' => e = .returned (.int .i64 0) ∧ w' = w := by
  have HV := Lib.hid (valid_bad h); clear h
  go_enter Tryz.func28, Tryz.ntmps28
  go_wp2_with fail
  refine HV.out.mono ?_
  rintro _ w ⟨rfl, rfl⟩
  go_wp2
  go_ret
  exact ⟨rfl, rfl⟩
theorem verts_bad (h : Bad w v) : Calls Tryz.prog 30 #[v] w fun e w' => e = .returned (.int .i64 0) ∧ w' = w := by
  have HV := Lib.hid (valid_bad h); clear h
  go_enter Tryz.func30, Tryz.ntmps30
  go_wp2_with fail
  refine HV.out.mono ?_
  rintro _ w ⟨rfl, rfl⟩
  go_wp2
  go_ret
  exact ⟨rfl, rfl⟩
theorem incident_bad (h : Bad w v) (id : Int) : Calls Tryz.prog 26 #[v, .int .u64 id] w fun e w' => e = .returned nilS ∧ w' = w := by
  have HV := Lib.hid (valid_bad h); clear h
  go_enter Tryz.func26, Tryz.ntmps26
  go_wp2_with fail
  refine HV.out.mono ?_
  rintro _ w ⟨rfl, rfl⟩
  go_wp2
  go_ret
  exact ⟨rfl, rfl⟩
theorem list_bad (h : Bad w v) : Calls Tryz.prog 33 #[v] w fun e w' => e = .returned nilS ∧ w' = w := by
  have HV := Lib.hid (valid_bad h); clear h
  go_enter Tryz.func33, Tryz.ntmps33
  go_wp2_with fail
  refine HV.out.mono ?_
  rintro _ w ⟨rfl, rfl⟩
  go_wp2
  go_ret
  exact ⟨rfl, rfl⟩
theorem ids_bad (h : Bad w v) : Calls Tryz.prog 36 #[v] w fun e w' => e = .returned nilS ∧ w' = w := by
  have HV := Lib.hid (valid_bad h); clear h
  go_enter Tryz.func36, Tryz.ntmps36
  go_wp2_with fail
  refine HV.out.mono ?_
  rintro _ w ⟨rfl, rfl⟩
  go_wp2
  go_ret
  exact ⟨rfl, rfl⟩
theorem copy_bad (h : Bad w v) : Calls Tryz.prog 17 #[v] w fun e w' => e = .returned (.pointer none) ∧ w' = w := by
  have HV := Lib.hid (valid_bad h); clear h
  go_enter Tryz.func17, Tryz.ntmps17
  go_wp2_with fail
  refine HV.out.mono ?_
  rintro _ w ⟨rfl, rfl⟩
  go_wp2
  go_ret
  exact ⟨rfl, rfl⟩
theorem index_bad (h : Bad w v) (id : Int) : Calls Tryz.prog 21 #[v, .int .u64 id] w fun e w' => e = .returned (.tuple #[.int .i64 0, .bool false]) ∧ w' = w := by
  have HV := Lib.hid (valid_bad h); clear h
  go_enter Tryz.func21, Tryz.ntmps21
  go_wp2_with fail
  refine HV.out.mono ?_
  rintro _ w ⟨rfl, rfl⟩
  go_wp2
  go_ret2
  exact ⟨rfl, rfl⟩
theorem id_bad (h : Bad w v) (i : Int) : Calls Tryz.prog 23 #[v, .int .i64 i] w fun e w' => e = .returned (.tuple #[.int .u64 0, .bool false]) ∧ w' = w := by
  have HV := Lib.hid (valid_bad h); clear h
  go_enter Tryz.func23, Tryz.ntmps23
  go_wp2_with fail
  refine HV.out.mono ?_
  rintro _ w ⟨rfl, rfl⟩
  go_wp2
  go_ret2
  exact ⟨rfl, rfl⟩
theorem check_bad (h : Bad w v) (a b : Nat) (wt t : Int) : Calls Tryz.prog 15 #[v, recA a b wt t] w fun e w' => e = .returned (.int .i64 1) ∧ Fr [] w w' := by
  have hf : Fr [] w (w.alloc (.cells #[.int .u64 a, .int .u64 b, .int .i64 wt, .int .i64 t] 34)) := (Fr.refl [] w).alloc _
  have HV := Lib.hid (valid_bad (h.fr0 hf))
  have HF := Lib.hid hf
  clear h hf
  go_enter Tryz.func15, Tryz.ntmps15
  go_wp2_with fail
  refine HV.out.mono ?_
  rintro _ w1 ⟨rfl, rfl⟩
  go_wp2
  go_ret
  exact ⟨rfl, HF.out⟩
theorem get_bad (h : Bad w v) (i : Int) : Calls Tryz.prog 19 #[v, .int .i64 i] w fun e w' => e = .returned (.tuple #[lvA Lv.z, .bool false]) ∧ Fr [] w w' := by
  have hf0 : Fr [] w (w.alloc (.cells #[.int .i64 0, .int .u64 0, .int .u64 0, .int .u64 0, .int .i64 0, .int .i64 0, .int .i64 0] 36)) := (Fr.refl [] w).alloc _
  have hbx : Blk (w.alloc (.cells #[.int .i64 0, .int .u64 0, .int .u64 0, .int .u64 0, .int .i64 0, .int .i64 0, .int .i64 0] 36)) w.heap.size 36 [.int .i64 0, .int .u64 0, .int .u64 0, .int .u64 0, .int .i64 0, .int .i64 0, .int .i64 0] := by
    have := Blk.new w [.int .i64 0, .int .u64 0, .int .u64 0, .int .u64 0, .int .i64 0, .int .i64 0, .int .i64 0] 36
    simpa using this
  have HV := Lib.hid (valid_bad (h.fr0 hf0))
  clear h
  go_enter Tryz.func19, Tryz.ntmps19
  go_wp2_with fail
  have HF := Lib.hid hf0; clear hf0
  generalize w.alloc (.cells #[.int .i64 0, .int .u64 0, .int .u64 0, .int .u64 0, .int .i64 0, .int .i64 0, .int .i64 0] 36) = w1 at *
  refine HV.out.mono ?_
  rintro _ w1 ⟨rfl, rfl⟩
  have z := hbx.frozen
  have t0 := hbx.cell 0; have t1 := hbx.cell 1; have t2 := hbx.cell 2; have t3 := hbx.cell 3; have t4 := hbx.cell 4; have t5 := hbx.cell 5; have t6 := hbx.cell 6
  simp only [List.getElem?_cons_zero, List.getElem?_cons_succ] at t0 t1 t2 t3 t4 t5 t6
  have HX := Lib.hid (hbx.put7 Lv.z); clear hbx
  go_wp2_with fail
  have r := HX.out.lvAt
  unfold LvAt Go.Proofs.YtbegdgnhpklceaaGreat.put7 at r
  simp only [Lv.z, Nat.zero_add, Int.ofNat_zero] at r
  obtain ⟨r0, r1, r2, r3, r4, r5, r6⟩ := r
  exact bodyPost_ret (v := .tuple #[lvA Lv.z, .bool false]) (by simp [results, Tryz.results19, go_sem, r0, r1, r2, r3, r4, r5, r6, Lv.z]) rfl ⟨rfl, HF.out.put7 _ _ Lv.z (.inr (Nat.le_refl _))⟩
theorem rem_bad (h : Bad w v) (i : Int) : Calls Tryz.prog 13 #[v, .int .i64 i] w fun e w' => e = .returned (.tuple #[lvA Lv.z, .int .i64 1]) ∧ Fr [] w w' := by
  have hf0 : Fr [] w (w.alloc (.cells #[.int .i64 0, .int .u64 0, .int .u64 0, .int .u64 0, .int .i64 0, .int .i64 0, .int .i64 0] 36)) := (Fr.refl [] w).alloc _
  have hbx : Blk (w.alloc (.cells #[.int .i64 0, .int .u64 0, .int .u64 0, .int .u64 0, .int .i64 0, .int .i64 0, .int .i64 0] 36)) w.heap.size 36 [.int .i64 0, .int .u64 0, .int .u64 0, .int .u64 0, .int .i64 0, .int .i64 0, .int .i64 0] := by
    have := Blk.new w [.int .i64 0, .int .u64 0, .int .u64 0, .int .u64 0, .int .i64 0, .int .i64 0, .int .i64 0] 36
    simpa using this
  have HV := Lib.hid (valid_bad (h.fr0 hf0))
  clear h
  go_enter Tryz.func13, Tryz.ntmps13
  go_wp2_with fail
  have HF := Lib.hid hf0; clear hf0
  generalize w.alloc (.cells #[.int .i64 0, .int .u64 0, .int .u64 0, .int .u64 0, .int .i64 0, .int .i64 0, .int .i64 0] 36) = w1 at *
  refine HV.out.mono ?_
  rintro _ w1 ⟨rfl, rfl⟩
  have z := hbx.frozen
  have t0 := hbx.cell 0; have t1 := hbx.cell 1; have t2 := hbx.cell 2; have t3 := hbx.cell 3; have t4 := hbx.cell 4; have t5 := hbx.cell 5; have t6 := hbx.cell 6
  simp only [List.getElem?_cons_zero, List.getElem?_cons_succ] at t0 t1 t2 t3 t4 t5 t6
  have HX := Lib.hid (hbx.put7 Lv.z); clear hbx
  go_wp2_with fail
  have r := HX.out.lvAt
  unfold LvAt Go.Proofs.YtbegdgnhpklceaaGreat.put7 at r
  simp only [Lv.z, Nat.zero_add, Int.ofNat_zero] at r
  obtain ⟨r0, r1, r2, r3, r4, r5, r6⟩ := r
  exact bodyPost_ret (v := .tuple #[lvA Lv.z, .int .i64 1]) (by simp [results, Tryz.results13, go_sem, r0, r1, r2, r3, r4, r5, r6, Lv.z]) rfl ⟨rfl, HF.out.put7 _ _ Lv.z (.inr (Nat.le_refl _))⟩
theorem ins_bad (h : Bad w v) (a b : Nat) (wt t x : Int) : Calls Tryz.prog 10 #[v, recA a b wt t, .int .i64 x] w fun e w' => e = .returned (.tuple #[lvA Lv.z, .int .i64 1]) ∧ Fr [] w w' := by
  have hf0 : Fr [] w ((w.alloc (.cells #[.int .u64 a, .int .u64 b, .int .i64 wt, .int .i64 t] 34)).alloc (.cells #[.int .i64 0, .int .u64 0, .int .u64 0, .int .u64 0, .int .i64 0, .int .i64 0, .int .i64 0] 36)) := ((Fr.refl [] w).alloc _).alloc _
  have hbx : Blk ((w.alloc (.cells #[.int .u64 a, .int .u64 b, .int .i64 wt, .int .i64 t] 34)).alloc (.cells #[.int .i64 0, .int .u64 0, .int .u64 0, .int .u64 0, .int .i64 0, .int .i64 0, .int .i64 0] 36)) (w.heap.size + 1) 36 [.int .i64 0, .int .u64 0, .int .u64 0, .int .u64 0, .int .i64 0, .int .i64 0, .int .i64 0] := by
    have := Blk.new (w.alloc (.cells #[.int .u64 a, .int .u64 b, .int .i64 wt, .int .i64 t] 34)) [.int .i64 0, .int .u64 0, .int .u64 0, .int .u64 0, .int .i64 0, .int .i64 0, .int .i64 0] 36
    simpa using this
  have HC := Lib.hid (check_bad (h.fr0 hf0) a b wt t)
  clear h
  go_enter Tryz.func10, Tryz.ntmps10
  go_wp2_with fail
  generalize (w.alloc (.cells #[.int .u64 a, .int .u64 b, .int .i64 wt, .int .i64 t] 34)).alloc (.cells #[.int .i64 0, .int .u64 0, .int .u64 0, .int .u64 0, .int .i64 0, .int .i64 0, .int .i64 0] 36) = w1 at *
  refine HC.out.mono ?_
  rintro _ w2 ⟨rfl, h2⟩
  have hb2 := h2.blk hbx (by simp)
  have HF := Lib.hid (hf0.trans' h2)
  have z := hb2.frozen
  have t0 := hb2.cell 0; have t1 := hb2.cell 1; have t2 := hb2.cell 2; have t3 := hb2.cell 3; have t4 := hb2.cell 4; have t5 := hb2.cell 5; have t6 := hb2.cell 6
  simp only [List.getElem?_cons_zero, List.getElem?_cons_succ] at t0 t1 t2 t3 t4 t5 t6
  have HX := Lib.hid (hb2.put7 Lv.z); clear hbx hb2 h2 hf0 HC
  go_wp2_with fail
  have r := HX.out.lvAt
  unfold LvAt Go.Proofs.YtbegdgnhpklceaaGreat.put7 at r
  simp only [Lv.z, Nat.zero_add, Int.ofNat_zero] at r
  obtain ⟨r0, r1, r2, r3, r4, r5, r6⟩ := r
  exact bodyPost_ret (v := .tuple #[lvA Lv.z, .int .i64 1]) (by simp [results, Tryz.results10, go_sem, r0, r1, r2, r3, r4, r5, r6, Lv.z]) rfl ⟨rfl, HF.out.put7 _ _ Lv.z (.inr (Nat.le_succ _))⟩
end
end Go.Proofs.YtbegdgnhpklceaaGreat

namespace Go.Proofs.YtbegdgnhpklceaaGreat
open Go.RowKit Go.Maps

/-- The range over the map in block b, with the iterator in block r: these keys were met. -/
def IRange (P : Program) (k : TypeId) (q : IntKind) (ok : Value → Bool) (w : World) (b r : Nat) (m : Int → Option Value) (n : Nat) (done : List Int) (cnt : Nat) : Prop :=
  ∃ (D : DataW Value) (left : Lit → Bool), w.ranges P k (tokR ok) b r n D left cnt ∧ Tidy D ∧ Maps.size D = n ∧
    (∀ a : Int, (Lit.int q a).wf = true → (Maps.has D (.int q a) = (m a).isSome ∧ ∀ v, m a = some v → ok v = true ∧ ∀ z, D.atKey (.int q a) z = .held v)) ∧
    done.Nodup ∧ (∀ x ∈ done, (Lit.int q x).wf = true ∧ (m x).isSome = true) ∧ (∀ x, (Lit.int q x).wf = true → (left (.int q x) = true ↔ (m x).isSome = true ∧ x ∉ done))

section
variable {P : Program} {k t e : TypeId} {q : IntKind} {ok : Value → Bool} {w w' : World} {b r n cnt : Nat} {m : Int → Option Value} {done : List Int}
theorem IRange.fr {S : List Nat} (h : IRange P k q ok w b r m n done cnt) (hf : Fr S w w') (hb : b ∉ S) (hr : r ∉ S) : IRange P k q ok w' b r m n done cnt := by
  obtain ⟨D, left, h1, h2⟩ := h
  refine ⟨D, left, ?_, h2⟩
  have l1 := h1.owns.lt
  have l2 := h1.lt
  obtain ⟨es, clock, since, seen, c0, hb', F, hs, hD, hr', rest⟩ := h1
  exact ⟨es, clock, since, seen, c0, (hf.keep b l1 hb).trans hb', F, hs, hD, (hf.keep r l2 hr).trans hr', rest⟩
theorem IRange.left_eq (h : IRange P k q ok w b r m n done cnt) : w.rangeLeft b r = cnt := by
  obtain ⟨D, left, h1, _⟩ := h; exact h1.left_eq
theorem IRange.lt (h : IRange P k q ok w b r m n done cnt) : r < w.heap.size ∧ b < w.heap.size := by
  obtain ⟨D, left, h1, _⟩ := h; exact ⟨h1.lt, h1.owns.lt⟩
theorem IRange.map (h : IRange P k q ok w b r m n done cnt) : IMap P k q ok w b m n := by
  obtain ⟨D, left, h1, h2, h3, h4, _⟩ := h
  exact ⟨D, h1.owns, h2, h3, h4⟩

variable {ops : Array Oper} {rest : List Oper} {o : Oper} {a : Act} {Q : Exit → Act → World → Prop}
/-- 'range m'. -/
theorem wpList_irange (hg : o.guard = none) (mo : Operand) (hop : o.op = Op.range t mo) (h : IMap P k q ok w b m n) (hk : P.underlying k = some (.int q)) (ht : P.underlying t = some (.map k e))
    (hm : a.eval mo = .map (some b)) (hK : ∀ w' cnt, IRange P k q ok w' b w.heap.size m n [] cnt → cnt ≤ n → Fr [] w w' → w'.heap.size = w.heap.size + 1 → wpList P ops Q rest (a.put o.dst (.pointer (some ⟨w.heap.size, 0, none⟩))) w') :
    wpList P ops Q (o :: rest) a w := by
  obtain ⟨D, h1, h2, h3, h4⟩ := h
  refine wpList_range_own w hg mo t hop k e (int_keyed hk) ht (tokR ok) b n D hm h1 fun w' hr hgw hs => ?_
  refine hK w' _ ⟨D, Maps.has D, hr, h2, h3, h4, .nil, (fun x hx => by cases hx), fun x hx => ?_⟩ (by rw [h3]; exact Nat.le_refl _) ((Fr.refl _ _).grown hgw (fun k e => by cases e)) hs
  rw [(h4 x hx).1]; simp
/-- The step. -/
theorem wpList_inext (hg : o.guard = none) (it : Operand) (hop : o.op = Op.next it false) (hk : P.underlying k = some (.int q)) (hit : a.eval it = .pointer (some ⟨r, 0, none⟩)) (h : IRange P k q ok w b r m n done cnt)
    (hDone : (∀ x, (Lit.int q x).wf = true → (m x).isSome = true → x ∈ done) → wpList P ops Q rest (a.put o.dst (.tuple #[.bool false])) w)
    (hMore : ∀ (x : Int) (c : Value) (w' : World) (cnt' : Nat), (Lit.int q x).wf = true → m x = some c → x ∉ done → IRange P k q ok w' b r m n (done ++ [x]) cnt' → cnt' < cnt → Fr [r] w w' → w'.heap.size = w.heap.size →
      (Instr.entry (.pointer (some ⟨r, 0, none⟩))).run P w' = .ok (.tuple #[.int q x, c]) w' → wpList P ops Q rest (a.put o.dst (.tuple #[.bool true, .int q x, c])) w') :
    wpList P ops Q (o :: rest) a w := by
  obtain ⟨D, left, h1, h2, h3, h4, h5, h6, h7⟩ := h
  refine wpList_next_ranges w hg it hop k (int_keyed hk) (tokR ok) (Value.int q) (fun (c : Value) => c) (fun key kl hkey => by obtain ⟨x, rfl, _⟩ := Maps.keyOf_int_inv hk hkey; exact ⟨x, rfl⟩) (fun v y _ => ⟨v, rfl⟩) b r n D left cnt hit h1
    (fun _ hl => hDone fun x hx hs => Classical.byContradiction fun hn => by have := (h7 x hx).2 ⟨hs, hn⟩; rw [hl] at this; cases this) ?_
  intro x c kl y w' cnt' hkey hlk hv hat hrg hlt hgr hsz hen
  obtain ⟨x', ex, rfl, hw⟩ := Maps.keyOf_int_inv hk hkey
  cases ex
  obtain ⟨hsome, hnd⟩ := (h7 x hw).1 hlk
  obtain ⟨u, hu⟩ := Option.isSome_iff_exists.1 hsome
  have hcu : c = u := by
    have e1 := hat (.held undef)
    rw [((h4 x hw).2 u hu).2] at e1
    unfold tokR at hv
    split at hv
    · cases hv; simpa using e1.symm
    · cases hv
  subst hcu
  refine hMore x c w' cnt' hw hu hnd ⟨D, _, hrg, h2, h3, h4, ?_, fun z hz => ?_, fun z hz => ?_⟩ hlt ((Fr.refl _ _).grown hgr (fun k e => .inl (by simp at e; simp [e]))) hsz hen
  · exact List.nodup_append.2 ⟨h5, by simp, by rintro a ha b hb rfl; simp at hb; subst hb; exact hnd ha⟩
  · rcases List.mem_append.1 hz with hz | hz
    · exact h6 z hz
    · simp at hz; subst hz; exact ⟨hw, hsome⟩
  · have e : (Lit.int q z).sameKey (.int q x) = decide (z = x) := by simp [Lit.sameKey]
    show (left (.int q z) && !(Lit.int q z).sameKey (.int q x)) = true ↔ _
    rw [e, Bool.and_eq_true, h7 z hz]
    simp only [List.mem_append, List.mem_singleton, not_or, Bool.not_eq_true', decide_eq_false_iff_not, and_assoc]
end
end Go.Proofs.YtbegdgnhpklceaaGreat
