/- WindowLasts: what Until says, and who is connected later. -/
import Derived.Test.YtgmnemndjjmgkaaGreatB23
import Derived.Test.YtgmnemndjjmgkaaGreatB22
import Derived.Test.YtgmnemndjjmgkaaGreatB20
import Derived.Test.YtgmnemndjjmgkaaGreatB25
import Derived.Test.YtgmnemndjjmgkaaGreatB1
import Derived.Test.YtgmnemndjjmgkaaGreatB16
import Derived.Test.YtgmnemndjjmgkaaGreatB8
set_option linter.unusedSimpArgs false
set_option linter.unusedVariables false
/- A new window. -/
namespace Go.Proofs.YtgmnemndjjmgkaaGreat
open Go.RowKit
set_option maxRecDepth 10000
set_option maxHeartbeats 1000000
theorem Tryz.infoe27 : ∃ i, Tryz.prog.info? 27 = some i := Option.isSome_iff_exists.1 (by kernel_rfl)
@[go_sem] theorem eqIn_errs (w : World) : (Op.equalIn 10000 169 (.agg #[.int .i64 0, .int .i64 0, .int .i64 0, .int .i64 0]) (.agg #[.int .i64 0, .int .i64 0, .int .i64 0, .int .i64 0])).run Tryz.prog w = .ok true w := by
 obtain ⟨i, hi⟩ := Tryz.infoe27
 have u3 := Tryz.underlying27
 have a3 := Tryz.isAgg27
 have z3 := Tryz.sizeOf27
 have hc : Tryz.prog.cellsOf 27 = 1 := by kernel_rfl
 rw [show (10000 : Nat) = 9999 + 1 from rfl, run_equalIn_array w 9999 _ _ Tryz.underlying169 hi, hc]
 have r2 : List.range 4 = [0, 1, 2, 3] := rfl
 rw [r2]
 simp only [Op.eqItems]
 go_simp
@[go_sem] theorem guard_errs (x y : Operand) (xs ys : Array Value) (w : World) : (eqGuard .neq 169 x y (.agg xs) (.agg ys)).run Tryz.prog w = .ok () w := run_eqGuard_agg w .neq 169 x y xs ys (by kernel_rfl)
theorem cfg_w (m D : Int) (E V : Nat) (w : World) (h1 : 1 ≤ m) (h2 : 1 ≤ E) (h3 : E ≤ 16384) (h4 : 2 ≤ V) (h5 : V ≤ 4096) (h6 : 0 ≤ D) (h7 : D ≤ 16384) :
    Calls Tryz.prog 119 #[.agg #[.int .i64 m, .int .i64 E, .int .i64 V, .int .i64 D]] w fun e w' => e = .returned (.bool true) ∧ Fr [] w w' := by
 have d1 : decide (m ≥ 1) = true := decide_eq_true h1
 have d2 : decide ((E : Int) ≥ 1) = true := decide_eq_true (by omega)
 have d3 : decide ((E : Int) ≤ 16384) = true := decide_eq_true (by omega)
 have d4 : decide ((V : Int) ≥ 2) = true := decide_eq_true (by omega)
 have d5 : decide ((V : Int) ≤ 4096) = true := decide_eq_true (by omega)
 have d6 : decide (D ≥ 0) = true := decide_eq_true h6
 have d7 : decide (D ≤ 16384) = true := decide_eq_true h7
 go_enter Tryz.func119, Tryz.ntmps119
 go_wp2
 go_ret
 exact ⟨rfl, (Fr.refl _ _).alloc _⟩
structure NS (w0 w : World) (b be bc : Nat) (l : List Value) (m D : Int) (E V : Nat) : Prop where
  hd : Blk w b 83 l
  er : Blk w be 169 [.int .i64 0, .int .i64 0, .int .i64 0, .int .i64 0]
  co : Blk w bc 55 [.int .i64 m, .int .i64 E, .int .i64 V, .int .i64 D]
  fr : Fr [] w0 w
  lb : w0.heap.size ≤ bc
  le : bc < be
  lw : be < b
theorem NS.go {w0 w w' : World} {b be bc : Nat} {l : List Value} {m D : Int} {E V : Nat} (h : NS w0 w b be bc l m D E V) (hf : Fr [] w w') : NS w0 w' b be bc l m D E V :=
  ⟨hf.blk h.hd (by simp), hf.blk h.er (by simp), hf.blk h.co (by simp), h.fr.trans' hf, h.lb, h.le, h.lw⟩
theorem NS.put {w0 w : World} {b be bc : Nat} {l : List Value} {m D : Int} {E V : Nat} (h : NS w0 w b be bc l m D E V) (i j : Nat) (v : Value) (hj : j < 4) :
    NS w0 ((w.setCell ⟨b, i, none⟩ v).setCell ⟨be, j, none⟩ (.int .i64 0)) b be bc (l.set i v) m D E V ∧ Fr [b, be] w ((w.setCell ⟨b, i, none⟩ v).setCell ⟨be, j, none⟩ (.int .i64 0)) := by
 have h1 := h.lb; have h2 := h.le; have h3 := h.lw
 have f1 : Fr [b] w (w.setCell ⟨b, i, none⟩ v) := (Fr.refl _ _).setCell _ _ (.inl (by simp))
 have f2 : Fr [be] (w.setCell ⟨b, i, none⟩ v) ((w.setCell ⟨b, i, none⟩ v).setCell ⟨be, j, none⟩ (.int .i64 0)) := (Fr.refl _ _).setCell _ _ (.inl (by simp))
 have he := (f1.blk h.er (by simp; omega)).set j (.int .i64 0)
 refine ⟨⟨f2.blk (h.hd.set i v) (by simp; omega), ?_, f2.blk (f1.blk h.co (by simp; omega)) (by simp; omega), (h.fr.setCell _ _ (.inr (by simp; omega))).setCell _ _ (.inr (by simp; omega)), h1, h2, h3⟩, ((Fr.refl _ _).setCell _ _ (.inl (by simp))).setCell _ _ (.inl (by simp))⟩
 match j, hj with
 | 0, _ => exact he
 | 1, _ => exact he
 | 2, _ => exact he
 | 3, _ => exact he
theorem NS.mid {w0 w : World} {b be bc : Nat} {l : List Value} {m D : Int} {E V : Nat} (h : NS w0 w b be bc l m D E V) (i : Nat) (v : Value) : NS w0 (w.setCell ⟨b, i, none⟩ v) b be bc (l.set i v) m D E V := by
 have h1 := h.lb; have h2 := h.le; have h3 := h.lw
 have f1 : Fr [b] w (w.setCell ⟨b, i, none⟩ v) := (Fr.refl _ _).setCell _ _ (.inl (by simp))
 exact ⟨h.hd.set i v, f1.blk h.er (by simp; omega), f1.blk h.co (by simp; omega), h.fr.setCell _ _ (.inr (by simp; omega)), h1, h2, h3⟩
theorem wfrom_w (m D : Int) (E V g : Nat) (w : World) (h1 : 1 ≤ m) (h1' : m ≤ 9223372036854775807) (h2 : 1 ≤ E) (h3 : E ≤ 16384) (h4 : 2 ≤ V) (h5 : V ≤ 4096) (h6 : 0 ≤ D) (h7 : D ≤ 16384) (hg : g ≤ 9223372036854775807) :
    Calls Tryz.prog 68 #[.agg #[.int .i64 m, .int .i64 E, .int .i64 V, .int .i64 D], .int .u64 g] w fun e w' => ∃ pw, e = .returned (.tuple #[wptr pw, .int .i64 0]) ∧ ∃ K, WinAt w' pw (Wm.new m E V D g) K ∧ Fr [] w w' ∧ ∀ q ∈ K, w.heap.size ≤ q := by
 have HC := Lib.hid (cfg_w m D E V (w.alloc (.cells #[.int .i64 m, .int .i64 E, .int .i64 V, .int .i64 D] 55)) h1 h2 h3 h4 h5 h6 h7)
 have bc := Blk.new w [.int .i64 m, .int .i64 E, .int .i64 V, .int .i64 D] 55
 have HNC := Lib.hid (fun w' => cnew_w m h1 h1' w')
 have HNS := Lib.hid (fun w' => st_from V E g w' h5 h3 hg)
 have HNX := Lib.hid (fun w' => xnew_w E w' (by omega))
 have HNF := Lib.hid (fun w' => fnew_w V E w' h5 h3)
 have HOK := Lib.hid (Wm.new_ok (m := m) (E := E) (V := V) (D := D) (gone := g) h1 h1' h3 h5 hg)
 go_enter Tryz.func68, Tryz.ntmps68
 go_wp2_with fail
 refine HC.out.mono ?_
 rintro _ w1 ⟨rfl, hF1⟩
 have hs1 := hF1.size
 simp only [World.size_alloc] at hs1
 obtain ⟨W, hW⟩ : ∃ W, W = (w1.alloc (.cells #[.int .i64 0, .int .i64 0, .int .i64 0, .int .i64 0] 169)).alloc (.cells #[.int .i64 m, .int .i64 E, .int .i64 V, .int .i64 D, .pointer none, .pointer none, .pointer none, .pointer none, .int .u64 g, .int .u64 g] 83) := ⟨_, rfl⟩
 have hN : NS w W (w1.heap.size + 1) w1.heap.size w.heap.size [.int .i64 m, .int .i64 E, .int .i64 V, .int .i64 D, .pointer none, .pointer none, .pointer none, .pointer none, .int .u64 g, .int .u64 g] m D E V := by {
 have k1 := (Blk.new w1 [.int .i64 0, .int .i64 0, .int .i64 0, .int .i64 0] 169).alloc (.cells #[.int .i64 m, .int .i64 E, .int .i64 V, .int .i64 D, .pointer none, .pointer none, .pointer none, .pointer none, .int .u64 g, .int .u64 g] 83)
 have k2 := Blk.new (w1.alloc (.cells #[.int .i64 0, .int .i64 0, .int .i64 0, .int .i64 0] 169)) [.int .i64 m, .int .i64 E, .int .i64 V, .int .i64 D, .pointer none, .pointer none, .pointer none, .pointer none, .int .u64 g, .int .u64 g] 83
 rw [World.size_alloc] at k2
 subst hW
 exact ⟨k2, k1, ((hF1.blk bc (by simp)).alloc _).alloc _, ((((Fr.refl _ _).alloc _).trans' hF1).alloc _).alloc _, Nat.le_refl _, by omega, by omega⟩
 }
 have x0 := ((hF1.blk bc (by simp)).alloc (.cells #[.int .i64 0, .int .i64 0, .int .i64 0, .int .i64 0] 169)).cell 0
 have x1 := ((hF1.blk bc (by simp)).alloc (.cells #[.int .i64 0, .int .i64 0, .int .i64 0, .int .i64 0] 169)).cell 1
 have x2 := ((hF1.blk bc (by simp)).alloc (.cells #[.int .i64 0, .int .i64 0, .int .i64 0, .int .i64 0] 169)).cell 2
 have x3 := ((hF1.blk bc (by simp)).alloc (.cells #[.int .i64 0, .int .i64 0, .int .i64 0, .int .i64 0] 169)).cell 3
 have y0 := hN.co.cell 0
 rw [hW] at y0
 simp only [List.getElem?_cons_zero, List.getElem?_cons_succ] at x0 x1 x2 x3 y0
 have HN := Lib.hid hN
 clear hN bc hF1 HC
 go_wp2_with fail
 clear x0 x1 x2 x3 y0
 rw [← hW]
 clear hW
 generalize hb : w1.heap.size + 1 = b at *
 generalize hbe : w1.heap.size = be at *
 generalize hbc : w.heap.size = bc at *
 clear hb hbe
 refine (HNC.out W).mono ?_
 rintro _ W1 ⟨pc, rfl, hc, hF1, hpc⟩
 have hN1 := HN.out.go hF1
 have hp1 := hN1.put 4 0 (cptr pc) (by decide)
 have b4 := hN1.hd.cell 4; have z4 := hN1.hd.frozen 4
 have e0 := (hN1.mid 4 (cptr pc)).er.cell 0; have f0 := (hN1.mid 4 (cptr pc)).er.frozen 0
 have c1 := hp1.1.co.cell 1; have c2 := hp1.1.co.cell 2
 simp only [List.getElem?_cons_zero, List.getElem?_cons_succ, List.set_cons_succ, List.set_cons_zero] at b4 e0 c1 c2 hp1
 have H1 := Lib.hid (And.intro hc (And.intro hF1 (And.intro hpc hp1)))
 have HNb := Lib.hid (And.intro HN.out.hd.lt HN.out.lw)
 clear hc hF1 hpc hN1 hp1 HNC HN
 go_wp2_with fail
 clear b4 z4 e0 f0 c1 c2
 generalize (W1.setCell ⟨b, 4, none⟩ (cptr pc)).setCell ⟨be, 0, none⟩ (.int .i64 0) = V1 at *
 refine (HNS.out V1).mono ?_
 rintro _ W2 ⟨ps, rfl, Ks, hc, hF2, hk2⟩
 have hN2 := H1.out.2.2.2.1.go hF2
 have hp2 := hN2.put 5 1 (sptr ps) (by decide)
 have b4 := hN2.hd.cell 5; have z4 := hN2.hd.frozen 5
 have e0 := (hN2.mid 5 (sptr ps)).er.cell 1; have f0 := (hN2.mid 5 (sptr ps)).er.frozen 1
 have c1 := hp2.1.co.cell 1
 simp only [List.getElem?_cons_zero, List.getElem?_cons_succ, List.set_cons_succ, List.set_cons_zero] at b4 e0 c1 hp2
 have H2 := Lib.hid (And.intro hc (And.intro hF2 (And.intro hk2 hp2)))
 clear hc hF2 hk2 hN2 hp2 HNS
 go_wp2_with fail
 clear b4 z4 e0 f0 c1
 generalize (W2.setCell ⟨b, 5, none⟩ (sptr ps)).setCell ⟨be, 1, none⟩ (.int .i64 0) = V2 at *
 refine (HNX.out V2).mono ?_
 rintro _ W3 ⟨px, rfl, lx, hc, hF3, hk3⟩
 have hN3 := H2.out.2.2.2.1.go hF3
 have hp3 := hN3.put 6 2 (hptr px) (by decide)
 have b4 := hN3.hd.cell 6; have z4 := hN3.hd.frozen 6
 have e0 := (hN3.mid 6 (hptr px)).er.cell 2; have f0 := (hN3.mid 6 (hptr px)).er.frozen 2
 have c1 := hp3.1.co.cell 1; have c2 := hp3.1.co.cell 2
 simp only [List.getElem?_cons_zero, List.getElem?_cons_succ, List.set_cons_succ, List.set_cons_zero] at b4 e0 c1 c2 hp3
 have H3 := Lib.hid (And.intro hc (And.intro hF3 (And.intro hk3 hp3)))
 clear hc hF3 hk3 hN3 hp3 HNX
 go_wp2_with fail
 clear b4 z4 e0 f0 c1 c2
 generalize (W3.setCell ⟨b, 6, none⟩ (hptr px)).setCell ⟨be, 2, none⟩ (.int .i64 0) = V3 at *
 refine (HNF.out V3).mono ?_
 rintro _ W4 ⟨pf, rfl, Lf, hc, hF4, hk4⟩
 have hN4 := H3.out.2.2.2.1.go hF4
 have hp4 := hN4.put 7 3 (fptr pf) (by decide)
 have b4 := hN4.hd.cell 7; have z4 := hN4.hd.frozen 7
 have e0 := (hN4.mid 7 (fptr pf)).er.cell 3; have f0 := (hN4.mid 7 (fptr pf)).er.frozen 3
 have g0 := hp4.1.er.cell 0; have g1 := hp4.1.er.cell 1; have g2 := hp4.1.er.cell 2; have g3 := hp4.1.er.cell 3
 simp only [List.getElem?_cons_zero, List.getElem?_cons_succ, List.set_cons_succ, List.set_cons_zero] at b4 e0 g0 g1 g2 g3 hp4
 have H4 := Lib.hid (And.intro hc (And.intro hF4 (And.intro hk4 hp4)))
 clear hc hF4 hk4 hN4 hp4 HNF
 go_wp2_with fail
 clear b4 z4 e0 f0 g0 g1 g2 g3
 generalize (W4.setCell ⟨b, 7, none⟩ (fptr pf)).setCell ⟨be, 3, none⟩ (.int .i64 0) = V4 at *
 go_ret2
 obtain ⟨hc1, hF1, hpc, hn1, hG1⟩ := H1.out
 obtain ⟨hc2, hF2, hk2, hn2, hG2⟩ := H2.out
 obtain ⟨hc3, hF3, hk3, hn3, hG3⟩ := H3.out
 obtain ⟨hc4, hF4, hk4, hn4, hG4⟩ := H4.out
 have hbW := HNb.out.1; have hbb := HNb.out.2
 have s1 := hF1.size; have s2 := hF2.size; have s3 := hF3.size; have s4 := hF4.size
 have t1 := hG1.size; have t2 := hG2.size; have t3 := hG3.size; have t4 := hG4.size
 have e1 := hc1.hd.lt
 have hlb := hn4.lb; have hle := hn4.le
 have a1 : ∀ q, W.heap.size ≤ q → q ∉ [b, be] := fun q hq hm => by
   simp only [List.mem_cons, List.not_mem_nil, or_false] at hm
   rcases hm with rfl | rfl <;> omega
 have k2 : ∀ q ∈ Ks, W1.heap.size ≤ q := fun q hq => Nat.le_trans t1 (hk2 q hq)
 have k3 : ∀ q ∈ lx, W2.heap.size ≤ q := fun q hq => Nat.le_trans t2 (hk3 q hq)
 have k4 : ∀ q ∈ Lf, W3.heap.size ≤ q := fun q hq => Nat.le_trans t3 (hk4 q hq)
 refine ⟨b, rfl, winK b pc Ks lx Lf, ⟨HOK.out, pc, ps, px, pf, 0, Ks, lx, Lf, fun x => if x = b then 0 else if x = pc then 1 else if x < W2.heap.size then 2 else if x < W3.heap.size then 3 else 4, ⟨hn4.hd, ?_, ?_, ?_, ?_, by simp, ?_, ?_, ?_, ?_⟩, rfl⟩, hn4.fr, ?_⟩
 · exact ((((((hc1.fr hG1 (a1 _ (by omega))).fr0 hF2).fr hG2 (a1 _ (by omega))).fr0 hF3).fr hG3 (a1 _ (by omega))).fr0 hF4).fr hG4 (a1 _ (by omega))
 · exact ((((hc2.fr hG2 (fun q hq => a1 q (by have := k2 q hq; omega))).fr0 hF3).fr hG3 (fun q hq => a1 q (by have := k2 q hq; omega))).fr0 hF4).fr hG4 (fun q hq => a1 q (by have := k2 q hq; omega))
 · exact ((hc3.fr hG3 (fun q hq => a1 q (by have := k3 q hq; omega))).fr0 hF4).fr hG4 (fun q hq => a1 q (by have := k3 q hq; omega))
 · exact hc4.fr hG4 (fun q hq => a1 q (by have := k4 q hq; omega))
 · rw [if_neg (by omega), if_pos rfl]
 {
 intro q hq
 have := k2 q hq; have := hc2.lt q hq
 rw [if_neg (by omega), if_neg (by omega), if_pos (by omega)]
 }
 {
 intro q hq
 have := k3 q hq; have := hc3.lt q hq
 rw [if_neg (by omega), if_neg (by omega), if_neg (by omega), if_pos (by omega)]
 }
 {
 intro q hq
 have := k4 q hq
 rw [if_neg (by omega), if_neg (by omega), if_neg (by omega), if_neg (by omega)]
 }
 {
 intro q hq
 simp only [winK, List.mem_cons, List.mem_append] at hq
 rcases hq with rfl | rfl | hq | hq | hq
 · omega
 · omega
 · have := k2 q hq; omega
 · have := k3 q hq; omega
 · have := k4 q hq; omega
 }
theorem wnew_w (m D : Int) (E V : Nat) (w : World) (h1 : 1 ≤ m) (h1' : m ≤ 9223372036854775807) (h2 : 1 ≤ E) (h3 : E ≤ 16384) (h4 : 2 ≤ V) (h5 : V ≤ 4096) (h6 : 0 ≤ D) (h7 : D ≤ 16384) :
    Calls Tryz.prog 29 #[.agg #[.int .i64 m, .int .i64 E, .int .i64 V, .int .i64 D]] w fun e w' => ∃ pw, e = .returned (.tuple #[wptr pw, .int .i64 0]) ∧ ∃ K, WinAt w' pw (Wm.new m E V D 0) K ∧ Fr [] w w' ∧ ∀ q ∈ K, w.heap.size ≤ q := by
 have HF := Lib.hid (wfrom_w m D E V 0 (w.alloc (.cells #[.int .i64 m, .int .i64 E, .int .i64 V, .int .i64 D] 55)) h1 h1' h2 h3 h4 h5 h6 h7 (by decide))
 have x0 := (Blk.new w [.int .i64 m, .int .i64 E, .int .i64 V, .int .i64 D] 55).cell 0
 have x1 := (Blk.new w [.int .i64 m, .int .i64 E, .int .i64 V, .int .i64 D] 55).cell 1
 have x2 := (Blk.new w [.int .i64 m, .int .i64 E, .int .i64 V, .int .i64 D] 55).cell 2
 have x3 := (Blk.new w [.int .i64 m, .int .i64 E, .int .i64 V, .int .i64 D] 55).cell 3
 simp only [List.getElem?_cons_zero, List.getElem?_cons_succ] at x0 x1 x2 x3
 go_enter Tryz.func29, Tryz.ntmps29
 go_wp2_with fail
 refine HF.out.mono ?_
 rintro _ w1 ⟨pw, rfl, K, h1, h2, h3⟩
 have HH := Lib.hid (And.intro h1 (And.intro h2 h3)); clear h1 h2 h3 x0 x1 x2 x3
 go_wp2
 go_ret2
 exact ⟨pw, rfl, K, HH.out.1, ((Fr.refl _ _).alloc _).trans' HH.out.2.1, fun q hq => by have := HH.out.2.2 q hq; simp at this; omega⟩
end Go.Proofs.YtgmnemndjjmgkaaGreat

/- A window: contracts over the model; Count. -/
namespace Go.Proofs.YtgmnemndjjmgkaaGreat
open Go.RowKit
set_option maxRecDepth 10000
set_option maxHeartbeats 800000
section
variable {w w' : World} {pw : Nat} {W : Wm} {K : List Nat}
theorem WStep.of0 (h : WinAt w pw W K) (hf : Fr [] w w') : WStep w w' pw W K := ⟨K, h.fr0 hf, hf.mono (by simp), fun _ h => .inl h⟩
theorem wat_mv {pc ps px pf nq : Nat} {Ks lx Lf : List Nat} (hok : W.Ok) (h : WMv w w' pw pc ps px pf (W.wp nq) Ks lx Lf) : WStep w w' pw W (winK pw pc Ks lx Lf) := by
 obtain ⟨Lf', cl', hB, hF, hn⟩ := h
 refine ⟨_, ⟨hok, pc, ps, px, pf, nq, Ks, lx, Lf', cl', hB, rfl⟩, hF.mono (fun b hb => .inl (winK_fo hb)), fun q hm => ?_⟩
 simp only [winK, List.mem_cons, List.mem_append] at hm ⊢
 rcases hm with e | e | e | e | e
 · simp [e]
 · simp [e]
 · simp [e]
 · simp [e]
 · exact (hn q e).imp (fun e => by simp [e]) id
theorem wat_now (h : WinAt w pw W K) : Calls Tryz.prog 16 #[wptr pw] w fun e w' => e = .returned (.int .i64 W.now) ∧ w' = w := by
 obtain ⟨hok, pc, ps, px, pf, nq, Ks, lx, Lf, cl, hB, rfl⟩ := h
 exact wnow_w hB
theorem wat_conn (h : WinAt w pw W K) (u v : Nat) (hu : u < 18446744073709551616) (hv : v < 18446744073709551616) :
    Calls Tryz.prog 15 #[wptr pw, .int .u64 u, .int .u64 v] w fun e w' => e = .returned (.tuple #[.bool (wconnB (W.wp 0) u v), .int .i64 (endsC W.s u v)]) ∧ WStep w w' pw W K := by
 obtain ⟨hok, pc, ps, px, pf, nq, Ks, lx, Lf, cl, hB, rfl⟩ := h
 exact (wconn_w hB u v hu hv).mono fun _ _ h => ⟨h.1, wat_mv hok h.2⟩
theorem wat_until (h : WinAt w pw W K) (u v : Nat) (hu : u < 18446744073709551616) (hv : v < 18446744073709551616) :
    Calls Tryz.prog 14 #[wptr pw, .int .u64 u, .int .u64 v] w fun e w' => e = .returned (.tuple #[.int .i64 (wuntV (W.wp 0) u v), .bool (wuntB (W.wp 0) u v), .int .i64 (endsC W.s u v)]) ∧ WStep w w' pw W K := by
 obtain ⟨hok, pc, ps, px, pf, nq, Ks, lx, Lf, cl, hB, rfl⟩ := h
 exact (wuntil_w hB u v hu hv).mono fun _ _ h => ⟨h.1, wat_mv hok h.2⟩
noncomputable def compsW (W : Wm) : Int := (compG W.V W.G : Int) - (W.V - W.s.M.L.length)
theorem wat_count (h : WinAt w pw W K) : Calls Tryz.prog 18 #[wptr pw] w fun e w' => e = .returned (.tuple #[.int .i64 W.s.L.length, .int .i64 W.s.M.L.length, .int .i64 (compsW W)]) ∧ Fr [] w w' := by
 obtain ⟨hok, pc, ps, px, pf, nq, Ks, lx, Lf, cl, hB, rfl⟩ := h
 have hvl : W.s.M.L.length ≤ W.V ∧ W.V ≤ 4096 := by {
 have h1 := hok.ok.md.cnt; have h2 := hok.ok.md.ar.hb; have h3 := hok.ok.ms; have h4 := hok.hV; have h5 := hok.ok.leV
 have h6 : W.s.M.ar.slots = W.s.M.slots := rfl
 have h7 : W.s.M.ar.begun = W.s.M.given := rfl
 omega
 }
 have hcl : compG W.V W.G ≤ W.V := by unfold compG cntT; exact Nat.le_trans (List.length_filter_le _ _) (by simp)
 have HV := Lib.hid (wvalid_w hB)
 have HSV := Lib.hid (st_verts hB.st)
 have HSL := Lib.hid (fun (w' : World) (hf : Fr [] w w') => st_len (hB.st.fr0 hf))
 have HFC := Lib.hid (fun (w' : World) (hf : Fr [] w w') => fa_count (hB.fo.fr hf (by simp)))
 have c2 := hB.hd.cell 2; have c5 := hB.hd.cell 5; have c7 := hB.hd.cell 7
 simp only [List.getElem?_cons_zero, List.getElem?_cons_succ] at c2 c5 c7
 have HC := Lib.hid (fun (w' : World) (hf : Fr [] w w') => And.intro (hf.cell c5 (by simp)) (hf.cell c7 (by simp)))
 clear hB
 unfold compsW
 have e1 : (W.wp nq).s = W.s := rfl
 have e2 : (W.wp nq).V = W.V := rfl
 have e3 : (W.wp nq).G = W.G := rfl
 rw [e1] at HSV HSL
 rw [e2, e3] at HFC
 rw [e2] at c2
 clear e1 e2 e3
 generalize compG W.V W.G = cg at *
 generalize W.s.M.L.length = vl at *
 generalize W.s.L.length = el at *
 generalize W.V = V at *
 have hwr : IntKind.i64.wrap ((cg : Int) - (V - vl)) = (cg : Int) - (V - vl) := by simp [IntKind.wrap, IntKind.bits, IntKind.signed]; omega
 go_enter Tryz.func18, Tryz.ntmps18
 go_wp2_with fail
 refine HV.out.mono ?_
 rintro _ w ⟨rfl, rfl⟩
 go_wp2_with fail
 refine HSV.out.mono ?_
 rintro _ w ⟨rfl, rfl⟩
 go_wp2_with fail
 go_region_held3 (fun w' => w'.cell? ⟨pw, 5, none⟩ = some (sptr ps) ∧ w'.cell? ⟨pw, 7, none⟩ = some (fptr pf))
   (first
     | with_reducible exact HC.out _ HF2.out
     | with_reducible exact HC.out _ (Fr.refl [] w).drew)
   (first
     | (go_at_call 48; with_reducible refine Calls.mono (HSL.out _ ((Fr.refl [] w).drew)) ?_; rintro r w2 ⟨rfl, rfl⟩)
     | (go_at_call 48; with_reducible refine Calls.mono (HSL.out _ HF2.out) ?_; rintro r w3 ⟨rfl, rfl⟩)
     | (go_at_call 49; with_reducible refine Calls.mono (HFC.out _ ((Fr.refl [] w).drew)) ?_; rintro r w2 ⟨rfl, hF2⟩; have HF2 := Lib.hid (Fr.trans' (Fr.refl [] w).drew hF2)))
 all_goals
  go_wp2
  go_ret3
  exact ⟨rfl, HF2.out⟩
end
end Go.Proofs.YtgmnemndjjmgkaaGreat

/- forest: the example of the chapter. -/
namespace Go.Proofs.YtgmnemndjjmgkaaGreat
open Go.RowKit Classical
set_option maxRecDepth 10000
set_option maxHeartbeats 800000
theorem Cx.inv {G : EMap} {U : Nat → Prop} (C : Nat → Prop) (h : ∀ s a b x, U s → G s = some (a, b, x) → (C a ↔ C b)) {p q : Nat} (hc : Cx G U p q) : C p ↔ C q := by
 induction hc with
 | refl => exact Iff.rfl
 | step s x _ h1 h2 ih => {
 rcases h2 with h2 | h2
 · exact ih.trans (h _ _ _ _ h1 h2)
 · exact ih.trans (h _ _ _ _ h1 h2).symm
 }
def exG : EMap := fun t => if t = 0 then some (0, 1, 10) else if t = 1 then some (1, 2, 14) else if t = 2 then some (0, 2, 16) else none
theorem exG_cases {s a b : Nat} {x : Int} (h : exG s = some (a, b, x)) : (s = 0 ∧ a = 0 ∧ b = 1 ∧ x = 10) ∨ (s = 1 ∧ a = 1 ∧ b = 2 ∧ x = 14) ∨ (s = 2 ∧ a = 0 ∧ b = 2 ∧ x = 16) := by
 unfold exG at h
 by_cases h0 : s = 0
 · rw [if_pos h0] at h; simp at h; omega
 {
 rw [if_neg h0] at h
 by_cases h1 : s = 1
 · rw [if_pos h1] at h; simp at h; omega
 {
 rw [if_neg h1] at h
 by_cases h2 : s = 2
 · rw [if_pos h2] at h; simp at h; omega
 · rw [if_neg h2] at h; cases h
 }
 }
theorem ex0 : exG 0 = some (0, 1, 10) := rfl
theorem ex1 : exG 1 = some (1, 2, 14) := rfl
theorem ex2 : exG 2 = some (0, 2, 16) := rfl
theorem exT0 : ¬ isTree exG 0 := by
 rintro ⟨a, b, x, h, hn⟩
 rw [ex0] at h; simp at h; obtain ⟨rfl, rfl, rfl⟩ := h
 refine hn ((Cx.edge (s := 2) ⟨0, 2, 16, ex2, .inl (by omega)⟩ ex2).trans (Cx.edge' (s := 1) ⟨1, 2, 14, ex1, .inl (by omega)⟩ ex1))
theorem exT1 : isTree exG 1 := by
 refine ⟨1, 2, 14, ex1, fun hc => ?_⟩
 have := Cx.inv (fun v => v = 0 ∨ v = 2) (fun s a b x hU hg => by
   obtain ⟨a', b', y, h1, h2⟩ := hU
   have := exG_cases hg
   have := exG_cases h1
   unfold bef at h2
   omega) hc
 omega
theorem exT2 : isTree exG 2 := by
 refine ⟨0, 2, 16, ex2, fun hc => ?_⟩
 have := Cx.inv (fun v => v = 0) (fun s a b x hU hg => by
   obtain ⟨a', b', y, h1, h2⟩ := hU
   have := exG_cases hg
   have := exG_cases h1
   unfold bef at h2
   omega) hc
 omega
theorem exT3 {s : Nat} (h : 3 ≤ s) : ¬ isTree exG s := by
 rintro ⟨a, b, x, h1, _⟩
 have := exG_cases h1
 omega
theorem exGW : GW 5 4 exG := by
 refine ⟨fun s e h => ?_, fun s a b x h => ?_, fun s a b x h => ?_⟩
 {
 obtain ⟨a, b, x⟩ := e
 have := exG_cases h; omega
 }
 · have := exG_cases h; omega
 · have := exG_cases h; omega
theorem exCount : compG 4 exG = 2 := by
 have h := comp_tree exGW
 have h2 : cntT 5 (isTree exG) = 2 := by {
 unfold cntT
 rw [show List.range 5 = [0, 1, 2, 3, 4] from rfl]
 simp [exT0, exT1, exT2, exT3 (s := 3) (by omega), exT3 (s := 4) (by omega)]
 }
 omega
theorem ex02 : Cx exG (fun _ => True) 0 2 := Cx.edge (s := 2) trivial ex2
end Go.Proofs.YtgmnemndjjmgkaaGreat

/- A window: the example of the laws. -/
namespace Go.Proofs.YtgmnemndjjmgkaaGreat
open Go.RowKit Classical
set_option maxRecDepth 10000
set_option maxHeartbeats 800000
def exS1 : Sm := (Sm.new 4 3 0).ins 1 2 5 0 10
def exS2 : Sm := exS1.ins 2 3 7 4 14
def exS3 : Sm := exS2.ins 1 3 9 6 16
def exQ1 : Nat → Option Int := fun j => if j = 0 then some 10 else none
def exQ2 : Nat → Option Int := fun j => if j = 1 then some 14 else exQ1 j
def exQ3 : Nat → Option Int := fun j => if j = 2 then some 16 else exQ2 j
def exG1 : EMap := fun j => if j = 0 then some (0, 1, 10) else none
def exG2 : EMap := fun j => if j = 1 then some (1, 2, 14) else exG1 j
def exG3 : EMap := fun j => if j = 2 then some (0, 2, 16) else exG2 j
def exW (now : Int) (s : Sm) (Q : Nat → Option Int) (G : EMap) : Wm := { m := 10, E := 3, V := 4, D := 0, now := now, s := s, Q := Q, G := G, gone := 0 }
theorem exG3_eq : exG3 = exG := by
 funext t
 unfold exG3 exG2 exG1 exG
 by_cases h2 : t = 2
 · subst h2; rfl
 {
 by_cases h1 : t = 1
 · subst h1; rfl
 {
 by_cases h0 : t = 0
 · subst h0; rfl
 · simp [h0, h1, h2]
 }
 }
theorem ex_put (now t x : Int) (s : Sm) (Q : Nat → Option Int) (G : EMap) (u v : Nat) (wt : Int) (a b k : Nat) (hk : s.slot = k) (hx : t + 10 = x) :
    ((exW now s Q G).tick t [] Q).put u v wt a b = exW t (s.ins u v wt t x) (fun j => if j = k then some x else Q j) (fun j => if j = k then some (a, b, x) else G j) := by
 subst hk hx
 simp [exW, Wm.tick, Wm.put, Sm.rems]
theorem ex_none {Q : Nat → Option Int} {to : Int} (h : ∀ i x, Q i = some x → to < x) {ds : List Nat} {Q' : Nat → Option Int} (hm : Mins to Q ds Q') : ds = [] ∧ Q' = Q := hm.uniq (.done _ h)
theorem exQ1_lt : ∀ i x, exQ1 i = some x → (4 : Int) < x := by
 intro i x h; unfold exQ1 at h; split at h <;> simp at h; omega
theorem exQ2_lt : ∀ i x, exQ2 i = some x → (6 : Int) < x := by
 intro i x h; unfold exQ2 exQ1 at h; split at h
 · simp at h; omega
 · split at h <;> simp at h; omega
theorem exQ3_cases {i : Nat} {x : Int} (h : exQ3 i = some x) : (i = 2 ∧ x = 16) ∨ (i = 1 ∧ x = 14) ∨ (i = 0 ∧ x = 10) := by
 unfold exQ3 exQ2 exQ1 at h
 split at h
 · simp at h; omega
 {
 split at h
 · simp at h; omega
 · split at h <;> simp at h; omega
 }
theorem exQ3_due {ds : List Nat} {Q' : Nat → Option Int} (hm : Mins 10 exQ3 ds Q') : ds = [0] := by
 refine (hm.uniq (.more exQ3 0 10 [] _ rfl (by omega) (fun j y h => ?_) (.done _ fun i x h => ?_))).1
 · have := exQ3_cases h; omega
 {
 have h' : (if i = 0 then none else exQ3 i) = some x := h
 split at h'
 · cases h'
 · have := exQ3_cases h'; omega
 }
theorem ex_add {w : World} {pw : Nat} {K : List Nat} {now t x : Int} {s : Sm} {Q : Nat → Option Int} {G : EMap} (h : WinAt w pw (exW now s Q G) K) (u v : Nat) (hu : u < 16) (hv : v < 16) (hne : u ≠ v) (wt : Int) (ht0 : 0 ≤ t) (ht1 : t ≤ 1000) (ht : now ≤ t) (hl : s.last < 100) (hq : ∀ i y, Q i = some y → t < y) (hc : s.chk u v = 0) (a b k : Nat)
    (hk : s.slot = k) (hx : t + 10 = x) (ha : (s.ins u v wt t x).M.find u = some a) (hb : (s.ins u v wt t x).M.find v = some b) :
    Calls Tryz.prog 21 #[wptr pw, recA u v wt t] w fun e w' => e = .returned (.int .i64 0) ∧ WStep w w' pw (exW t (s.ins u v wt t x) (fun j => if j = k then some x else Q j) (fun j => if j = k then some (a, b, x) else G j)) K := by
 refine (wat_add h u v (by omega) (by omega) hne wt t (by omega) (by omega) (by unfold chkT; rw [if_neg (by show ¬ t < now; omega)]; unfold sumC; exact if_pos (by show t + 10 ≤ _; omega)) (by show s.last < _; omega)).mono ?_
 rintro _ w' ⟨c, rfl, ds, Q', hm, h1⟩
 obtain ⟨rfl, rfl⟩ := ex_none (Q := Q) hq hm
 rcases h1 with ⟨_, h1, _⟩ | ⟨rfl, _, a', b', ha', hb', hs⟩
 · exact absurd hc h1
 {
 subst hx
 have e1 : a' = a := Option.some.inj (ha'.symm.trans ha)
 have e2 : b' = b := Option.some.inj (hb'.symm.trans hb)
 subst e1 e2
 rw [ex_put now t _ s Q' G u v wt a' b' k hk rfl] at hs
 exact ⟨rfl, hs⟩
 }
theorem ex_untilB (G : EMap) (s : Sm) (Q : Nat → Option Int) (now r : Int) (u v a b : Nat) (ha : s.M.find u = some a) (hb : s.M.find v = some b) (hal : a < 4) (hbl : b < 4) (hne : a ≠ b) (hc : Cx G (fun _ => True) a b) (hr : IsUntil G a b r) :
    wuntB ((exW now s Q G).wp 0) u v = true ∧ wuntV ((exW now s Q G).wp 0) u v = r ∧ endsC s u v = 0 := by
 have h0 : endsC s u v = 0 := by unfold endsC; rw [if_pos (by simp [ha, hb])]
 have hi : endsI s u v = a := by unfold endsI; rw [if_pos (by simp [ha, hb]), ha]; rfl
 have hj : endsI s v u = b := by unfold endsI; rw [if_pos (by simp [ha, hb]), hb]; rfl
 have hB : untilB 4 G a b = true := by {
 have : Cx G (fun _ => True) (a : Int).toNat (b : Int).toNat := hc
 unfold untilB connG
 rw [decide_eq_true this, decide_eq_true (show (a : Int) ≠ b by omega)]
 simp [inV]; omega
 }
 refine ⟨?_, ?_, h0⟩
 {
 unfold wuntB
 rw [show ((exW now s Q G).wp 0).s = s from rfl, if_pos h0, hi, hj]
 exact hB
 }
 {
 unfold wuntV
 rw [show ((exW now s Q G).wp 0).s = s from rfl, if_pos h0, hi, hj]
 show untilV 4 G a b = r
 unfold untilV
 rw [if_pos hB]
 exact untilI_eq hr
 }
theorem exG2_cases {s a b : Nat} {x : Int} (h : exG2 s = some (a, b, x)) : (s = 0 ∧ a = 0 ∧ b = 1 ∧ x = 10) ∨ (s = 1 ∧ a = 1 ∧ b = 2 ∧ x = 14) := by
 unfold exG2 exG1 at h
 split at h
 · simp at h; omega
 · split at h <;> simp at h; omega
theorem ex_until2 : wuntB ((exW 4 exS2 exQ2 exG2).wp 0) 1 3 = true ∧ wuntV ((exW 4 exS2 exQ2 exG2).wp 0) 1 3 = 10 ∧ endsC exS2 1 3 = 0 := by
 have h0 : exG2 0 = some (0, 1, 10) := rfl
 have h1 : exG2 1 = some (1, 2, 14) := rfl
 refine ex_untilB exG2 exS2 exQ2 4 10 1 3 0 2 (by decide) (by decide) (by omega) (by omega) (by omega) ((Cx.edge (s := 0) trivial h0).trans (Cx.edge (s := 1) trivial h1)) ⟨(Cx.edge (s := 0) ⟨0, 1, 10, h0, by omega⟩ h0).trans (Cx.edge (s := 1) ⟨1, 2, 14, h1, by omega⟩ h1), fun hc => ?_⟩
 have := Cx.inv (fun v => v = 0) (fun s a b x hU hg => by
   obtain ⟨a', b', y, h1, h2⟩ := hU
   have := exG2_cases hg
   have := exG2_cases h1
   omega) hc
 omega
theorem ex_until3 : wuntB ((exW 6 exS3 exQ3 exG3).wp 0) 1 3 = true ∧ wuntV ((exW 6 exS3 exQ3 exG3).wp 0) 1 3 = 16 ∧ endsC exS3 1 3 = 0 := by
 rw [exG3_eq]
 refine ex_untilB exG exS3 exQ3 6 16 1 3 0 2 (by decide) (by decide) (by omega) (by omega) (by omega) ex02 ⟨Cx.edge (s := 2) ⟨0, 2, 16, ex2, by omega⟩ ex2, fun hc => ?_⟩
 have := Cx.inv (fun v => v = 0) (fun s a b x hU hg => by
   obtain ⟨a', b', y, h1, h2⟩ := hU
   have := exG_cases hg
   have := exG_cases h1
   omega) hc
 omega
theorem ex_comps : compsW (exW 6 exS3 exQ3 exG3) = 1 ∧ exS3.L.length = 3 ∧ exS3.M.L.length = 3 := by
 have h1 : exS3.M.L.length = 3 := by decide
 refine ⟨?_, by decide, h1⟩
 have h2 : compsW (exW 6 exS3 exQ3 exG3) = (compG 4 exG3 : Int) - (4 - exS3.M.L.length) := rfl
 rw [h2, exG3_eq, exCount, h1]
 rfl
theorem ex_no9 {ds : List Nat} {Q' : Nat → Option Int} (hm : Mins 9 exQ3 ds Q') : (exS3.rems ds).chk 4 5 = 12 := by
 obtain ⟨rfl, _⟩ := ex_none (fun i x h => by have := exQ3_cases h; omega) hm
 decide
theorem ex_no10 {ds : List Nat} {Q' : Nat → Option Int} (hm : Mins 10 exQ3 ds Q') : (exS3.rems ds).chk 4 5 = 11 := by
 rw [exQ3_due hm]
 decide
theorem ex_add_no {w : World} {pw : Nat} {K : List Nat} {t : Int} (h : WinAt w pw (exW 6 exS3 exQ3 exG3) K) (ht : 6 ≤ t) (ht1 : t ≤ 1000) (c : Nat) (hc0 : c ≠ 0) (hc : ∀ {ds Q'}, Mins t exQ3 ds Q' → (exS3.rems ds).chk 4 5 = c) :
    Calls Tryz.prog 21 #[wptr pw, recA 4 5 1 t] w fun e w' => e = .returned (.int .i64 c) ∧ WStep w w' pw (exW 6 exS3 exQ3 exG3) K := by
 refine (wat_add h 4 5 (by omega) (by omega) (by omega) 1 t (by omega) (by omega) (by unfold chkT; rw [if_neg (by show ¬ t < 6; omega)]; unfold sumC; exact if_pos (by show t + 10 ≤ _; omega)) (by show exS3.last < _; decide)).mono ?_
 rintro _ w' ⟨c', rfl, ds, Q', hm, h1⟩
 have hk := hc hm
 rcases h1 with ⟨_, _, h1, hF⟩ | ⟨_, h1, _⟩
 {
 rw [show (exW 6 exS3 exQ3 exG3).s = exS3 from rfl, hk] at h1
 rw [h1]
 exact ⟨rfl, WStep.of0 h hF⟩
 }
 {
 rw [show (exW 6 exS3 exQ3 exG3).s = exS3 from rfl, hk] at h1
 exact absurd h1 hc0
 }
end Go.Proofs.YtgmnemndjjmgkaaGreat

/- A window made since the call began; the example of the laws, walked. -/
namespace Go.Proofs.YtgmnemndjjmgkaaGreat
open Go.RowKit
set_option maxRecDepth 10000
set_option maxHeartbeats 800000
def WW (w0 wr : World) (pw : Nat) (W : Wm) : Prop := ∃ K, WinAt wr pw W K ∧ Fr [] w0 wr ∧ ∀ q ∈ K, w0.heap.size ≤ q
section
variable {w0 wr w' : World} {pw : Nat} {W W' : Wm} {K : List Nat}
theorem WW.ok (h : WW w0 wr pw W) : W.Ok := by obtain ⟨K, h, _⟩ := h; exact h.1
theorem WW.fr (h : WW w0 wr pw W) : Fr [] w0 wr := by obtain ⟨K, _, h, _⟩ := h; exact h
theorem WW.step (h2 : Fr [] w0 wr) (h3 : ∀ q ∈ K, w0.heap.size ≤ q) (hs : WStep wr w' pw W' K) : WW w0 w' pw W' := by
 obtain ⟨K', k1, k2, k3⟩ := hs
 have := h2.size
 exact ⟨K', k1, h2.trans k2 (fun b hb => .inr (h3 b hb)), fun q hq => (k3 q hq).elim (h3 q) (fun e => by omega)⟩
theorem WW.fr0 (h : WW w0 wr pw W) (hf : Fr [] wr w') : WW w0 w' pw W := by
 obtain ⟨K, h1, h2, h3⟩ := h
 exact ⟨K, h1.fr0 hf, h2.trans' hf, h3⟩
theorem ww_new (m D : Int) (E V : Nat) (hF : Fr [] w0 wr) (h1 : 1 ≤ m) (h1' : m ≤ 9223372036854775807) (h2 : 1 ≤ E) (h3 : E ≤ 16384) (h4 : 2 ≤ V) (h5 : V ≤ 4096) (h6 : 0 ≤ D) (h7 : D ≤ 16384) :
    Calls Tryz.prog 29 #[.agg #[.int .i64 m, .int .i64 E, .int .i64 V, .int .i64 D]] wr fun e w' => ∃ pw, e = .returned (.tuple #[wptr pw, .int .i64 0]) ∧ WW w0 w' pw (Wm.new m E V D 0) :=
  (wnew_w m D E V wr h1 h1' h2 h3 h4 h5 h6 h7).mono fun _ _ ⟨pw, h, K, k1, k2, k3⟩ => ⟨pw, h, K, k1, hF.trans' k2, fun q hq => Nat.le_trans hF.size (k3 q hq)⟩
theorem ww_now (h : WW w0 wr pw W) : Calls Tryz.prog 16 #[wptr pw] wr fun e w' => e = .returned (.int .i64 W.now) ∧ w' = wr := by
 obtain ⟨K, h1, h2, h3⟩ := h; exact wat_now h1
theorem ww_until (h : WW w0 wr pw W) (u v : Nat) (hu : u < 18446744073709551616) (hv : v < 18446744073709551616) :
    Calls Tryz.prog 14 #[wptr pw, .int .u64 u, .int .u64 v] wr fun e w' => e = .returned (.tuple #[.int .i64 (wuntV (W.wp 0) u v), .bool (wuntB (W.wp 0) u v), .int .i64 (endsC W.s u v)]) ∧ WW w0 w' pw W := by
 obtain ⟨K, h1, h2, h3⟩ := h
 exact (wat_until h1 u v hu hv).mono fun _ _ k => ⟨k.1, WW.step h2 h3 k.2⟩
theorem ww_count (h : WW w0 wr pw W) : Calls Tryz.prog 18 #[wptr pw] wr fun e w' => e = .returned (.tuple #[.int .i64 W.s.L.length, .int .i64 W.s.M.L.length, .int .i64 (compsW W)]) ∧ WW w0 w' pw W := by
 have hh := h
 obtain ⟨K, h1, h2, h3⟩ := h
 exact (wat_count h1).mono fun _ _ k => ⟨k.1, hh.fr0 k.2⟩
theorem ww_tick (h : WW w0 wr pw W) (to : Int) (h1 : -9223372036854775808 ≤ to) (h2 : to ≤ 9223372036854775807) (hc : chkT W.m W.now to = 0) :
    Calls Tryz.prog 17 #[wptr pw, .int .i64 to] wr fun e w' => e = .returned (.int .i64 0) ∧ ∃ ds Q', Mins to W.Q ds Q' ∧ WW w0 w' pw (W.tick to ds Q') := by
 obtain ⟨K, k1, k2, k3⟩ := h
 exact (wat_tick k1 to h1 h2 hc).mono fun _ _ ⟨k, ds, Q', hm, hs⟩ => ⟨k, ds, Q', hm, WW.step k2 k3 hs⟩
def AddW (w0 w' : World) (pw : Nat) (W : Wm) (u v : Nat) (wt t : Int) (c : Nat) : Prop :=
  ∃ ds Q', Mins t W.Q ds Q' ∧ ((c ≠ 0 ∧ W.s.chk u v ≠ 0 ∧ c = (W.s.rems ds).chk u v ∧ WW w0 w' pw W) ∨ (c = 0 ∧ (W.s.rems ds).chk u v = 0 ∧ ∃ a b, ((W.s.rems ds).ins u v wt t (t + W.m)).M.find u = some a ∧ ((W.s.rems ds).ins u v wt t (t + W.m)).M.find v = some b ∧ WW w0 w' pw ((W.tick t ds Q').put u v wt a b)))
theorem ww_add (h : WW w0 wr pw W) (u v : Nat) (hu : u < 18446744073709551616) (hv : v < 18446744073709551616) (hne : u ≠ v) (wt t : Int) (ht1 : -9223372036854775808 ≤ t) (ht2 : t ≤ 9223372036854775807) (hc : chkT W.m W.now t = 0) (hl : W.s.last < 9223372036854775807) :
    Calls Tryz.prog 21 #[wptr pw, recA u v wt t] wr fun e w' => ∃ c : Nat, e = .returned (.int .i64 c) ∧ AddW w0 w' pw W u v wt t c := by
 obtain ⟨K, k1, k2, k3⟩ := h
 refine (wat_add k1 u v hu hv hne wt t ht1 ht2 hc hl).mono fun _ w' ⟨c, hr, ds, Q', hm, hs⟩ => ⟨c, hr, ds, Q', hm, ?_⟩
 rcases hs with ⟨a1, a2, a3, a4⟩ | ⟨a1, a2, a, b, a3, a4, a5⟩
 · exact .inl ⟨a1, a2, a3, ⟨K, k1.fr0 a4, k2.trans' a4, k3⟩⟩
 · exact .inr ⟨a1, a2, a, b, a3, a4, WW.step k2 k3 a5⟩
end
theorem small_w (w : World) : Calls Tryz.prog 30 #[] w fun e w' => e = .returned (.agg #[.int .i64 10, .int .i64 3, .int .i64 4, .int .i64 0]) ∧ Fr [] w w' := by
 have hb := Blk.new w [.int .i64 10, .int .i64 3, .int .i64 4, .int .i64 0] 55
 have r0 := hb.cell 0; have r1 := hb.cell 1; have r2 := hb.cell 2; have r3 := hb.cell 3
 simp only [List.getElem?_cons_zero, List.getElem?_cons_succ] at r0 r1 r2 r3
 go_enter Tryz.func30, Tryz.ntmps30
 go_wp2
 exact bodyPost_ret (v := .agg #[.int .i64 10, .int .i64 3, .int .i64 4, .int .i64 0]) (by simp [results, Tryz.results30, go_sem, r0, r1, r2, r3]) rfl ⟨rfl, (Fr.refl _ _).alloc _⟩
theorem works37_w (w : World) : Calls Tryz.prog 12 #[] w fun e w' => e = .returned (.bool true) ∧ Fr [] w w' := by
 have HS := Lib.hid (small_w w)
 have HN := Lib.hid (fun (w' : World) (hf : Fr [] w w') => ww_new (w0 := w) (wr := w') 10 0 3 4 hf (by omega) (by omega) (by omega) (by omega) (by omega) (by omega) (by omega) (by omega))
 go_enter Tryz.func12, Tryz.ntmps12
 go_wp2_with fail
 refine HS.out.mono ?_
 rintro _ w1 ⟨rfl, hF1⟩
 have HN1 := Lib.hid (HN.out w1 hF1)
 clear HS HN hF1
 go_wp2_with fail
 refine HN1.out.mono ?_
 rintro _ w1 ⟨pw, rfl, hW⟩
 have hW0 : WW w w1 pw (exW 0 (Sm.new 4 3 0) (fun _ => none) (fun _ => none)) := hW
 have A1 : Calls Tryz.prog 21 #[wptr pw, recA 1 2 5 0] w1 fun e w' => e = .returned (.int .i64 0) ∧ WW w w' pw (exW 0 exS1 exQ1 exG1) := by {
 obtain ⟨K, k1, k2, k3⟩ := hW0
 exact (ex_add k1 1 2 (by omega) (by omega) (by omega) 5 (by omega) (by omega) (by omega) (by decide) (fun _ _ h => (by cases h)) (by decide) 0 1 0 (by decide) rfl (by decide) (by decide)).mono fun _ _ k => ⟨k.1, WW.step k2 k3 k.2⟩
 }
 have A1 := Lib.hid A1
 clear hW hW0 HN1
 go_wp2_with fail
 refine A1.out.mono ?_
 rintro _ w2 ⟨rfl, hW⟩
 have A2 : Calls Tryz.prog 21 #[wptr pw, recA 2 3 7 4] w2 fun e w' => e = .returned (.int .i64 0) ∧ WW w w' pw (exW 4 exS2 exQ2 exG2) := by {
 obtain ⟨K, k1, k2, k3⟩ := hW
 exact (ex_add k1 2 3 (by omega) (by omega) (by omega) 7 (by omega) (by omega) (by omega) (by decide) exQ1_lt (by decide) 1 2 1 (by decide) rfl (by decide) (by decide)).mono fun _ _ k => ⟨k.1, WW.step k2 k3 k.2⟩
 }
 have A2 := Lib.hid A2
 clear hW A1
 go_wp2_with fail
 refine A2.out.mono ?_
 rintro _ w3 ⟨rfl, hW⟩
 have U2 := ww_until hW 1 3 (by omega) (by omega)
 rw [ex_until2.1, ex_until2.2.1, show (exW 4 exS2 exQ2 exG2).s = exS2 from rfl, ex_until2.2.2] at U2
 have U2 := Lib.hid U2
 clear hW A2
 go_wp2_with fail
 refine U2.out.mono ?_
 rintro _ w4 ⟨rfl, hW⟩
 have A3 : Calls Tryz.prog 21 #[wptr pw, recA 1 3 9 6] w4 fun e w' => e = .returned (.int .i64 0) ∧ WW w w' pw (exW 6 exS3 exQ3 exG3) := by {
 obtain ⟨K, k1, k2, k3⟩ := hW
 exact (ex_add k1 1 3 (by omega) (by omega) (by omega) 9 (by omega) (by omega) (by omega) (by decide) exQ2_lt (by decide) 0 2 2 (by decide) rfl (by decide) (by decide)).mono fun _ _ k => ⟨k.1, WW.step k2 k3 k.2⟩
 }
 have A3 := Lib.hid A3
 clear hW U2
 go_wp2_with fail
 refine A3.out.mono ?_
 rintro _ w5 ⟨rfl, hW⟩
 have U3 := ww_until hW 1 3 (by omega) (by omega)
 rw [ex_until3.1, ex_until3.2.1, show (exW 6 exS3 exQ3 exG3).s = exS3 from rfl, ex_until3.2.2] at U3
 have U3 := Lib.hid U3
 clear hW A3
 go_wp2_with fail
 refine U3.out.mono ?_
 rintro _ w6 ⟨rfl, hW⟩
 have A4 : Calls Tryz.prog 21 #[wptr pw, recA 4 5 1 9] w6 fun e w' => e = .returned (.int .i64 12) ∧ WW w w' pw (exW 6 exS3 exQ3 exG3) := by {
 obtain ⟨K, k1, k2, k3⟩ := hW
 exact (ex_add_no k1 (by omega) (by omega) 12 (by omega) ex_no9).mono fun _ _ k => ⟨k.1, WW.step k2 k3 k.2⟩
 }
 have A4 := Lib.hid A4
 clear hW U3
 go_wp2_with fail
 refine A4.out.mono ?_
 rintro _ w7 ⟨rfl, hW⟩
 have A5 : Calls Tryz.prog 21 #[wptr pw, recA 4 5 1 10] w7 fun e w' => e = .returned (.int .i64 11) ∧ WW w w' pw (exW 6 exS3 exQ3 exG3) := by {
 obtain ⟨K, k1, k2, k3⟩ := hW
 exact (ex_add_no k1 (by omega) (by omega) 11 (by omega) ex_no10).mono fun _ _ k => ⟨k.1, WW.step k2 k3 k.2⟩
 }
 have A5 := Lib.hid A5
 clear hW A4
 go_wp2_with fail
 refine A5.out.mono ?_
 rintro _ w8 ⟨rfl, hW⟩
 have C := ww_count hW
 rw [ex_comps.1, show (exW 6 exS3 exQ3 exG3).s = exS3 from rfl, ex_comps.2.1, ex_comps.2.2] at C
 have C := Lib.hid C
 clear hW A5
 go_wp2_with fail
 refine C.out.mono ?_
 rintro _ w9 ⟨rfl, hW⟩
 have N := ww_now hW
 rw [show (exW 6 exS3 exQ3 exG3).now = 6 from rfl] at N
 have N := Lib.hid N
 have HF := Lib.hid hW.fr
 clear hW C
 go_wp2_with fail
 refine N.out.mono ?_
 rintro _ w9 ⟨rfl, rfl⟩
 clear N
 go_wp2
 go_ret
 exact ⟨rfl, HF.out⟩
end Go.Proofs.YtgmnemndjjmgkaaGreat

/- A window after moves. -/
namespace Go.Proofs.YtgmnemndjjmgkaaGreat
open Go.RowKit
set_option maxRecDepth 10000
set_option maxHeartbeats 1600000
theorem flat_move37 : Flat Tryz.prog 71 [.i .u8, .i .u8, .i .u8, .i .i8] := by
 refine Flat.struct Tryz.underlying71 (by kernel_rfl) (fun j k hj => ?_)
 have hi : Flat Tryz.prog 5 [.i .u8] := Flat.int Tryz.underlying5 (by kernel_rfl)
 have hb : Flat Tryz.prog 69 [.i .i8] := Flat.int Tryz.underlying69 (by kernel_rfl)
 match j, hj with
 | 0, hj => exact ⟨0, _, _, rfl, hi, by decide, hj⟩
 | 1, hj => exact ⟨1, _, _, rfl, hi, by decide, hj⟩
 | 2, hj => exact ⟨2, _, _, rfl, hi, by decide, hj⟩
 | 3, hj => exact ⟨3, _, _, rfl, hb, by decide, hj⟩
 | j + 4, hj => simp at hj
def MovesW (w : World) (a : Option Addr) (len : Nat) (z : Nat → Nat × Nat × Nat × Int) : Prop :=
  len ≤ 9223372036854775807 ∧ ∀ i, i < len → ∃ b off, a = some ⟨b, off, none⟩ ∧ b < w.heap.size ∧ w.cell? ⟨b, off + i * 4, none⟩ = some (.int .u8 (z i).1) ∧ w.cell? ⟨b, off + i * 4 + 1, none⟩ = some (.int .u8 (z i).2.1) ∧
    w.cell? ⟨b, off + i * 4 + 2, none⟩ = some (.int .u8 (z i).2.2.1) ∧ w.cell? ⟨b, off + i * 4 + 3, none⟩ = some (.int .i8 (z i).2.2.2) ∧ (z i).1 < 256 ∧ (z i).2.1 < 256 ∧ (z i).2.2.1 < 256 ∧ -128 ≤ (z i).2.2.2 ∧ (z i).2.2.2 ≤ 127
theorem u8_wf {a : Int} (h : (Lit.int .u8 a).wf = true) : ∃ n : Nat, a = n ∧ n < 256 := by
 have h : (decide ((0 : Int) ≤ a) && decide (a ≤ 255)) = true := h
 simp only [Bool.and_eq_true, decide_eq_true_eq] at h
 exact ⟨a.toNat, by omega, by omega⟩
theorem i8_wf {a : Int} (h : (Lit.int .i8 a).wf = true) : -128 ≤ a ∧ a ≤ 127 := by
 have h : (decide ((-128 : Int) ≤ a) && decide (a ≤ 127)) = true := h
 simp only [Bool.and_eq_true, decide_eq_true_eq] at h
 exact h
theorem open_moves37 {H : Type} {enc : TypeId × Value → H} {W : World} {a : Option Addr} {len cap : Nat} {d : DataW H} {p : List MemPlace}
    (h : DataW.Trod enc Tryz.prog W 0 (fun _ => true) true 22 (.slice a len cap) d p) : ∃ z, MovesW W a len z := by
 obtain ⟨z, hz⟩ := open_flat Tryz.underlying22 flat_move37 (by decide) h
 have key : ∀ i, ∃ u : Nat × Nat × Nat × Int, i < len → z i 0 = .int .u8 u.1 ∧ z i 1 = .int .u8 u.2.1 ∧ z i 2 = .int .u8 u.2.2.1 ∧ z i 3 = .int .i8 u.2.2.2 ∧ u.1 < 256 ∧ u.2.1 < 256 ∧ u.2.2.1 < 256 ∧ -128 ≤ u.2.2.2 ∧ u.2.2.2 ≤ 127 := by {
 intro i
 by_cases hi : i < len
 {
 obtain ⟨b, off, rfl, _, h1⟩ := hz.2 i hi
 obtain ⟨n0, e0, w0⟩ := (h1 0 _ rfl).2
 obtain ⟨n1, e1, w1⟩ := (h1 1 _ rfl).2
 obtain ⟨n2, e2, w2⟩ := (h1 2 _ rfl).2
 obtain ⟨n3, e3, w3⟩ := (h1 3 _ rfl).2
 obtain ⟨m0, rfl, k0⟩ := u8_wf w0
 obtain ⟨m1, rfl, k1⟩ := u8_wf w1
 obtain ⟨m2, rfl, k2⟩ := u8_wf w2
 have k3 := i8_wf w3
 exact ⟨(m0, m1, m2, n3), fun _ => ⟨e0, e1, e2, e3, k0, k1, k2, k3.1, k3.2⟩⟩
 }
 · exact ⟨(0, 0, 0, 0), fun h => absurd h hi⟩
 }
 obtain ⟨F, hF⟩ := Classical.axiomOfChoice key
 refine ⟨F, hz.1, fun i hi => ?_⟩
 obtain ⟨b, off, rfl, hb, h1⟩ := hz.2 i hi
 obtain ⟨e0, e1, e2, e3, e4⟩ := hF i hi
 refine ⟨b, off, rfl, hb, ?_, ?_, ?_, ?_, e4⟩
 · rw [← e0]; exact (h1 0 _ rfl).1
 · rw [← e1]; exact (h1 1 _ rfl).1
 · rw [← e2]; exact (h1 2 _ rfl).1
 · rw [← e3]; exact (h1 3 _ rfl).1
structure Bg (W : Wm) (k : Nat) : Prop where
  m : W.m = 20
  E : W.E = 40
  V : W.V = 12
  D : W.D = 0
  now : W.now ≤ 3 * k
  id : ∀ e ∈ W.s.L, e.u < 12 ∧ e.v < 12
  last : W.s.last ≤ k
theorem Bg.new : Bg (Wm.new 20 40 12 0 0) 0 := ⟨rfl, rfl, rfl, rfl, by decide, fun e h => (by cases h), Nat.le_refl _⟩
theorem Bg.mono {W : Wm} {k j : Nat} (h : Bg W k) (hj : k ≤ j) : Bg W j := ⟨h.m, h.E, h.V, h.D, by have := h.now; omega, h.id, Nat.le_trans h.last hj⟩
theorem Bg.tick {W : Wm} {k : Nat} (h : Bg W k) {to : Int} (ht : to ≤ 3 * (k + 1 : Nat)) (ds : List Nat) (Q' : Nat → Option Int) : Bg (W.tick to ds Q') (k + 1) :=
  ⟨h.m, h.E, h.V, h.D, ht, fun e he => h.id e (rems_sub ds he), by
 show (W.s.rems ds).last ≤ _
 rw [(rems_keep W.s ds).2.2]; have := h.last; omega⟩
theorem Bg.put {W : Wm} {k : Nat} (h : Bg W k) {to : Int} (ht : to ≤ 3 * (k + 1 : Nat)) (ds : List Nat) (Q' : Nat → Option Int) {u v : Nat} (hu : u < 12) (hv : v < 12) (wt : Int) (a b : Nat) : Bg ((W.tick to ds Q').put u v wt a b) (k + 1) := by
 have h1 := h.tick ht ds Q'
 refine ⟨h.m, h.E, h.V, h.D, ht, fun e he => ?_, ?_⟩
 {
 have he' : e ∈ (W.s.rems ds).L ++ [(W.s.rems ds).edge u v wt to (to + W.m)] := he
 rw [List.mem_append, List.mem_singleton] at he'
 rcases he' with he' | rfl
 · exact h1.id e he'
 · exact ⟨hu, hv⟩
 }
 {
 show (W.s.rems ds).last + 1 ≤ _
 rw [(rems_keep W.s ds).2.2]; have := h.last; omega
 }
theorem chk_12 {s : Sm} (h : s.Ok) (hV : s.V = 12) (hid : ∀ e ∈ s.L, e.u < 12 ∧ e.v < 12) {u v : Nat} (hu : u < 12) (hv : v < 12) (hne : u ≠ v) : s.chk u v = 0 ∨ s.chk u v = 12 := by
 have hl : s.M.L.length + s.more u v ≤ 12 := by {
 have h1 : s.M.L.length + s.more u v = (withUV s.M u v).length := by rw [withUV_len]; rfl
 rw [h1]
 have := nodup_sub_len (m := List.range 12) (withUV_nodup h.md hne) (fun x hx => by
   rw [List.mem_range]
   rcases (withUV_mem h.md).1 hx with hx | rfl | rfl
   · obtain ⟨k, hk⟩ := List.exists_mem_of_ne_nil _ ((h.vert x).1 hx)
     obtain ⟨e, he, hat, _⟩ := mem_incL.1 hk
     have := hid e he
     simp only [Lv.at, Bool.or_eq_true, beq_iff_eq] at hat
     omega
   · exact hu
   · exact hv)
 simpa using this
 }
 unfold Sm.chk
 rw [if_neg hne]
 by_cases hE : s.E ≤ s.A.used
 · rw [if_pos hE]; exact .inr rfl
 · rw [if_neg hE, if_neg (by omega)]; exact .inl rfl
theorem begun_w (W : World) (a : Option Addr) (len cap : Nat) (z : Nat → Nat × Nat × Nat × Int) (hz : MovesW W a len z) (hlen : len ≤ 100) :
    Calls Tryz.prog 13 #[.slice a len cap] W fun e w' => ∃ pw X, e = .returned (wptr pw) ∧ WW W w' pw X ∧ Bg X len := by
 have HN := Lib.hid (ww_new (w0 := W) (wr := W) 20 0 40 12 (Fr.refl [] W) (by omega) (by omega) (by omega) (by omega) (by omega) (by omega) (by omega) (by omega))
 have HZ := Lib.hid hz; clear hz
 go_enter Tryz.func13, Tryz.ntmps13
 go_wp2_with fail
 refine HN.out.mono ?_
 rintro _ w1 ⟨pw, rfl, hS1⟩
 have HS1 := Lib.hid hS1; clear hS1 HN
 go_wp2_with fail
 go_loopw [5] (fun c wr => ∃ (k : Nat), k ≤ len ∧ c = .int .i64 k ∧ Hid (∃ X, WW W wr pw X ∧ Bg X k)) (fun c _ => len - (intOf c).toNat)
 case atStart => exact ⟨0, Nat.zero_le _, rfl, Lib.hid ⟨_, HS1.out, Bg.new⟩⟩
 case round =>
  obtain ⟨k, hk, rfl, HR⟩ := hrel
  clear HS1
  rename World => wr
  by_cases hkl : k < len
  {
  have hki : (k : Int) < len := by omega
  obtain ⟨X, hX, hB⟩ := HR.out
  obtain ⟨b, off, rfl, hb, m0, m1, m2, m3, l0, l1, l2, l3, l4⟩ := HZ.out.2 k hkl
  generalize (z k).1 = by_ at *
  generalize (z k).2.1 = mu at *
  generalize (z k).2.2.1 = mvv at *
  generalize (z k).2.2.2 = ms at *
  have hFW := hX.fr
  have n0 := hFW.cell m0 (by simp); have n1 := hFW.cell m1 (by simp); have n2 := hFW.cell m2 (by simp); have n3 := hFW.cell m3 (by simp)
  have HCe := Lib.hid (show ∀ w', Fr [] wr w' → w'.cell? ⟨b, off + k * 4, none⟩ = some (.int .u8 by_) ∧ w'.cell? ⟨b, off + k * 4 + 1, none⟩ = some (.int .u8 mu) ∧ w'.cell? ⟨b, off + k * 4 + 2, none⟩ = some (.int .u8 mvv) ∧ w'.cell? ⟨b, off + k * 4 + 3, none⟩ = some (.int .i8 ms) from fun w' hf => ⟨hf.cell n0 (by simp), hf.cell n1 (by simp), hf.cell n2 (by simp), hf.cell n3 (by simp)⟩)
  clear hFW m0 m1 m2 m3 n1 n2 n3
  have hn0 := hX.ok.n0
  have hnow := hB.now
  have hbw : IntKind.i64.wrap ((by_ : Int).tmod 4) = ((by_ % 4 : Nat) : Int) := by rw [Int.tmod_eq_emod_of_nonneg (by omega)]; simp [IntKind.wrap, IntKind.bits, IntKind.signed]; omega
  have hb4 : ((by_ : Int) % 4) = ((by_ % 4 : Nat) : Int) := by omega
  have hb3 : by_ % 4 < 4 := Nat.mod_lt _ (by omega)
  generalize by_ % 4 = dt at *
  obtain ⟨now, hnw⟩ : ∃ now, now = X.now := ⟨_, rfl⟩
  have hWn : Calls Tryz.prog 16 #[wptr pw] wr.drew fun e w' => e = .returned (.int .i64 now) ∧ w' = wr.drew := by rw [hnw]; exact ww_now (hX.fr0 (Fr.refl [] wr).drew)
  have HNow := Lib.hid hWn
  rw [← hnw] at hn0 hnow
  have HX := Lib.hid (And.intro hX (And.intro hB hnw))
  clear hX hB hnw hWn
  go_wp2_with fail
  go_region_held3 (fun w' => w'.cell? ⟨b, off + k * 4, none⟩ = some (.int .u8 by_))
    (first
      | with_reducible exact And.left (HCe.out _ (Fr.refl [] wr).drew)
      | go_keep)
    (first
      | (go_at_call 16; with_reducible refine Calls.mono HNow.out ?_; rintro _ w2 ⟨rfl, rfl⟩))
  rename_i hHH
  clear hHH
  obtain ⟨_, n1, n2, n3⟩ := HCe.out _ (Fr.refl [] wr).drew
  have hu12 : ((mu : Int) % 12) = ((mu % 12 : Nat) : Int) := by omega
  have hv12 : ((mvv : Int) % 12) = ((mvv % 12 : Nat) : Int) := by omega
  have hlu : mu % 12 < 12 := Nat.mod_lt _ (by omega)
  have hlv : mvv % 12 < 12 := Nat.mod_lt _ (by omega)
  have hwu : IntKind.u64.wrap ((mu : Int).tmod 12) = ((mu % 12 : Nat) : Int) := by rw [Int.tmod_eq_emod_of_nonneg (by omega)]; simp [IntKind.wrap, IntKind.bits, IntKind.signed]; omega
  have hwv : IntKind.u64.wrap ((mvv : Int).tmod 12) = ((mvv % 12 : Nat) : Int) := by rw [Int.tmod_eq_emod_of_nonneg (by omega)]; simp [IntKind.wrap, IntKind.bits, IntKind.signed]; omega
  generalize mu % 12 = u at *
  generalize mvv % 12 = v at *
  clear n0 HNow hbw hb4
  obtain ⟨t, ht⟩ : ∃ t, t = now + dt := ⟨_, rfl⟩
  rw [← ht]
  have hX2 := HX.out.1.fr0 (Fr.refl [] wr).drew
  clear HCe
  generalize wr.drew = w2 at *
  have HX2 := Lib.hid hX2
  clear hX2
  have Ht := Lib.hid (And.intro hn0 (And.intro hnow (And.intro hb3 ht)))
  have ht1 : 0 ≤ t := by omega
  have ht2 : t ≤ 3 * ((k + 1 : Nat) : Int) := by omega
  clear ht hnow hn0 hb3
  rw [show IntKind.i64.wrap t = t by simp [IntKind.wrap, IntKind.bits, IntKind.signed]; omega]
  go_wp2_with fail
  go_quiet (fail)
  have n3' := ((Fr.refl [] w2).drewN nq).cell n3 (by simp)
  have hX3 := HX2.out.fr0 ((Fr.refl [] w2).drewN nq)
  clear n1 n2 n3 hu12 hv12 hwu hwv HX2
  generalize w2.drewN nq = w3 at *
  have hct : chkT X.m X.now t = 0 := by {
  have h1 := Ht.out; have h2 := HX.out.2.2; have h3 := HX.out.2.1.m
  unfold chkT
  rw [if_neg (by omega)]
  unfold sumC
  exact if_pos (by omega)
  }
  have hok := hX3.ok
  obtain ⟨q1, q2⟩ := chkT_ok hct
  by_cases huv : u = v
  {
  subst huv
  have HT := Lib.hid (ww_tick hX3 t (by omega) (by omega) hct)
  clear hX3 n3' hct hok q1 q2
  go_wp2_with fail
  refine HT.out.mono ?_
  rintro _ w4 ⟨rfl, ds, Q', hm, hX4⟩
  have HX4 := Lib.hid hX4
  clear hm hX4 HT
  go_wp2_with fail
  go_roundw
  case rel => exact ⟨k + 1, by omega, by go_num, Lib.hid ⟨_, HX4.out, HX.out.2.1.tick ht2 ds Q'⟩⟩
  case measure => simp [intOf]; omega
  }
  {
  have HA := Lib.hid (ww_add hX3 u v (by omega) (by omega) huv ms t (by omega) (by omega) hct (by have := HX.out.2.1.last; omega))
  have HK := Lib.hid (And.intro hok (And.intro q1 q2))
  have hws : IntKind.i64.wrap ms = ms := by simp [IntKind.wrap, IntKind.bits, IntKind.signed]; omega
  have d1 : ((u : Int) == v) = false := by simp; omega
  have Huv := Lib.hid huv
  clear hX3 hct hok q1 q2 huv
  go_wp2_with fail
  refine HA.out.mono ?_
  rintro _ w4 ⟨c, rfl, ds, Q', hm, hres⟩
  have hc : c = 0 ∨ c = 12 := by {
  rcases hres with ⟨_, _, h1, _⟩ | ⟨h1, _⟩
  {
  have k1 := (Wm.tick_ok HK.out.1 HK.out.2.1 HK.out.2.2 hm).1
  have := chk_12 k1.ok (k1.hV.trans HX.out.2.1.V) (fun e he => HX.out.2.1.id e (rems_sub ds he)) hlu hlv Huv.out
  rw [h1]; exact this
  }
  · exact .inl h1
  }
  have hnew : ∃ Y, WW W w4 pw Y ∧ Bg Y (k + 1) := by {
  rcases hres with ⟨_, _, _, h1⟩ | ⟨_, _, a, b, _, _, h1⟩
  · exact ⟨X, h1, HX.out.2.1.mono (Nat.le_succ _)⟩
  · exact ⟨_, h1, HX.out.2.1.put ht2 ds Q' hlu hlv ms a b⟩
  }
  have HNew := Lib.hid hnew
  clear hm hres hnew HA n3' hws d1
  rcases hc with rfl | rfl
  all_goals
   go_wp2_with fail
   go_roundw
   case rel => exact ⟨k + 1, by omega, by go_num, HNew⟩
   case measure => simp [intOf]; omega
  }
  }
  {
  obtain rfl : k = len := by omega
  obtain ⟨X, hX⟩ := HR.out
  have HX := Lib.hid hX
  clear hX HR
  go_wp2
  go_ret
  exact ⟨pw, X, rfl, HX.out⟩
  }
end Go.Proofs.YtgmnemndjjmgkaaGreat

/- The plain model of a window: who is connected when the time goes on. -/
namespace Go.Proofs.YtgmnemndjjmgkaaGreat
open Go.RowKit
set_option maxRecDepth 10000
structure Wm.Later (W1 W2 : Wm) : Prop where
  G : ∀ i a b x, W2.G i = some (a, b, x) ↔ W1.G i = some (a, b, x) ∧ W2.now < x
  find : ∀ u j, W2.s.M.find u = some j → W1.s.M.find u = some j
theorem Cx.first {G : EMap} {U : Nat → Prop} {a b : Nat} (h : Cx G U a b) (hne : a ≠ b) : (∃ s c x, U s ∧ (G s = some (c, b, x) ∨ G s = some (b, c, x))) := by
 cases h with
 | refl => exact absurd rfl hne
 | step s x h1 h2 h3 => exact ⟨s, _, x, h2, h3⟩
end Go.Proofs.YtgmnemndjjmgkaaGreat

/- forest: how the laws' edges read, rows of Booleans, small. -/
namespace Go.Proofs.YtgmnemndjjmgkaaGreat
open Go.RowKit Classical
set_option maxRecDepth 10000
set_option maxHeartbeats 800000
end Go.Proofs.YtgmnemndjjmgkaaGreat

/- forest: the forest that the laws grow. -/
namespace Go.Proofs.YtgmnemndjjmgkaaGreat
open Go.RowKit Classical
set_option maxRecDepth 10000
set_option maxHeartbeats 1600000
section
variable {S V : Nat} {z : Nat → Int × Int × Int} {P P' : Nat → Prop} {i : Nat}
end
end Go.Proofs.YtgmnemndjjmgkaaGreat

/- forest: what is reached by rounds over a list of edges (plain law). -/
namespace Go.Proofs.YtgmnemndjjmgkaaGreat
open Classical
section
variable (use : Nat → Bool) (A B : Nat → Nat)
variable {use A B} {len n : Nat} {f : Nat → Bool}
end
end Go.Proofs.YtgmnemndjjmgkaaGreat

/- forest: reached, the laws' own. -/
namespace Go.Proofs.YtgmnemndjjmgkaaGreat
open Go.RowKit Classical
set_option maxRecDepth 10000
set_option maxHeartbeats 1600000
end Go.Proofs.YtgmnemndjjmgkaaGreat

/- forest: rows of slots; whether two are equal. -/
namespace Go.Proofs.YtgmnemndjjmgkaaGreat
open Go.RowKit Classical
set_option maxRecDepth 10000
set_option maxHeartbeats 800000
end Go.Proofs.YtgmnemndjjmgkaaGreat

/- forest: edges expire one after another (plain law); late edges. -/
namespace Go.Proofs.YtgmnemndjjmgkaaGreat
open Classical
section
variable {S V : Nat} {z : Nat → Int × Int × Int} {P : Nat → Prop} {D : Nat → Prop} {t m k : Nat}
end
end Go.Proofs.YtgmnemndjjmgkaaGreat

/- ForestLate: the walk. -/
namespace Go.Proofs.YtgmnemndjjmgkaaGreat
open Go.RowKit Classical
set_option maxRecDepth 10000
set_option maxHeartbeats 1600000
section
variable {W wr w' : World} {pf S V tb m : Nat} {G G' : EMap} {f : Nat → Bool} {L : List Nat}
end
end Go.Proofs.YtgmnemndjjmgkaaGreat

/- ForestUntil: the walk. -/
namespace Go.Proofs.YtgmnemndjjmgkaaGreat
open Go.RowKit Classical
set_option maxRecDepth 10000
set_option maxHeartbeats 1600000
section
variable {S V : Nat} {z : Nat → Int × Int × Int} {P : Nat → Prop} {a b : Nat} {T : Int}
end
end Go.Proofs.YtgmnemndjjmgkaaGreat

namespace Go.Proofs.YtgmnemndjjmgkaaGreat
open Go.RowKit Classical
set_option maxRecDepth 10000
set_option maxHeartbeats 800000
section
variable {W w wr : World} {pw : Nat} {X Y : Wm}
theorem ends_find {s : Sm} {u v : Nat} (h : endsC s u v = 0) : ∃ a b, s.M.find u = some a ∧ s.M.find v = some b ∧ endsI s u v = a ∧ endsI s v u = b := by
 unfold endsC at h
 by_cases h1 : (s.M.find u).isSome = true ∧ (s.M.find v).isSome = true
 {
 obtain ⟨a, ha⟩ := Option.isSome_iff_exists.1 h1.1
 obtain ⟨b, hb⟩ := Option.isSome_iff_exists.1 h1.2
 refine ⟨a, b, ha, hb, ?_, ?_⟩
 · unfold endsI; rw [if_pos h1, ha]; rfl
 · unfold endsI; rw [if_pos ⟨h1.2, h1.1⟩, hb]; rfl
 }
 · rw [if_neg h1] at h; cases h
theorem find_lt {s : Sm} (h : s.Ok) {V u a : Nat} (hV : s.V = V) (hu : s.M.find u = some a) : inV V a = true := by
 have := Sm.idx_lt h hu
 simp [inV]; omega
theorem conn_find (hok : X.Ok) {u v a b : Nat} (hu : X.s.M.find u = some a) (hv : X.s.M.find v = some b) : endsC X.s u v = 0 ∧ wconnB (X.wp 0) u v = decide (Cx X.G (fun _ => True) a b) := by
 have h0 : endsC X.s u v = 0 := by unfold endsC; rw [if_pos (by simp [hu, hv])]
 have hi : endsI X.s u v = a := by unfold endsI; rw [if_pos (by simp [hu, hv]), hu]; rfl
 have hj : endsI X.s v u = b := by unfold endsI; rw [if_pos (by simp [hu, hv]), hv]; rfl
 refine ⟨h0, ?_⟩
 unfold wconnB
 rw [show (X.wp 0).s = X.s from rfl, if_pos h0, hi, hj]
 show connG X.V X.G a b = _
 unfold connG
 rw [find_lt hok.ok hok.hV hu, find_lt hok.ok hok.hV hv]
 simp
end
end Go.Proofs.YtgmnemndjjmgkaaGreat
