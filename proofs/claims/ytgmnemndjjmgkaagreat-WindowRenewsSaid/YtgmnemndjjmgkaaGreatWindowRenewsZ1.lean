/- The statement 'WindowRenews': for every input the call returns true, and each argument reads afterwards as it read before. -/
import Derived.Test.YtgmnemndjjmgkaaGreatB13
import Derived.Test.YtgmnemndjjmgkaaGreatB16
import Derived.Test.YtgmnemndjjmgkaaGreatB1
import Derived.Test.YtgmnemndjjmgkaaGreatB5
set_option linter.unusedSimpArgs false
set_option linter.unusedVariables false
/- Windows that are nil, or were not made: their contracts. -/
namespace Go.Proofs.YtgmnemndjjmgkaaGreat
open Go.RowKit
set_option maxRecDepth 10000
set_option maxHeartbeats 800000
section
variable {w : World} {v : Value}
end
def cfEq (a b c d a' b' c' d' : Int) : Bool := (a == a') && (b == b') && (c == c') && (d == d')
theorem cfEq_self (a b c d : Int) : cfEq a b c d a b c d = true := by simp [cfEq]
@[go_sem high] theorem eqIn_cfg37 (a b c d a' b' c' d' : Int) (w : World) : (Op.equalIn 10000 55 (.agg #[.int .i64 a, .int .i64 b, .int .i64 c, .int .i64 d]) (.agg #[.int .i64 a', .int .i64 b', .int .i64 c', .int .i64 d'])).run Tryz.prog w = .ok (cfEq a b c d a' b' c' d') w := by
 rw [show (10000 : Nat) = 9999 + 1 from rfl, run_equalIn_struct w 9999 _ _ _ (by kernel_rfl) (by kernel_rfl)]
 unfold cfEq
 simp only [Program.fieldsOf, Tryz.underlying55, Op.eqFields]
 go_simp
 by_cases h1 : a = a' <;> by_cases h2 : b = b' <;> by_cases h3 : c = c' <;> by_cases h4 : d = d' <;> simp [h1, h2, h3, h4]
@[go_sem] theorem guard_cfg37 (op : BinOp) (x y : Operand) (xs ys : Array Value) (w : World) : (eqGuard op 55 x y (.agg xs) (.agg ys)).run Tryz.prog w = .ok () w := run_eqGuard_agg w op 55 x y xs ys (by kernel_rfl)
set_option maxHeartbeats 1600000
theorem Ob.ids_le {o : Ob} (h : o.Ok) : (idsL o.L).length ≤ 65536 := by have := h.leV; have := h.mV; omega
theorem alike_w {W wr : World} {p q : Nat} {o : Ob} {ts : List Th} (h : Wd W wr (thO p o :: thO q o :: ts)) (hE : o.E = 40) :
    Calls Tryz.prog 34 #[wptr p, wptr q] wr fun e w' => e = .returned (.bool true) ∧ Wd W w' (thO p o :: thO q o :: ts) := by
 have HO := Lib.hid h.ob
 have H := Lib.hid (td_count h)
 have HW := Lib.hid h
 have HE := Lib.hid hE
 clear h hE
 go_enter Tryz.func34, Tryz.ntmps34
 go_wp2_with fail
 refine H.out.mono ?_
 rintro _ w1 ⟨rfl, hF⟩
 have hW := (HW.out.fr0 hF).swap
 have H := Lib.hid (td_count hW)
 have HW := Lib.hid hW
 clear hF hW
 go_wp2_with fail
 refine H.out.mono ?_
 rintro _ w1 ⟨rfl, hF⟩
 have hW := (HW.out.fr0 hF).swap
 have H := Lib.hid (td_added hW)
 have HW := Lib.hid hW
 clear hF hW
 go_wp2_with fail
 refine H.out.mono ?_
 rintro _ w1 ⟨rfl, hF⟩
 have hW := (HW.out.fr0 hF).swap
 have H := Lib.hid (td_added hW)
 have HW := Lib.hid hW
 clear hF hW
 go_wp2_with fail
 refine H.out.mono ?_
 rintro _ w1 ⟨rfl, hF⟩
 have hW := (HW.out.fr0 hF).swap
 have H := Lib.hid (td_now hW)
 have H2 := Lib.hid (td_now hW.swap)
 have H3 := Lib.hid (td_config hW)
 have HW := Lib.hid hW
 clear hF hW
 go_wp2_with fail
 refine H.out.mono ?_
 rintro _ w1 ⟨rfl, rfl⟩
 go_wp2_with fail
 refine H2.out.mono ?_
 rintro _ w1 ⟨rfl, rfl⟩
 go_wp2_with fail
 refine H3.out.mono ?_
 rintro _ w2 ⟨rfl, hF⟩
 have hW := (HW.out.fr0 hF).swap
 have H := Lib.hid (td_config hW)
 have HW := Lib.hid hW
 have hcf := cfEq_self o.m o.E o.V o.D
 clear hF hW H2 H3
 go_wp2_with fail
 refine H.out.mono ?_
 rintro _ w1 ⟨rfl, hF⟩
 have hW := (HW.out.fr0 hF).swap
 have H := Lib.hid (td_version hW)
 have HW := Lib.hid hW
 clear hF hW
 go_wp2_with fail
 refine H.out.mono ?_
 rintro _ w1 ⟨rfl, hF⟩
 have hW := (HW.out.fr0 hF).swap
 have H := Lib.hid (td_version hW)
 have HW := Lib.hid hW
 clear hF hW
 go_wp2_with fail
 refine H.out.mono ?_
 rintro _ w1 ⟨rfl, hF⟩
 have hW := (HW.out.fr0 hF).swap
 have H := Lib.hid (td_live hW)
 clear hF hW HW hcf
 go_wp2_with fail
 refine H.out.mono ?_
 rintro _ w1 ⟨v1, l1, rfl, hl1, hW⟩
 have H := Lib.hid (td_live hW.third)
 have HL1 := Lib.hid hl1
 clear hW hl1
 go_wp2_with fail
 refine H.out.mono ?_
 rintro _ w1 ⟨v2, l2, rfl, hl2, hW⟩
 have HL2 := Lib.hid hl2
 have hr1 := hW.third.rowV
 have hr2 := hW.rowV
 have hl := HO.out.leE
 have hlen1 : l1.length = o.L.length := by rw [← HL1.out.1, List.length_map]
 have hlen2 : l2.length = o.L.length := by rw [← HL2.out.1, List.length_map]
 have hE := HE.out
 have H := Lib.hid (lives_w (n := 40) hr1 hr2 (HL1.out.1.trans HL2.out.1.symm) HL1.out.2.1 (fun e he => by have := HL1.out.2.2 e he; rw [hE] at this; exact this) (by omega))
 have HW := Lib.hid (hW.drop.drop2.swap)
 clear hW hl2 hr1 hr2 hl hlen1 hlen2 hE
 go_wp2_with fail
 refine H.out.mono ?_
 rintro _ w1 ⟨rfl, hF⟩
 have hW := (HW.out.fr0 hF).swap
 have H := Lib.hid (td_live hW)
 clear hF hW HW HL1 HL2
 go_wp2_with fail
 refine H.out.mono ?_
 rintro _ w1 ⟨v1, l1, rfl, hl1, hW⟩
 have H := Lib.hid (td_live hW.third)
 have HL1 := Lib.hid hl1
 clear hW hl1
 go_wp2_with fail
 refine H.out.mono ?_
 rintro _ w1 ⟨v2, l2, rfl, hl2, hW⟩
 have HL2 := Lib.hid hl2
 have hr1 := hW.third.rowV
 have hr2 := hW.rowV
 have hl := HO.out.leE
 have hlen1 : l1.length = o.L.length := by rw [← HL1.out.1, List.length_map]
 have hlen2 : l2.length = o.L.length := by rw [← HL2.out.1, List.length_map]
 have hE := HE.out
 have H := Lib.hid (lives_w (n := 40) hr1 hr2 (HL1.out.1.trans HL2.out.1.symm) HL1.out.2.1 (fun e he => by have := HL1.out.2.2 e he; rw [hE] at this; exact this) (by omega))
 have HW := Lib.hid (hW.drop.drop2)
 clear hW hl2 hr1 hr2 hl hlen1 hlen2 hE
 go_wp2_with fail
 refine H.out.mono ?_
 rintro _ w1 ⟨rfl, hF⟩
 have hW := HW.out.fr0 hF
 have H := Lib.hid (td_ids hW)
 clear hF hW HW HL1 HL2
 go_wp2_with fail
 refine H.out.mono ?_
 rintro _ w1 ⟨v1, rfl, hW⟩
 have H := Lib.hid (td_ids hW.third)
 clear hW
 go_wp2_with fail
 refine H.out.mono ?_
 rintro _ w1 ⟨v2, rfl, hW⟩
 have H := Lib.hid (ids37_w hW.third.rowU hW.rowU (Ob.ids_le HO.out))
 have HW := Lib.hid (hW.drop.drop2.swap)
 clear hW
 go_wp2_with fail
 refine H.out.mono ?_
 rintro _ w1 ⟨rfl, hF⟩
 have HW1 := Lib.hid (HW.out.fr0 hF)
 clear hF H HW HE
 go_wp2_with fail
 go_loopw [15] (fun c wr => ∃ (u : Nat), u ≤ 12 ∧ c = .int .u64 u ∧ Hid (Wd W wr (thO p o :: thO q o :: ts))) (fun c _ => 12 - (intOf c).toNat)
 case atStart => exact ⟨0, by omega, rfl, HW1⟩
 case round =>
  obtain ⟨u, hu, rfl, HR⟩ := hrel
  clear HW1
  rename World => wr
  by_cases hu12 : u < 12
  {
  have hui : (u : Int) < 12 := by omega
  have hw5 : IntKind.u64.wrap ((u : Int) + 5) = ((u + 5 : Nat) : Int) := by simp [IntKind.wrap, IntKind.bits, IntKind.signed]; omega
  have hw12 : IntKind.u64.wrap (((u + 5 : Nat) : Int).tmod 12) = (((u + 5) % 12 : Nat) : Int) := by rw [Int.tmod_eq_emod_of_nonneg (by omega)]; simp [IntKind.wrap, IntKind.bits, IntKind.signed]; omega
  have hm12 : (((u + 5 : Nat) : Int) % 12) = (((u + 5) % 12 : Nat) : Int) := by omega
  have hlt : (u + 5) % 12 < 12 := Nat.mod_lt _ (by omega)
  have hS := td_size HR.out u (by omega)
  have H := Lib.hid hS
  clear hS
  obtain ⟨x, hx⟩ : ∃ x, x = u + 5 := ⟨_, rfl⟩
  rw [← hx] at hw5 hw12 hm12 hlt
  clear hx
  obtain ⟨v, hv⟩ : ∃ v, v = x % 12 := ⟨_, rfl⟩
  rw [← hv] at hw12 hm12 hlt
  clear hv
  go_wp2_with fail
  refine H.out.mono ?_
  rintro _ w1 ⟨rfl, hW⟩
  have H := Lib.hid (td_size hW.swap u (by omega))
  clear hW
  go_wp2_with fail
  refine H.out.mono ?_
  rintro _ w1 ⟨rfl, hW⟩
  have H := Lib.hid (td_until hW.swap u v (by omega) (by omega))
  clear hW
  go_wp2_with fail
  refine H.out.mono ?_
  rintro _ w1 ⟨rfl, hW⟩
  have H := Lib.hid (td_until hW.swap u v (by omega) (by omega))
  clear hW
  go_wp2_with fail
  refine H.out.mono ?_
  rintro _ w1 ⟨rfl, hW⟩
  have HN := Lib.hid hW.swap
  clear hW H hw5 hw12 hm12 hlt
  go_wp2_with fail
  go_roundw
  case rel => exact ⟨u + 1, by omega, by go_num, HN⟩
  case measure => simp [intOf]; omega
  }
  {
  obtain rfl : u = 12 := by omega
  go_wp2
  go_ret
  exact ⟨rfl, HR.out⟩
  }
def cfgB (m E V D : Int) : Bool := decide (m ≥ 1) && (decide (E ≥ 1) && (decide (E ≤ 16384) && (decide (V ≥ 2) && (decide (V ≤ 4096) && (decide (D ≥ 0) && decide (D ≤ 16384))))))
theorem cfgB_iff {m E V D : Int} : cfgB m E V D = true ↔ 1 ≤ m ∧ 1 ≤ E ∧ E ≤ 16384 ∧ 2 ≤ V ∧ V ≤ 4096 ∧ 0 ≤ D ∧ D ≤ 16384 := by
 simp [cfgB]
theorem isConfig_w (m E V D : Int) (w : World) : Calls Tryz.prog 119 #[.agg #[.int .i64 m, .int .i64 E, .int .i64 V, .int .i64 D]] w fun e w' => e = .returned (.bool (cfgB m E V D)) ∧ Fr [] w w' := by
 have HF := Lib.hid ((Fr.refl [] w).alloc (.cells #[.int .i64 m, .int .i64 E, .int .i64 V, .int .i64 D] 55))
 unfold cfgB
 by_cases h0 : m ≥ 1
 {
 have d0 : decide (m ≥ 1) = true := decide_eq_true h0
 by_cases h1 : E ≥ 1
 {
 have d1 : decide (E ≥ 1) = true := decide_eq_true h1
 by_cases h2 : E ≤ 16384
 {
 have d2 : decide (E ≤ 16384) = true := decide_eq_true h2
 by_cases h3 : V ≥ 2
 {
 have d3 : decide (V ≥ 2) = true := decide_eq_true h3
 by_cases h4 : V ≤ 4096
 {
 have d4 : decide (V ≤ 4096) = true := decide_eq_true h4
 by_cases h5 : D ≥ 0
 {
 have d5 : decide (D ≥ 0) = true := decide_eq_true h5
 by_cases h6 : D ≤ 16384
 {
 have d6 : decide (D ≤ 16384) = true := decide_eq_true h6
 rw [d0, d1, d2, d3, d4, d5, d6]
 clear h0 h1 h2 h3 h4 h5 h6
 go_enter Tryz.func119, Tryz.ntmps119
 go_wp2
 go_ret
 exact ⟨rfl, HF.out⟩
 }
 {
 have d6 : decide (D ≤ 16384) = false := decide_eq_false h6
 rw [d0, d1, d2, d3, d4, d5, d6]
 clear h0 h1 h2 h3 h4 h5 h6
 go_enter Tryz.func119, Tryz.ntmps119
 go_wp2
 go_ret
 exact ⟨rfl, HF.out⟩
 }
 }
 {
 have d5 : decide (D ≥ 0) = false := decide_eq_false h5
 rw [d0, d1, d2, d3, d4, d5]
 clear h0 h1 h2 h3 h4 h5
 go_enter Tryz.func119, Tryz.ntmps119
 go_wp2
 go_ret
 exact ⟨rfl, HF.out⟩
 }
 }
 {
 have d4 : decide (V ≤ 4096) = false := decide_eq_false h4
 rw [d0, d1, d2, d3, d4]
 clear h0 h1 h2 h3 h4
 go_enter Tryz.func119, Tryz.ntmps119
 go_wp2
 go_ret
 exact ⟨rfl, HF.out⟩
 }
 }
 {
 have d3 : decide (V ≥ 2) = false := decide_eq_false h3
 rw [d0, d1, d2, d3]
 clear h0 h1 h2 h3
 go_enter Tryz.func119, Tryz.ntmps119
 go_wp2
 go_ret
 exact ⟨rfl, HF.out⟩
 }
 }
 {
 have d2 : decide (E ≤ 16384) = false := decide_eq_false h2
 rw [d0, d1, d2]
 clear h0 h1 h2
 go_enter Tryz.func119, Tryz.ntmps119
 go_wp2
 go_ret
 exact ⟨rfl, HF.out⟩
 }
 }
 {
 have d1 : decide (E ≥ 1) = false := decide_eq_false h1
 rw [d0, d1]
 clear h0 h1
 go_enter Tryz.func119, Tryz.ntmps119
 go_wp2
 go_ret
 exact ⟨rfl, HF.out⟩
 }
 }
 {
 have d0 : decide (m ≥ 1) = false := decide_eq_false h0
 rw [d0]
 clear h0
 go_enter Tryz.func119, Tryz.ntmps119
 go_wp2
 go_ret
 exact ⟨rfl, HF.out⟩
 }
def liveB (m now t : Int) : Bool := decide (t ≤ now ∧ t + m ≤ 9223372036854775807 ∧ now < t + m)
theorem clive_w {w : World} {pc : Nat} {m now : Int} (h : Clk w pc m now) (t : Int) (ht : -9223372036854775808 ≤ t) (ht2 : t ≤ 9223372036854775807) :
    Calls Tryz.prog 69 #[cptr pc, .int .i64 t] w fun e w' => e = .returned (.bool (liveB m now t)) ∧ Fr [] w w' := by
 have HV := Lib.hid (cvalid_w h)
 have HA := Lib.hid (after_w h.m1 h.m2 t ht ht2 w)
 have c0 := h.hd.cell 0
 have c1 := h.hd.cell 1
 simp only [List.getElem?_cons_zero, List.getElem?_cons_succ] at c0 c1
 clear h
 by_cases h1 : t ≤ now
 {
 have d1 : decide (t > now) = false := decide_eq_false (by omega)
 by_cases h2 : t + m ≤ 9223372036854775807
 {
 have e1 : sumC t m = 0 := if_pos h2
 have e2 : sumV t m = t + m := if_pos h2
 rw [e1, e2] at HA
 have e3 : liveB m now t = decide (now < t + m) := decide_eq_decide.2 ⟨fun h => h.2.2, fun h => ⟨h1, h2, h⟩⟩
 rw [e3]
 clear e1 e2 e3 h1 h2
 generalize t + m = x at *
 go_enter Tryz.func69, Tryz.ntmps69
 go_wp2_with fail
 refine HV.out.mono ?_
 rintro _ w ⟨rfl, rfl⟩
 go_wp2_with fail
 refine HA.out.mono ?_
 rintro _ w ⟨rfl, rfl⟩
 go_wp2
 go_ret
 exact ⟨rfl, Fr.refl _ _⟩
 }
 {
 have e1 : sumC t m = 7 := if_neg h2
 rw [e1] at HA
 have e3 : liveB m now t = false := decide_eq_false fun h => h2 h.2.1
 rw [e3]
 clear e1 e3 h1 h2
 generalize sumV t m = x at *
 go_enter Tryz.func69, Tryz.ntmps69
 go_wp2_with fail
 refine HV.out.mono ?_
 rintro _ w ⟨rfl, rfl⟩
 go_wp2_with fail
 refine HA.out.mono ?_
 rintro _ w ⟨rfl, rfl⟩
 go_wp2
 go_ret
 exact ⟨rfl, Fr.refl _ _⟩
 }
 }
 {
 have d1 : decide (t > now) = true := decide_eq_true (by omega)
 have e3 : liveB m now t = false := decide_eq_false fun h => h1 h.1
 rw [e3]
 clear h1 e3 HA
 go_enter Tryz.func69, Tryz.ntmps69
 go_wp2_with fail
 refine HV.out.mono ?_
 rintro _ w ⟨rfl, rfl⟩
 go_wp2
 go_ret
 exact ⟨rfl, Fr.refl _ _⟩
 }
theorem wfrom_no (m D E V : Int) (g : Nat) (w : World) (h : cfgB m E V D = false) :
    Calls Tryz.prog 68 #[.agg #[.int .i64 m, .int .i64 E, .int .i64 V, .int .i64 D], .int .u64 g] w fun e w' => e = .returned (.tuple #[.pointer none, .int .i64 2]) ∧ Fr [] w w' := by
 have HC := isConfig_w m E V D (w.alloc (.cells #[.int .i64 m, .int .i64 E, .int .i64 V, .int .i64 D] 55))
 rw [h] at HC
 have HC := Lib.hid HC
 have hb := Blk.new w [.int .i64 m, .int .i64 E, .int .i64 V, .int .i64 D] 55
 have x0 := hb.cell 0; have x1 := hb.cell 1; have x2 := hb.cell 2; have x3 := hb.cell 3
 simp only [List.getElem?_cons_zero, List.getElem?_cons_succ] at x0 x1 x2 x3
 clear hb h
 go_enter Tryz.func68, Tryz.ntmps68
 go_wp2_with fail
 refine HC.out.mono ?_
 rintro _ w1 ⟨rfl, hF⟩
 have HF := Lib.hid (((Fr.refl [] w).alloc _).trans' hF)
 clear hF x0 x1 x2 x3
 go_wp2
 go_ret2
 exact ⟨rfl, HF.out⟩
def Wm.putT (W : Wm) (u v : Nat) (wt t : Int) (a b : Nat) : Wm := { W with s := W.s.ins u v wt t (t + W.m), Q := fun j => if j = W.s.slot then some (t + W.m) else W.Q j, G := fun j => if j = W.s.slot then some (a, b, t + W.m) else W.G j }
theorem Wm.putT_ok {W : Wm} (h : W.Ok) {u v : Nat} (hu : u < 18446744073709551616) (hv : v < 18446744073709551616) (wt t : Int) (h0 : 0 ≤ t) (h1 : t ≤ W.now) (h2 : W.now < t + W.m) (hlt : ∀ e ∈ W.s.L, e.t ≤ t) (hc : W.s.chk u v = 0) (hl : W.s.last < 9223372036854775807) {a b : Nat}
    (ha : (W.s.ins u v wt t (t + W.m)).M.find u = some a) (hb : (W.s.ins u v wt t (t + W.m)).M.find v = some b) : (W.putT u v wt t a b).Ok := by
 have hL : (W.putT u v wt t a b).s.L = W.s.L ++ [W.s.edge u v wt t (t + W.m)] := rfl
 refine ⟨Sm.ok_ins h.ok hu hv hc (by omega) wt t (t + W.m), h.hV, h.hE, h.lk.ins h.ok hu hv hc wt t (t + W.m) ha hb, fun e he => ?_, ?_, fun i hi => ?_, ?_, ?_, h.m1, h.m2, h.n0, h.n1⟩
 {
 rw [hL, List.mem_append, List.mem_singleton] at he
 rcases he with he | rfl
 · exact h.x e he
 · exact ⟨rfl, h0, h1, h2⟩
 }
 {
 rw [hL, List.pairwise_append]
 exact ⟨h.mono, by simp, fun d hd e he => by
   rw [List.mem_singleton] at he; subst he
   exact hlt d hd⟩
 }
 {
 have hi' : i < (W.s.L ++ [W.s.edge u v wt t (t + W.m)]).length := hi
 show ((W.s.L ++ [W.s.edge u v wt t (t + W.m)])[i]'hi').seq = W.gone + i + 1
 rw [List.getElem_append]
 split
 · exact h.num i _
 {
 have : i = W.s.L.length := by simp at hi'; omega
 subst this
 simp only [Nat.sub_self, List.getElem_singleton]
 show W.s.last + 1 = _
 rw [h.last]
 }
 }
 {
 show W.s.last + 1 = W.gone + (W.s.L ++ [W.s.edge u v wt t (t + W.m)]).length
 rw [h.last]; simp; omega
 }
 {
 show W.s.last + 1 ≤ _
 omega
 }
def Ob.putT (o : Ob) (u v : Nat) (wt t : Int) : Ob := { o with L := o.L ++ [⟨0, o.last + 1, u, v, wt, t, t + o.m⟩], last := o.last + 1 }
theorem ob_putT {W : Wm} (u v : Nat) (wt t : Int) (a b : Nat) : (W.putT u v wt t a b).ob = W.ob.putT u v wt t := by
 show Ob.mk _ _ _ _ _ ((W.s.L ++ [W.s.edge u v wt t (t + W.m)]).map core) (W.s.last + 1) _ = _
 rw [List.map_append]
 rfl
def Ob.chkO (o : Ob) (u v : Nat) : Nat := if u = v then 9 else if o.E ≤ o.L.length then 12 else if o.V < (Ob.idsUV o.L u v).length then 11 else 0
theorem chkO_ob {W : Wm} (h : W.Ok) (u v : Nat) : W.s.chk u v = W.ob.chkO u v := by
 by_cases hne : u = v
 · unfold Sm.chk Ob.chkO; rw [if_pos hne, if_pos hne]
 · rw [chk_ob h u v hne]; unfold Ob.chkO; rw [if_neg hne]; rfl
abbrev R4 := Nat × Nat × Int × Int
def Ob.resOk (o : Ob) (last : Int) (r : R4) : Bool := decide (last ≤ r.2.2.2) && (liveB o.m o.now r.2.2.2 && decide (o.chkO r.1 r.2.1 = 0))
def Ob.resL : Ob → Int → List R4 → Option Ob
  | o, _, [] => some o
  | o, last, r :: rs => if o.resOk last r = true then (o.putT r.1 r.2.1 r.2.2.1 r.2.2.2).resL r.2.2.2 rs else none
def Ob.at (m : Int) (E V : Nat) (D : Int) (now : Int) (g : Nat) : Ob := ⟨m, E, V, D, now, [], g, g⟩
def resO (m E V D now : Int) (g : Nat) (l : List R4) : Option Ob :=
  if g ≤ 9223372036854775807 ∧ cfgB m E V D = true ∧ (l.length : Int) ≤ E ∧ l.length ≤ 9223372036854775807 - g ∧ chkT m 0 now = 0 then (Ob.at m E.toNat V.toNat D now g).resL 0 l else none
set_option maxHeartbeats 3200000
def RcW (w : World) (a : Option Addr) (l : List R4) : Prop :=
  ∀ i (hi : i < l.length), ∃ b off, a = some ⟨b, off, none⟩ ∧ b < w.heap.size ∧ w.cell? ⟨b, off + i * 4, none⟩ = some (.int .u64 l[i].1) ∧ w.cell? ⟨b, off + i * 4 + 1, none⟩ = some (.int .u64 l[i].2.1) ∧
    w.cell? ⟨b, off + i * 4 + 2, none⟩ = some (.int .i64 l[i].2.2.1) ∧ w.cell? ⟨b, off + i * 4 + 3, none⟩ = some (.int .i64 l[i].2.2.2)
def R4.ok (r : R4) : Prop := r.1 < 18446744073709551616 ∧ r.2.1 < 18446744073709551616 ∧ -9223372036854775808 ≤ r.2.2.2 ∧ r.2.2.2 ≤ 9223372036854775807
def RsI (w wr : World) (p : Nat) (last : Int) (l : List R4) (R : Option Ob) : Prop := ∃ X K, WinAt wr p X K ∧ Fr [] w wr ∧ (∀ q ∈ K, w.heap.size ≤ q) ∧ (∀ e ∈ X.s.L, e.t ≤ last) ∧ 0 ≤ last ∧ X.s.L.length + l.length ≤ X.E ∧ X.s.last + l.length ≤ 9223372036854775807 ∧ X.ob.resL last l = R
def RsE (w w' : World) (R : Option Ob) (e : Ending) : Prop := match R with
  | none => e = .returned (.tuple #[.pointer none, .int .i64 2]) ∧ Fr [] w w'
  | some o => ∃ p X K, e = .returned (.tuple #[wptr p, .int .i64 0]) ∧ X.ob = o ∧ WinAt w' p X K ∧ Fr [] w w' ∧ ∀ q ∈ K, w.heap.size ≤ q
theorem wres_w (m E V D now : Int) (g : Nat) (a : Option Addr) (cap : Nat) (l : List R4) (w : World) (hg : g < 18446744073709551616) (hn1 : -9223372036854775808 ≤ now) (hn2 : now ≤ 9223372036854775807) (hm2 : m ≤ 9223372036854775807)
    (hl : l.length ≤ 9223372036854775807) (hrow : RcW w a l) (hok : ∀ r ∈ l, r.ok) :
    Calls Tryz.prog 32 #[.agg #[.int .i64 m, .int .i64 E, .int .i64 V, .int .i64 D], .int .i64 now, .int .u64 g, .slice a l.length cap] w fun e w' => RsE w w' (resO m E V D now g l) e := by
 have hbx := Blk.new w [.int .i64 m, .int .i64 E, .int .i64 V, .int .i64 D] 55
 have hF1 : Fr [] w (w.alloc (.cells #[.int .i64 m, .int .i64 E, .int .i64 V, .int .i64 D] 55)) := (Fr.refl [] w).alloc _
 obtain ⟨w1, hw1⟩ : ∃ w1, w1 = w.alloc (.cells #[.int .i64 m, .int .i64 E, .int .i64 V, .int .i64 D] 55) := ⟨_, rfl⟩
 rw [show w.alloc (.cells [.int .i64 m, .int .i64 E, .int .i64 V, .int .i64 D].toArray 55) = w.alloc (.cells #[.int .i64 m, .int .i64 E, .int .i64 V, .int .i64 D] 55) from rfl, ← hw1] at hbx
 rw [← hw1] at hF1
 have HBx := Lib.hid (And.intro hbx hF1)
 have x0 := hbx.cell 0; have x1 := hbx.cell 1; have x2 := hbx.cell 2; have x3 := hbx.cell 3
 simp only [List.getElem?_cons_zero, List.getElem?_cons_succ] at x0 x1 x2 x3
 rw [hw1] at x0 x1 x2 x3
 have HL := Lib.hid (And.intro hrow hok)
 clear hbx hF1 hrow hok
 by_cases hg1 : g ≤ 9223372036854775807
 {
 have d1 : decide ((g : Int) > 9223372036854775807) = false := decide_eq_false (by omega)
 cases hcf : cfgB m E V D with
 | false => {
 have hR : resO m E V D now g l = none := if_neg (by rw [hcf]; simp)
 rw [hR]
 have HFr := wfrom_no m D E V g w1 hcf
 rw [hw1] at HFr
 have HFr := Lib.hid HFr
 have HW1 := Lib.hid hw1
 clear hR hcf hw1
 go_enter Tryz.func32, Tryz.ntmps32
 go_wp2_with fail
 refine HFr.out.mono ?_
 rintro _ w2 ⟨rfl, hF⟩
 rw [← HW1.out] at hF
 have HF := Lib.hid (HBx.out.2.trans' hF)
 clear hF x0 x1 x2 x3 HFr
 go_wp2
 go_ret2
 exact ⟨rfl, HF.out⟩
 }
 | true => {
 obtain ⟨c1, c2, c3, c4, c5, c6, c7⟩ := cfgB_iff.1 hcf
 obtain ⟨E, rfl⟩ := Int.eq_ofNat_of_zero_le (show 0 ≤ E by omega)
 obtain ⟨V, rfl⟩ := Int.eq_ofNat_of_zero_le (show 0 ≤ V by omega)
 have hfr := wfrom_w m D E V g w1 c1 hm2 (by omega) (by omega) (by omega) (by omega) c6 c7 hg1
 rw [hw1] at hfr
 have HFr := Lib.hid hfr
 have HW1 := Lib.hid hw1
 clear hfr hw1
 by_cases hlE : l.length ≤ E ∧ l.length ≤ 9223372036854775807 - g
 {
 have d2 : decide ((l.length : Int) > E) = false := decide_eq_false (by omega)
 have d2n : decide (E < l.length) = false := decide_eq_false (by omega)
 have d3n : decide (9223372036854775807 - (g : Int) < l.length) = false := decide_eq_false (by omega)
 have hw2 : IntKind.u64.wrap (l.length : Int) = l.length := by simp [IntKind.wrap, IntKind.bits, IntKind.signed]; omega
 have hw3 : IntKind.u64.wrap (9223372036854775807 - (g : Int)) = 9223372036854775807 - (g : Int) := by simp [IntKind.wrap, IntKind.bits, IntKind.signed]; omega
 have d3 : decide ((l.length : Int) > 9223372036854775807 - (g : Int)) = false := decide_eq_false (by omega)
 by_cases hch : chkT m 0 now = 0
 {
 have hR : resO m E V D now g l = (Ob.at m E V D now g).resL 0 l := by {
 unfold resO
 rw [if_pos ⟨hg1, hcf, by omega, hlE.2, hch⟩]
 rfl
 }
 obtain ⟨R, hRR⟩ : ∃ R, R = (Ob.at m E V D now g).resL 0 l := ⟨_, rfl⟩
 rw [hR, ← hRR]
 have HRR := Lib.hid hRR
 clear hRR
 have HPl := Lib.hid (And.intro hch (And.intro hlE.1 hlE.2))
 clear hR hcf hch hlE c1 c2 c3 c4 c5 c6 c7
 go_enter Tryz.func32, Tryz.ntmps32
 go_wp2_with fail
 refine HFr.out.mono ?_
 rintro _ w2 ⟨p, rfl, K, hK, hF2, hnK⟩
 rw [← HW1.out] at hF2 hnK
 have hb2 := hF2.blk HBx.out.1 (by simp)
 have x1 := hb2.cell 1
 simp only [List.getElem?_cons_zero, List.getElem?_cons_succ] at x1
 have HF2 := Lib.hid (And.intro (HBx.out.2.trans' hF2) (show ∀ q ∈ K, w.heap.size ≤ q from fun q hq => Nat.le_trans HBx.out.2.size (hnK q hq)))
 obtain ⟨hokX, pc, ps, px, pf, nq, Ks, lx, Lf, cl, hB, hKe⟩ := hK
 have c4 := hB.hd.cell 4
 simp only [List.getElem?_cons_zero, List.getElem?_cons_succ] at c4
 have HAd := Lib.hid (cadv_yes hB.clk now hn1 hn2 HPl.out.1)
 have HB := Lib.hid (And.intro hokX (And.intro hB hKe))
 clear hF2 hnK hb2 hB hKe hokX x0 x2 x3 HFr HW1
 go_wp2_with fail
 refine HAd.out.mono ?_
 rintro _ w3 ⟨rfl, hclk, hF3⟩
 have hI : RsI w w3 p 0 l R := by {
 rw [HRR.out]
 obtain ⟨q1, q2⟩ := chkT_ok HPl.out.1
 obtain ⟨hokX, hB, rfl⟩ := HB.out
 have hB3 := hB.setClk hclk hF3
 refine ⟨{ (Wm.new m E V D g) with now := now }, winK p pc Ks lx Lf, ⟨?_, pc, ps, px, pf, nq, Ks, lx, Lf, cl, hB3, rfl⟩, HF2.out.1.trans hF3 (fun b hb => ?_), HF2.out.2, fun e he => (by cases he), Int.le_refl _, by show 0 + _ ≤ E; have := HPl.out.2.1; omega, by show g + _ ≤ _; have := HPl.out.2.2; omega, rfl⟩
 · exact ⟨hokX.ok, hokX.hV, hokX.hE, hokX.lk, fun e he => (by cases he), List.Pairwise.nil, fun i hi => absurd hi (Nat.not_lt_zero _), hokX.last, hokX.max, hokX.m1, hokX.m2, q1, q2⟩
 {
 have e : b = pc := by simpa using hb
 exact .inr (by rw [e]; exact HF2.out.2 pc (by simp [winK]))
 }
 }
 have HI := Lib.hid hI
 clear hclk hF3 hI HB HAd c4 x1 HF2
 clear HRR
 go_wp2_with fail
 go_loopw [12, 48] (fun c1 c2 wr => ∃ (i : Nat) (last : Int), i ≤ l.length ∧ c1 = .int .i64 last ∧ c2 = .int .i64 i ∧ Hid (RsI w wr p last (l.drop i) R)) (fun _ c _ => l.length - (intOf c).toNat)
 case atStart => exact ⟨0, 0, Nat.zero_le _, rfl, rfl, HI⟩
 case round =>
  obtain ⟨i, last, hi, rfl, rfl, HR⟩ := hrel
  clear HI
  rename World => wr
  by_cases hil : i < l.length
  {
  have hii : (i : Int) < l.length := by omega
  have hi0 : (0 : Int) ≤ i := by omega
  obtain ⟨X, K, ⟨hokX, pc, ps, px, pf, nq, Ks, lx, Lf, cl, hB, rfl⟩, hF, hnK, hle, hl0, hle1, hle2, hres⟩ := HR.out
  rw [List.drop_eq_getElem_cons hil] at hres hle1 hle2
  have hrok := HL.out.2 _ (List.getElem_mem hil)
  obtain ⟨b, off, rfl, hbw, z0, z1, z2, z3⟩ := HL.out.1 i hil
  generalize l[i]'hil = r at *
  obtain ⟨u, v, wt, t⟩ := r
  obtain ⟨k1, k2, k3, k4⟩ := hrok
  simp only at k1 k2 k3 k4 z0 z1 z2 z3
  have z0 := hF.cell z0 (by simp); have z1 := hF.cell z1 (by simp); have z2 := hF.cell z2 (by simp); have z3 := hF.cell z3 (by simp)
  have hby := Blk.new wr [.int .u64 u, .int .u64 v, .int .i64 wt, .int .i64 t] 42
  have hFa : Fr [] wr (wr.alloc (.cells #[.int .u64 u, .int .u64 v, .int .i64 wt, .int .i64 t] 42)) := (Fr.refl [] wr).alloc _
  have hBa := hB.fr0 hFa
  obtain ⟨wa, hwa⟩ : ∃ wa, wa = wr.alloc (.cells #[.int .u64 u, .int .u64 v, .int .i64 wt, .int .i64 t] 42) := ⟨_, rfl⟩
  rw [show wr.alloc (.cells [.int .u64 u, .int .u64 v, .int .i64 wt, .int .i64 t].toArray 42) = wr.alloc (.cells #[.int .u64 u, .int .u64 v, .int .i64 wt, .int .i64 t] 42) from rfl, ← hwa] at hby
  rw [← hwa] at hFa hBa
  have y0 := hby.cell 0; have y1 := hby.cell 1; have y2 := hby.cell 2; have y3 := hby.cell 3
  have c4 := hBa.hd.cell 4; have c5 := hBa.hd.cell 5
  simp only [List.getElem?_cons_zero, List.getElem?_cons_succ] at y0 y1 y2 y3 c4 c5
  have hLive : ∀ w', Fr [] wa w' → Calls Tryz.prog 69 #[cptr pc, .int .i64 t] w' fun e w'' => e = .returned (.bool (liveB X.m X.now t)) ∧ Fr [] wa w'' := fun w' h => (clive_w (hBa.clk.fr0 h) t k3 k4).mono fun _ _ k => ⟨k.1, h.trans' k.2⟩
  have hChk : ∀ w', Fr [] wa w' → Calls Tryz.prog 70 #[sptr ps, recA u v wt t] w' fun e w'' => e = .returned (.int .i64 (X.s.chk u v)) ∧ Fr [] wa w'' := fun w' h => (st_check (hBa.st.fr0 h) u v k1 k2 wt t).mono fun _ _ k => ⟨k.1, h.trans' k.2⟩
  have HX := Lib.hid (And.intro hokX (And.intro hBa (And.intro (hF.trans' hFa) (And.intro hnK (And.intro hle (And.intro hl0 (And.intro hle1 (And.intro hle2 hres))))))))
  clear hokX hB hBa hF hnK hle hl0 hle1 hle2 hres hby hbw
  have hunf : ∀ {b : Bool}, X.ob.resOk last (u, v, wt, t) = b → (if b = true then (X.ob.putT u v wt t).resL t (l.drop (i + 1)) else none) = R := fun {b} hb => by
    rw [← hb]
    exact HX.out.2.2.2.2.2.2.2.2
  by_cases hlt : t < last
  {
  have d5 : decide (t < last) = true := decide_eq_true hlt
  have hRn : R = none := by {
  have := hunf (b := false) (by unfold Ob.resOk; rw [decide_eq_false (show ¬ last ≤ t by omega)]; rfl)
  exact this.symm
  }
  subst hRn
  clear hlt hunf
  have HLive := Lib.hid hLive
  have HChk := Lib.hid hChk
  have Hwa := Lib.hid hwa
  clear hLive hChk hwa
  go_wp2_with fail
  rw [← Hwa.out]
  refine region_cw (fun w' => Fr [] wa w') (by kernel_rfl) (by kernel_rfl) ((Fr.refl [] wa).drew) ?_
  iterate 1 (refine cw_pure (by kernel_rfl) (fun KK hK => ?_); go_simp; refine hK.out _ ?_; clear hK KK)
  refine cw_val (by kernel_rfl) (.int .i64 t) (fun w' hw' => ?_) ?_
  {
  have y3 := hw'.cell y3 (by simp)
  go_simp
  first | done | exact hw' | exact ⟨rfl, hw'⟩
  }
  iterate 3 (refine cw_pure (by kernel_rfl) (fun KK hK => ?_); go_simp; refine hK.out _ ?_; clear hK KK)
  iterate 8 (refine cw_skip (by kernel_rfl) ?_)
  iterate 2 (refine cw_pure (by kernel_rfl) (fun KK hK => ?_); go_simp; refine hK.out _ ?_; clear hK KK)
  iterate 7 (refine cw_skip (by kernel_rfl) ?_)
  iterate 1 (refine cw_pure (by kernel_rfl) (fun KK hK => ?_); go_simp; refine hK.out _ ?_; clear hK KK)
  refine cw_nil ?_
  intro w6 hF6
  have HF6 := Lib.hid (HX.out.2.2.1.trans' hF6)
  clear hF6 y0 y1 y2 y3 c4 c5 z0 z1 z2 z3 HX HR
  go_wp2
  go_ret2
  exact ⟨rfl, HF6.out⟩
  }
  {
  have d5 : decide (t < last) = false := decide_eq_false hlt
  cases hlv : liveB X.m X.now t with
  | false => {
  have hRn : R = none := by {
  have := hunf (b := false) (by unfold Ob.resOk; rw [show liveB X.ob.m X.ob.now t = false from hlv]; simp)
  exact this.symm
  }
  subst hRn
  rw [hlv] at hLive
  clear hlt hunf hlv
  have HLive := Lib.hid hLive
  have HChk := Lib.hid hChk
  have Hwa := Lib.hid hwa
  clear hLive hChk hwa
  go_wp2_with fail
  rw [← Hwa.out]
  refine region_cw (fun w' => Fr [] wa w') (by kernel_rfl) (by kernel_rfl) ((Fr.refl [] wa).drew) ?_
  iterate 1 (refine cw_pure (by kernel_rfl) (fun KK hK => ?_); go_simp; refine hK.out _ ?_; clear hK KK)
  refine cw_val (by kernel_rfl) (.int .i64 t) (fun w' hw' => ?_) ?_
  {
  have y3 := hw'.cell y3 (by simp)
  go_simp
  first | done | exact hw' | exact ⟨rfl, hw'⟩
  }
  iterate 3 (refine cw_pure (by kernel_rfl) (fun KK hK => ?_); go_simp; refine hK.out _ ?_; clear hK KK)
  iterate 3 (refine cw_pure (by kernel_rfl) (fun KK hK => ?_); go_simp; refine hK.out _ ?_; clear hK KK)
  refine cw_val (by kernel_rfl) (cptr pc) (fun w' hw' => ?_) ?_
  {
  have c4 := hw'.cell c4 (by simp)
  go_simp
  first | done | exact hw' | exact ⟨rfl, hw'⟩
  }
  iterate 1 (refine cw_pure (by kernel_rfl) (fun KK hK => ?_); go_simp; refine hK.out _ ?_; clear hK KK)
  refine cw_val (by kernel_rfl) (.int .i64 t) (fun w' hw' => ?_) ?_
  {
  have y3 := hw'.cell y3 (by simp)
  go_simp
  first | done | exact hw' | exact ⟨rfl, hw'⟩
  }
  refine cw_val (by kernel_rfl) (.bool false) (fun w' hw' => ?_) ?_
  {
  go_simp
  exact HLive.out _ hw'
  }
  iterate 1 (refine cw_pure (by kernel_rfl) (fun KK hK => ?_); go_simp; refine hK.out _ ?_; clear hK KK)
  iterate 2 (refine cw_pure (by kernel_rfl) (fun KK hK => ?_); go_simp; refine hK.out _ ?_; clear hK KK)
  iterate 7 (refine cw_skip (by kernel_rfl) ?_)
  iterate 1 (refine cw_pure (by kernel_rfl) (fun KK hK => ?_); go_simp; refine hK.out _ ?_; clear hK KK)
  refine cw_nil ?_
  intro w6 hF6
  have HF6 := Lib.hid (HX.out.2.2.1.trans' hF6)
  clear hF6 y0 y1 y2 y3 c4 c5 z0 z1 z2 z3 HX HR
  go_wp2
  go_ret2
  exact ⟨rfl, HF6.out⟩
  }
  | true => {
  obtain ⟨cc, hcc⟩ : ∃ cc : Int, cc = (X.s.chk u v : Nat) := ⟨_, rfl⟩
  rw [hlv] at hLive
  rw [← hcc] at hChk
  by_cases hc0 : X.s.chk u v = 0
  {
  have hcc0 : cc = 0 := by rw [hcc, hc0]; rfl
  subst hcc0
  have hR2 := hunf (b := true) (by
    unfold Ob.resOk
    rw [show liveB X.ob.m X.ob.now t = true from hlv, decide_eq_true (show last ≤ t by omega), decide_eq_true (show X.ob.chkO u v = 0 by rw [← chkO_ob HX.out.1]; exact hc0)]; rfl)
  rw [if_pos rfl] at hR2
  have hlv' := of_decide_eq_true hlv
  have hN := winsert_w HX.out.2.1 HX.out.1.lk HX.out.1.ok HX.out.1.hV HX.out.1.hE u v k1 k2 wt t (by have := HX.out.2.2.2.2.2.1; omega) hlv'.2.1 hc0
  have HG := Lib.hid (And.intro hlv' (And.intro hc0 (And.intro hR2 (And.intro (Int.not_lt.1 hlt) (And.intro k1 k2)))))
  clear hlt hunf hlv hc0 hR2 hlv' hcc hN
  have HLive := Lib.hid hLive
  have HChk := Lib.hid hChk
  have Hwa := Lib.hid hwa
  clear hLive hChk hwa
  go_wp2_with fail
  rw [← Hwa.out]
  refine region_cw (fun w' => Fr [] wa w') (by kernel_rfl) (by kernel_rfl) ((Fr.refl [] wa).drew) ?_
  iterate 1 (refine cw_pure (by kernel_rfl) (fun KK hK => ?_); go_simp; refine hK.out _ ?_; clear hK KK)
  refine cw_val (by kernel_rfl) (.int .i64 t) (fun w' hw' => ?_) ?_
  {
  have y3 := hw'.cell y3 (by simp)
  go_simp
  first | done | exact hw' | exact ⟨rfl, hw'⟩
  }
  iterate 3 (refine cw_pure (by kernel_rfl) (fun KK hK => ?_); go_simp; refine hK.out _ ?_; clear hK KK)
  iterate 3 (refine cw_pure (by kernel_rfl) (fun KK hK => ?_); go_simp; refine hK.out _ ?_; clear hK KK)
  refine cw_val (by kernel_rfl) (cptr pc) (fun w' hw' => ?_) ?_
  {
  have c4 := hw'.cell c4 (by simp)
  go_simp
  first | done | exact hw' | exact ⟨rfl, hw'⟩
  }
  iterate 1 (refine cw_pure (by kernel_rfl) (fun KK hK => ?_); go_simp; refine hK.out _ ?_; clear hK KK)
  refine cw_val (by kernel_rfl) (.int .i64 t) (fun w' hw' => ?_) ?_
  {
  have y3 := hw'.cell y3 (by simp)
  go_simp
  first | done | exact hw' | exact ⟨rfl, hw'⟩
  }
  refine cw_val (by kernel_rfl) (.bool true) (fun w' hw' => ?_) ?_
  {
  go_simp
  exact HLive.out _ hw'
  }
  iterate 1 (refine cw_pure (by kernel_rfl) (fun KK hK => ?_); go_simp; refine hK.out _ ?_; clear hK KK)
  iterate 2 (refine cw_pure (by kernel_rfl) (fun KK hK => ?_); go_simp; refine hK.out _ ?_; clear hK KK)
  iterate 3 (refine cw_pure (by kernel_rfl) (fun KK hK => ?_); go_simp; refine hK.out _ ?_; clear hK KK)
  refine cw_val (by kernel_rfl) (sptr ps) (fun w' hw' => ?_) ?_
  {
  have c5 := hw'.cell c5 (by simp)
  go_simp
  first | done | exact hw' | exact ⟨rfl, hw'⟩
  }
  refine cw_val (by kernel_rfl) (recA u v wt t) (fun w' hw' => ?_) ?_
  {
  have y0 := hw'.cell y0 (by simp)
  have y1 := hw'.cell y1 (by simp)
  have y2 := hw'.cell y2 (by simp)
  have y3 := hw'.cell y3 (by simp)
  go_simp
  first | done | exact hw' | exact ⟨rfl, hw'⟩
  }
  refine cw_val (by kernel_rfl) (.int .i64 0) (fun w' hw' => ?_) ?_
  {
  go_simp
  exact HChk.out _ hw'
  }
  iterate 1 (refine cw_pure (by kernel_rfl) (fun KK hK => ?_); go_simp; refine hK.out _ ?_; clear hK KK)
  iterate 1 (refine cw_pure (by kernel_rfl) (fun KK hK => ?_); go_simp; refine hK.out _ ?_; clear hK KK)
  refine cw_nil ?_
  intro w6 hF6
  have hBw := HX.out.2.1.fr0 hF6
  have y0 := hF6.cell y0 (by simp); have y1 := hF6.cell y1 (by simp); have y2 := hF6.cell y2 (by simp); have y3 := hF6.cell y3 (by simp)
  have HN := Lib.hid (winsert_w hBw HX.out.1.lk HX.out.1.ok HX.out.1.hV HX.out.1.hE u v k1 k2 wt t (by have := HX.out.2.2.2.2.2.1; have := HG.out.2.2.2.1; omega) HG.out.1.2.1 HG.out.2.1 (by have h := HX.out.2.2.2.2.2.2.2.1; simp only [List.length_cons] at h; show X.s.last + 1 ≤ _; omega) (by have h := HX.out.2.2.2.2.2.2.2.1; simp only [List.length_cons] at h; show X.s.last + 1 ≤ _; omega))
  have HF6 := Lib.hid hF6
  clear hF6 c4 c5 z0 z1 z2 z3 hBw HR
  go_wp2_with fail
  refine HN.out.mono ?_
  rintro _ w7 ⟨rfl, ea, eb, Ks7, lx7, Lf7, ha, hb, hI7⟩
  have HNew : Hid (RsI w w7 p t (l.drop (i + 1)) R) := Lib.hid (by
    obtain ⟨hokX, hBa, hFw, hnK, hle, hl0, hle1, hle2, _⟩ := HX.out
    obtain ⟨hlv', hc0, hR2, hlt, k1, k2⟩ := HG.out
    obtain ⟨⟨cl7, hB7⟩, hF7, hn7, _⟩ := hI7
    simp only [List.length_cons] at hle1 hle2
    have hs1 := hFw.size
    have hs2 := HF6.out.size
    have hwp : ({ (X.wp nq) with s := (X.wp nq).s.ins u v wt t (t + (X.wp nq).m), Q := fun j => if j = (X.wp nq).s.slot then some (t + (X.wp nq).m) else (X.wp nq).Q j, nq := (X.wp nq).nq + 1, G := fun j => if j = (X.wp nq).s.slot then some (ea, eb, t + (X.wp nq).m) else (X.wp nq).G j, added := (X.wp nq).added + 1 } : Wp) = (X.putT u v wt t ea eb).wp (nq + 1) := by
      simp [Wm.wp, Wm.putT, Sm.ins]
      exact ⟨rfl, rfl⟩
    rw [hwp] at hB7
    refine ⟨X.putT u v wt t ea eb, winK p pc Ks7 lx7 Lf7, ⟨Wm.putT_ok hokX k1 k2 wt t (by omega) hlv'.1 hlv'.2.2 (fun e he => by have := hle e he; omega) hc0 (by omega) ha hb, pc, ps, px, pf, nq + 1, Ks7, lx7, Lf7, cl7, hB7, rfl⟩, (hFw.trans' HF6.out).trans hF7 (fun b hb => .inr (hnK b hb)), fun q hq => ?_, fun e he => ?_, by omega, ?_, ?_, ?_⟩
    · rcases hn7 q hq with h | h
      · exact hnK q h
      · omega
    · have he' : e ∈ X.s.L ++ [X.s.edge u v wt t (t + X.m)] := he
      rw [List.mem_append, List.mem_singleton] at he'
      rcases he' with he' | rfl
      · have := hle e he'; omega
      · exact Int.le_refl _
    · show (X.s.L ++ [X.s.edge u v wt t (t + X.m)]).length + _ ≤ X.E
      rw [List.length_append]; simp only [List.length_cons, List.length_nil]; omega
    · show X.s.last + 1 + _ ≤ _
      omega
    · rw [ob_putT]; exact hR2)
  clear hI7 ha hb HN y0 y1 y2 y3 HX HG
  go_wp2_with fail
  go_roundw
  case rel => exact ⟨i + 1, t, by omega, rfl, by go_num, HNew⟩
  case measure => simp [intOf]; omega
  }
  {
  have hRn : R = none := by {
  have := hunf (b := false) (by unfold Ob.resOk; rw [decide_eq_false (show ¬ X.ob.chkO u v = 0 by rw [← chkO_ob HX.out.1]; exact hc0)]; simp)
  exact this.symm
  }
  subst hRn
  have d6 : (cc != 0) = true := by rw [hcc]; simp; omega
  clear hlt hunf hlv hc0 hcc
  have HLive := Lib.hid hLive
  have HChk := Lib.hid hChk
  have Hwa := Lib.hid hwa
  clear hLive hChk hwa
  go_wp2_with fail
  rw [← Hwa.out]
  refine region_cw (fun w' => Fr [] wa w') (by kernel_rfl) (by kernel_rfl) ((Fr.refl [] wa).drew) ?_
  iterate 1 (refine cw_pure (by kernel_rfl) (fun KK hK => ?_); go_simp; refine hK.out _ ?_; clear hK KK)
  refine cw_val (by kernel_rfl) (.int .i64 t) (fun w' hw' => ?_) ?_
  {
  have y3 := hw'.cell y3 (by simp)
  go_simp
  first | done | exact hw' | exact ⟨rfl, hw'⟩
  }
  iterate 3 (refine cw_pure (by kernel_rfl) (fun KK hK => ?_); go_simp; refine hK.out _ ?_; clear hK KK)
  iterate 3 (refine cw_pure (by kernel_rfl) (fun KK hK => ?_); go_simp; refine hK.out _ ?_; clear hK KK)
  refine cw_val (by kernel_rfl) (cptr pc) (fun w' hw' => ?_) ?_
  {
  have c4 := hw'.cell c4 (by simp)
  go_simp
  first | done | exact hw' | exact ⟨rfl, hw'⟩
  }
  iterate 1 (refine cw_pure (by kernel_rfl) (fun KK hK => ?_); go_simp; refine hK.out _ ?_; clear hK KK)
  refine cw_val (by kernel_rfl) (.int .i64 t) (fun w' hw' => ?_) ?_
  {
  have y3 := hw'.cell y3 (by simp)
  go_simp
  first | done | exact hw' | exact ⟨rfl, hw'⟩
  }
  refine cw_val (by kernel_rfl) (.bool true) (fun w' hw' => ?_) ?_
  {
  go_simp
  exact HLive.out _ hw'
  }
  iterate 1 (refine cw_pure (by kernel_rfl) (fun KK hK => ?_); go_simp; refine hK.out _ ?_; clear hK KK)
  iterate 2 (refine cw_pure (by kernel_rfl) (fun KK hK => ?_); go_simp; refine hK.out _ ?_; clear hK KK)
  iterate 3 (refine cw_pure (by kernel_rfl) (fun KK hK => ?_); go_simp; refine hK.out _ ?_; clear hK KK)
  refine cw_val (by kernel_rfl) (sptr ps) (fun w' hw' => ?_) ?_
  {
  have c5 := hw'.cell c5 (by simp)
  go_simp
  first | done | exact hw' | exact ⟨rfl, hw'⟩
  }
  refine cw_val (by kernel_rfl) (recA u v wt t) (fun w' hw' => ?_) ?_
  {
  have y0 := hw'.cell y0 (by simp)
  have y1 := hw'.cell y1 (by simp)
  have y2 := hw'.cell y2 (by simp)
  have y3 := hw'.cell y3 (by simp)
  go_simp
  first | done | exact hw' | exact ⟨rfl, hw'⟩
  }
  refine cw_val (by kernel_rfl) (.int .i64 cc) (fun w' hw' => ?_) ?_
  {
  go_simp
  exact HChk.out _ hw'
  }
  iterate 1 (refine cw_pure (by kernel_rfl) (fun KK hK => ?_); go_simp; refine hK.out _ ?_; clear hK KK)
  iterate 1 (refine cw_pure (by kernel_rfl) (fun KK hK => ?_); go_simp; refine hK.out _ ?_; clear hK KK)
  refine cw_nil ?_
  intro w6 hF6
  have HF6 := Lib.hid (HX.out.2.2.1.trans' hF6)
  clear hF6 y0 y1 y2 y3 c4 c5 z0 z1 z2 z3 HX HR
  go_wp2
  go_ret2
  exact ⟨rfl, HF6.out⟩
  }
  }
  }
  }
  {
  obtain rfl : i = l.length := by omega
  obtain ⟨X, K, hX, hF, hnK, hle, hl0, hle1, hle2, hres⟩ := HR.out
  rw [List.drop_eq_nil_of_le (Nat.le_refl _)] at hres
  have hRn : R = some X.ob := hres.symm
  subst hRn
  have HX := Lib.hid (And.intro hX (And.intro hF hnK))
  clear hX hF hnK hle hl0 hle1 hle2 hres HR
  go_wp2
  go_ret2
  exact ⟨p, X, K, rfl, rfl, HX.out⟩
  }
 }
 {
 have hR : resO m E V D now g l = none := if_neg (fun h => hch h.2.2.2.2)
 rw [hR]
 obtain ⟨cc, hcc⟩ : ∃ cc, cc = chkT m 0 now := ⟨_, rfl⟩
 have d6 : (cc != 0) = true := by rw [hcc]; simp [hch]
 have HC := Lib.hid (And.intro hcc hch)
 clear hR hcf hlE c1 c2 c3 c4 c5 c6 c7 hcc hch
 go_enter Tryz.func32, Tryz.ntmps32
 go_wp2_with fail
 refine HFr.out.mono ?_
 rintro _ w2 ⟨p, rfl, K, hK, hF2, hnK⟩
 rw [← HW1.out] at hF2 hnK
 have hb2 := hF2.blk HBx.out.1 (by simp)
 have x1 := hb2.cell 1
 simp only [List.getElem?_cons_zero, List.getElem?_cons_succ] at x1
 have HF2 := Lib.hid (HBx.out.2.trans' hF2)
 obtain ⟨hokX, pc, ps, px, pf, nq, Ks, lx, Lf, cl, hB, hKe⟩ := hK
 have c4 := hB.hd.cell 4
 simp only [List.getElem?_cons_zero, List.getElem?_cons_succ] at c4
 have hAd := cadv_no hB.clk now hn1 hn2 HC.out.2
 rw [show chkT (Wm.wp (Wm.new m E V D g) nq).m (Wm.wp (Wm.new m E V D g) nq).now now = cc from HC.out.1.symm] at hAd
 have HAd := Lib.hid hAd
 clear hF2 hnK hb2 hB hKe hokX x0 x2 x3 HFr HW1 hAd
 go_wp2_with fail
 refine HAd.out.mono ?_
 rintro _ w3 ⟨rfl, rfl⟩
 clear c4 x1 HAd
 go_wp2
 go_ret2
 exact ⟨rfl, HF2.out⟩
 }
 }
 {
 have hR : resO m E V D now g l = none := if_neg (fun h => hlE ⟨by omega, h.2.2.2.1⟩)
 rw [hR]
 clear hR hcf c1 c2 c4 c5 c6 c7
 by_cases hl1 : l.length ≤ E
 {
 have d2 : decide ((l.length : Int) > E) = false := decide_eq_false (by omega)
 have d2n : decide (E < l.length) = false := decide_eq_false (by omega)
 have d3n : decide (9223372036854775807 - (g : Int) < l.length) = true := decide_eq_true (by omega)
 have d3 : decide ((l.length : Int) > 9223372036854775807 - (g : Int)) = true := decide_eq_true (by omega)
 have hw2 : IntKind.u64.wrap (l.length : Int) = l.length := by simp [IntKind.wrap, IntKind.bits, IntKind.signed]; omega
 have hw3 : IntKind.u64.wrap (9223372036854775807 - (g : Int)) = 9223372036854775807 - (g : Int) := by simp [IntKind.wrap, IntKind.bits, IntKind.signed]; omega
 clear hlE hl1
 go_enter Tryz.func32, Tryz.ntmps32
 go_wp2_with fail
 refine HFr.out.mono ?_
 rintro _ w2 ⟨p, rfl, K, hK, hF2, hnK⟩
 rw [← HW1.out] at hF2
 have hb2 := hF2.blk HBx.out.1 (by simp)
 have x1 := hb2.cell 1
 simp only [List.getElem?_cons_zero, List.getElem?_cons_succ] at x1
 have HF2 := Lib.hid (HBx.out.2.trans' hF2)
 clear hF2 hnK hb2 hK x0 x2 x3 HFr HW1
 go_wp2
 go_ret2
 exact ⟨rfl, HF2.out⟩
 }
 {
 have d2 : decide ((l.length : Int) > E) = true := decide_eq_true (by omega)
 have d2n : decide (E < l.length) = true := decide_eq_true (by omega)
 clear hlE hl1
 go_enter Tryz.func32, Tryz.ntmps32
 go_wp2_with fail
 refine HFr.out.mono ?_
 rintro _ w2 ⟨p, rfl, K, hK, hF2, hnK⟩
 rw [← HW1.out] at hF2
 have hb2 := hF2.blk HBx.out.1 (by simp)
 have x1 := hb2.cell 1
 simp only [List.getElem?_cons_zero, List.getElem?_cons_succ] at x1
 have HF2 := Lib.hid (HBx.out.2.trans' hF2)
 clear hF2 hnK hb2 hK x0 x2 x3 HFr HW1
 go_wp2
 go_ret2
 exact ⟨rfl, HF2.out⟩
 }
 }
 }
 }
 {
 have hR : resO m E V D now g l = none := if_neg (fun h => hg1 h.1)
 rw [hR]
 have d1 : decide ((g : Int) > 9223372036854775807) = true := decide_eq_true (by omega)
 have HF := Lib.hid HBx.out.2
 rw [hw1] at HF
 clear hR hg1 hw1 HBx
 go_enter Tryz.func32, Tryz.ntmps32
 go_wp2
 go_ret2
 exact ⟨rfl, HF.out⟩
 }
set_option maxHeartbeats 800000
section
variable {W wr w' : World} {p : Nat} {o : Ob} {ts : List Th}
def ResE (W w' : World) (ts : List Th) (R : Option Ob) (e : Ending) : Prop := match R with
  | none => e = .returned (.tuple #[.pointer none, .int .i64 2]) ∧ Wd W w' ts
  | some o => ∃ p, e = .returned (.tuple #[wptr p, .int .i64 0]) ∧ Wd W w' (thO p o :: ts)
theorem td_res (h : Wd W wr ts) (m E V D now : Int) (g : Nat) (a : Option Addr) (cap : Nat) (l : List R4) (hg : g < 18446744073709551616) (hn1 : -9223372036854775808 ≤ now) (hn2 : now ≤ 9223372036854775807) (hm2 : m ≤ 9223372036854775807)
    (hl : l.length ≤ 9223372036854775807) (hrow : RcW wr a l) (hok : ∀ r ∈ l, r.ok) :
    Calls Tryz.prog 32 #[.agg #[.int .i64 m, .int .i64 E, .int .i64 V, .int .i64 D], .int .i64 now, .int .u64 g, .slice a l.length cap] wr fun e w' => ResE W w' ts (resO m E V D now g l) e := by
 refine (wres_w m E V D now g a cap l wr hg hn1 hn2 hm2 hl hrow hok).mono fun e w' k => ?_
 cases hR : resO m E V D now g l with
 | none => rw [hR] at k; exact ⟨k.1, h.fr0 k.2⟩
 | some o => {
 rw [hR] at k
 obtain ⟨p, X, K, k1, k2, k3, k4, k5⟩ := k
 exact ⟨p, k1, h.new k4 ⟨X, k2, k3⟩ k5⟩
 }
end
theorem td_res_some {W wr : World} {ts : List Th} (h : Wd W wr ts) {m E V D now : Int} {g : Nat} {a : Option Addr} {cap : Nat} {l : List R4} {o : Ob} (hR : resO m E V D now g l = some o) (hg : g < 18446744073709551616) (hn1 : -9223372036854775808 ≤ now) (hn2 : now ≤ 9223372036854775807) (hm2 : m ≤ 9223372036854775807)
    (hl : l.length ≤ 9223372036854775807) (hrow : RcW wr a l) (hok : ∀ r ∈ l, r.ok) :
    Calls Tryz.prog 32 #[.agg #[.int .i64 m, .int .i64 E, .int .i64 V, .int .i64 D], .int .i64 now, .int .u64 g, .slice a l.length cap] wr fun e w' => ∃ p, e = .returned (.tuple #[wptr p, .int .i64 0]) ∧ Wd W w' (thO p o :: ts) := by
 have := td_res (cap := cap) h m E V D now g a l hg hn1 hn2 hm2 hl hrow hok
 rw [hR] at this
 exact this
def rC (r : R4) : List Value := [.int .u64 r.1, .int .u64 r.2.1, .int .i64 r.2.2.1, .int .i64 r.2.2.2]
def rowR (l : List R4) : List Value := l.flatMap rC
theorem rowR_snoc (l : List R4) (e : R4) : rowR (l ++ [e]) = rowR l ++ rC e := by simp [rowR]
theorem rowR_at : ∀ {l : List R4} {i : Nat} (hi : i < l.length) (j : Nat), j < 4 → (rowR l)[i * 4 + j]? = (rC l[i])[j]?
  | e :: l, 0, _, j, hj => by
    show (rC e ++ rowR l)[0 * 4 + j]? = (rC e)[j]?
    rw [List.getElem?_append_left (by simp [rC]; omega)]; congr 1; omega
  | e :: l, i + 1, hi, j, hj => by
    show (rC e ++ rowR l)[(i + 1) * 4 + j]? = _
    rw [List.getElem?_append_right (by simp [rC]; omega)]
    have := rowR_at (l := l) (i := i) (by simpa using hi) j hj
    rw [show (i + 1) * 4 + j - (rC e).length = i * 4 + j by simp [rC]; omega, this]
    simp
def RowR (w : World) (v : Value) (l : List R4) : Prop := w.ownsRow 0 42 4 v l.length (rowR l)
section
variable {w w' : World} {v : Value} {l : List R4}
theorem RowR.fr {S : List Nat} (h : RowR w v l) (hf : Fr S w w') (hs : ∀ q, v.ownBlock = some q → q ∉ S) : RowR w' v l :=
  ownsRow_same h (fun q hq => hf.keep q (ownsRow_ltS h hq) (hs q hq))
theorem RowR.nil (w : World) : RowR w (.slice none 0 0) [] := ⟨rfl, .inl ⟨rfl, rfl⟩⟩
theorem RowR.lt (h : RowR w v l) {q : Nat} (hq : v.ownBlock = some q) : q < w.heap.size := ownsRow_ltS h hq
theorem RowR.at (h : RowR w v l) {i : Nat} (hi : i < l.length) : ∃ b cap, v = .slice (some ⟨b, 0, none⟩) l.length cap ∧ l.length ≤ cap ∧ b < w.heap.size ∧ (∀ j, w.frozen? ⟨b, j, none⟩ = false) ∧ ∀ j, j < 4 → w.cell? ⟨b, i * 4 + j, none⟩ = (rC l[i])[j]? := by
 obtain ⟨h1, h2⟩ := h
 rcases h2 with ⟨rfl, h0⟩ | ⟨g, cap, cur, rfl, _, hh, hn, hm, hsz, hxs⟩
 · omega
 {
 refine ⟨g, cap, rfl, hn, (Array.getElem?_eq_some_iff.1 hh).1, fun j => by simp [World.frozen?, hh], ?_⟩
 intro j hj
 rw [← rowR_at hi j hj, ← hxs, List.getElem?_take, if_pos (by omega)]
 simp [World.cell?, hh]
 }
theorem RowR.rc {a : Option Addr} {cap : Nat} (h : RowR w (.slice a l.length cap) l) : RcW w a l := by
 intro i hi
 obtain ⟨b, cap', ev, _, hb, _, hc⟩ := h.at hi
 simp only [Value.slice.injEq] at ev
 exact ⟨b, 0, ev.1, hb, by rw [Nat.zero_add]; exact hc 0 (by omega), by rw [Nat.zero_add]; exact hc 1 (by omega), by rw [Nat.zero_add]; exact hc 2 (by omega), by rw [Nat.zero_add]; exact hc 3 (by omega)⟩
end
def thR (v : Value) (l : List R4) : Th := ⟨fun w K => RowR w v l ∧ K = v.ownBlock.toList, fun ⟨h, e⟩ q hq => h.lt (by simpa [e] using hq), fun ⟨h, e⟩ hf hs => ⟨h.fr hf (fun q hq => hs q (by simp [e, hq])), e⟩⟩
theorem Wd.rowR {W wr : World} {ts : List Th} {v : Value} {l : List R4} (h : Wd W wr (thR v l :: ts)) : RowR wr v l := by obtain ⟨K, h, _⟩ := h.get; exact h
theorem Wd.rec_nil {W wr : World} {ts : List Th} (h : Wd W wr ts) : Wd W wr (thR (.slice none 0 0) [] :: ts) := h.new (Fr.refl _ _) ⟨RowR.nil _, rfl⟩ (by simp [Value.ownBlock])
theorem Wd.rec_app {W wr w' : World} {ts : List Th} {v v' : Value} {l l' : List R4} (h : Wd W wr (thR v l :: ts)) (hown : RowR w' v' l') (hg : wr.grownBy w' v.ownBlock) (hq : ∀ g, v'.ownBlock = some g → v.ownBlock = some g ∨ wr.heap.size ≤ g) : Wd W w' (thR v' l' :: ts) := by
 obtain ⟨K, ⟨_, rfl⟩, hs⟩ := h.open
 refine hs ⟨_, ⟨hown, rfl⟩, (Fr.refl _ _).grown hg (fun k e => .inl (by simp [e])), fun q hm => ?_⟩
 have : v'.ownBlock = some q := by simpa using hm
 exact (hq q this).imp (fun e => by simp [e]) id
def recOf (e : Lv) : R4 := (e.u, e.v, e.wt, e.t)
def Ob.cut (o : Ob) (k : Nat) : Ob := { o with L := o.L.take k, last := o.gone + k }
theorem Ob.cut_all {o : Ob} (h : o.Ok) : o.cut o.L.length = o := by
 unfold Ob.cut
 rw [List.take_length, ← h.last]
theorem idsL_sub {L M : List Lv} (h : ∀ e ∈ L, e ∈ M) : (idsL L).length ≤ (idsL M).length :=
  nodup_sub_len (idsL_nodup L) fun x hx => by
 obtain ⟨e, he, hat⟩ := idsL_mem.1 hx
 exact idsL_mem.2 ⟨e, h e he, hat⟩
theorem idsUV_snoc (L : List Lv) (e : Lv) : Ob.idsUV L e.u e.v = idsL (L ++ [e]) := by
 unfold Ob.idsUV idsL
 rw [List.foldl_append]
 rfl
theorem res_step {o : Ob} (h : o.Ok) {k : Nat} (hk : k < o.L.length) {last : Int} (hl : last ≤ (o.L[k]).t) : (o.cut k).resOk last (recOf o.L[k]) = true ∧ (o.cut k).putT (o.L[k]).u (o.L[k]).v (o.L[k]).wt (o.L[k]).t = o.cut (k + 1) := by
 have hm := List.getElem_mem hk
 have hx := h.x _ hm
 have hlen : (o.L.take k).length = k := by rw [List.length_take]; omega
 have hle := h.leE
 have htk : o.L.take (k + 1) = o.L.take k ++ [o.L[k]] := by rw [List.take_add_one, List.getElem?_eq_getElem hk]; rfl
 constructor
 {
 unfold Ob.resOk
 have e1 : liveB (o.cut k).m (o.cut k).now (recOf o.L[k]).2.2.2 = true := decide_eq_true ⟨hx.2.2.1, by have := h.n1; show (o.L[k]).t + o.m ≤ _; omega, by show o.now < (o.L[k]).t + o.m; omega⟩
 have e2 : (o.cut k).chkO (recOf o.L[k]).1 (recOf o.L[k]).2.1 = 0 := by {
 unfold Ob.chkO
 rw [if_neg (show ¬ (recOf o.L[k]).1 = (recOf o.L[k]).2.1 from h.ne _ hm), if_neg (show ¬ (o.cut k).E ≤ (o.cut k).L.length by show ¬ o.E ≤ (o.L.take k).length; omega), if_neg]
 show ¬ o.V < (Ob.idsUV (o.L.take k) (o.L[k]).u (o.L[k]).v).length
 rw [idsUV_snoc, ← htk]
 have := idsL_sub (L := o.L.take (k + 1)) (M := o.L) fun e he => List.mem_of_mem_take he
 have := h.leV
 omega
 }
 rw [e1, e2, decide_eq_true (show last ≤ (recOf o.L[k]).2.2.2 from hl)]
 rfl
 }
 {
 have hs : o.L[k] = ⟨0, o.gone + k + 1, (o.L[k]).u, (o.L[k]).v, (o.L[k]).wt, (o.L[k]).t, (o.L[k]).t + o.m⟩ := by {
 have h1 := h.num k hk
 have h2 := h.sl _ hm
 generalize o.L[k] = e at *
 obtain ⟨a, b, c, d, f, g, i⟩ := e
 simp only at h1 h2 hx ⊢
 rw [h1, h2, hx.1]
 }
 unfold Ob.putT Ob.cut
 simp only [htk]
 rw [← hs]
 rfl
 }
theorem res_same {o : Ob} (h : o.Ok) : ∀ (n k : Nat) (last : Int), k + n = o.L.length → (∀ e, o.L[k]? = some e → last ≤ e.t) → (o.cut k).resL last ((o.L.drop k).map recOf) = some o
  | 0, k, last, hk, _ => by
    rw [List.drop_eq_nil_of_le (by omega)]
    have : k = o.L.length := by omega
    subst this
    show some (o.cut o.L.length) = _
    rw [Ob.cut_all h]
  | n + 1, k, last, hk, hl => by
    have hlt : k < o.L.length := by omega
    obtain ⟨h1, h2⟩ := res_step h hlt (hl _ (List.getElem?_eq_getElem hlt))
    rw [List.drop_eq_getElem_cons hlt, List.map_cons]
    unfold Ob.resL
    rw [if_pos h1]
    show ((o.cut k).putT (o.L[k]).u (o.L[k]).v (o.L[k]).wt (o.L[k]).t).resL (o.L[k]).t ((o.L.drop (k + 1)).map recOf) = _
    rw [h2]
    refine res_same h n (k + 1) _ (by omega) fun e he => ?_
    obtain ⟨h3, rfl⟩ := List.getElem?_eq_some_iff.1 he
    exact (List.pairwise_iff_getElem.1 h.mono) k (k + 1) hlt h3 (by omega)
theorem resO_same {o : Ob} (h : o.Ok) (hc : cfgB o.m o.E o.V o.D = true) : resO o.m o.E o.V o.D o.now o.gone (o.L.map recOf) = some o := by
 have h1 := h.last; have h2 := h.max; have h3 := h.leE
 unfold resO
 rw [if_pos]
 {
 have := res_same h o.L.length 0 0 (by omega) (fun e he => (h.x e (List.mem_of_getElem? he)).2.1)
 exact this
 }
 {
 refine ⟨by omega, hc, by rw [List.length_map]; omega, by rw [List.length_map]; omega, ?_⟩
 unfold chkT sumC
 rw [if_neg (by have := h.n0; omega), if_pos (by have := h.n1; omega)]
 }
end Go.Proofs.YtgmnemndjjmgkaaGreat
namespace Go.Proofs.YtgmnemndjjmgkaaGreat
open Go.RowKit
section
variable {P : Program} {ops : Array Oper} {md : Region.Mode} (G : Nat → Sem Go.Next → Value → Prop) (must : Nat → Bool)
def sOp (ops : Array Oper) (i : Nat) (K : Act → Prop) (a : Act) : Prop :=
  match ops[i]? with
  | none => K a
  | some o => if Region.wanted o (yielded ops a.tmps) then ∃ v, G i (execOp a.eval o) v ∧ K (a.put o.dst v) else must i = false ∧ K (a.put o.dst undef)
def sWalk (ops : Array Oper) (Q : Act → Prop) : Nat → List Oper → Act → Prop
  | _, [], a => Q a
  | k, o :: rest, a => if Region.wanted o (yielded ops a.tmps) then ∃ v, G k (execOp a.eval o) v ∧ sWalk ops Q (k + 1) rest (a.put o.dst v) else must k = false ∧ sWalk ops Q (k + 1) rest (a.put o.dst undef)
def sAny (md : Region.Mode) (ops : Array Oper) (Q : Act → Prop) : Nat → Array Bool → Act → Prop
  | 0, listed, a => Region.ready md ops listed = [] ∧ Q a
  | fuel + 1, listed, a =>
    (Region.ready md ops listed = [] → Q a) ∧ ∀ i ∈ Region.ready md ops listed, sOp G must ops i (sAny md ops Q fuel (listed.setIfInBounds i true)) a
variable {G must}
def sYields (G : Nat → Sem Go.Next → Value → Prop) (must : Nat → Bool) (ops : Array Oper) (i : Nat) (o : Oper) (v : Value) (a : Act) : Prop :=
  (Region.wanted o (yielded ops a.tmps) = true ∧ G i (execOp a.eval o) v) ∨ (Region.wanted o (yielded ops a.tmps) = false ∧ must i = false ∧ v = undef)
theorem sYields.op {i : Nat} {o : Oper} {v : Value} {a : Act} (hi : ops[i]? = some o) (hy : sYields G must ops i o v a) {K : Act → Prop} (h : K (a.put o.dst v)) : sOp G must ops i K a := by
 unfold sOp
 simp only [hi]
 rcases hy with ⟨hw, hv⟩ | ⟨hw, hm, rfl⟩
 · rw [if_pos hw]; exact ⟨v, hv, h⟩
 · rw [if_neg (by simp [hw])]; exact ⟨hm, h⟩
theorem sYields.same {i : Nat} {o : Oper} {v : Value} {a a' : Act} (hy : sYields G must ops i o v a) (he : execOp a'.eval o = execOp a.eval o)
    (hw : Region.wanted o (yielded ops a'.tmps) = Region.wanted o (yielded ops a.tmps)) : sYields G must ops i o v a' := by
 unfold sYields at *; rw [he, hw]; exact hy
theorem sOp_mono {i : Nat} {a : Act} {K K' : Act → Prop} (h : ∀ a, K a → K' a) (hh : sOp G must ops i K a) : sOp G must ops i K' a := by
 unfold sOp at *
 cases ho : ops[i]? with
 | none => simp only [ho] at hh ⊢; exact h _ hh
 | some o => {
 simp only [ho] at hh ⊢
 by_cases hw : Region.wanted o (yielded ops a.tmps) = true
 · rw [if_pos hw] at *; obtain ⟨v, h1, h2⟩ := hh; exact ⟨v, h1, h _ h2⟩
 · rw [if_neg hw] at *; exact ⟨hh.1, h _ hh.2⟩
 }
theorem sYields_of_op {i : Nat} {o : Oper} {a : Act} {K : Act → Prop} (hi : ops[i]? = some o) (h : sOp G must ops i K a) : ∃ v, sYields G must ops i o v a ∧ K (a.put o.dst v) := by
 unfold sOp at h
 simp only [hi] at h
 by_cases hw : Region.wanted o (yielded ops a.tmps) = true
 {
 rw [if_pos hw] at h
 obtain ⟨v, h1, h2⟩ := h
 exact ⟨v, .inl ⟨hw, h1⟩, h2⟩
 }
 {
 rw [if_neg hw] at h
 exact ⟨undef, .inr ⟨by simpa using hw, h.1, rfl⟩, h.2⟩
 }
theorem sOp_put {i j : Nat} {oi oj : Oper} {v : Value} (hj : ops[j]? = some oj) (hap : oi.apart ops oj = true)
    (hsi : ∀ cs b, oi.op ≠ .select cs b) (hsj : ∀ cs b, oj.op ≠ .select cs b) {K : Act → Prop} {a : Act}
    (hy : sYields G must ops i oi v a) (h : sOp G must ops j K (a.put oi.dst v)) :
    sOp G must ops j (fun a' => sYields G must ops i oi v a' ∧ K (a'.put oi.dst v)) a := by
 obtain ⟨h1, h2, h3⟩ := Oper.apart_spec hap
 have keep : ∀ (a : Act), sYields G must ops i oi v a → ∀ u, sYields G must ops i oi v (a.put oj.dst u) := fun a hy u =>
   hy.same (execOp_put oi hsi a oj.dst u h3) (wanted_put oi a oj.dst u h3)
 unfold sOp at *
 simp only [hj] at *
 rw [wanted_put oj a oi.dst v h1] at h
 by_cases hw : Region.wanted oj (yielded ops a.tmps) = true
 {
 rw [if_pos hw] at *
 obtain ⟨u, hu, hn⟩ := h
 rw [execOp_put oj hsj a oi.dst v h1] at hu
 exact ⟨u, hu, keep a hy u, by rw [← Act.put_comm a v u h2]; exact hn⟩
 }
 {
 rw [if_neg hw] at *
 exact ⟨h.1, keep a hy _, by rw [← Act.put_comm a v undef h2]; exact h.2⟩
 }
theorem sAny_first {Q : Act → Prop} {i : Nat} {oi : Oper} {v : Value} (hi : ops[i]? = some oi) (hsel : ∀ (j : Nat) (o : Oper) cs b, ops[j]? = some o → o.op ≠ .select cs b) :
    ∀ (fuel : Nat) (listed : Array Bool) (a : Act),
      (∀ j oj, ops[j]? = some oj → j ≠ i → listed.getD j true = false → (∀ e ∈ oj.after, Region.binds md e = true → e.on ≠ i) → oi.apart ops oj = true) →
      i ∈ Region.ready md ops listed → sYields G must ops i oi v a →
      sAny G must md ops Q fuel (listed.setIfInBounds i true) (a.put oi.dst v) → sAny G must md ops Q (fuel + 1) listed a := by
  intro fuel
  induction fuel with
  | zero =>
    intro listed a _ hr hy H
    refine ⟨fun h => (by rw [h] at hr; cases hr), fun j hj => ?_⟩
    by_cases hji : j = i
    · subst hji; exact hy.op hi H
    · have := ready_mono hj hji
      rw [H.1] at this
      cases this
  | succ fuel ih =>
    intro listed a hfree hr hy H
    refine ⟨fun h => (by rw [h] at hr; cases hr), fun j hj => ?_⟩
    by_cases hji : j = i
    · subst hji; exact hy.op hi H
    · have h1 := H.2 j (ready_mono hj hji)
      obtain ⟨hjun, oj, hoj, hall⟩ := mem_ready.1 hj
      have hnot : ∀ e ∈ oj.after, Region.binds md e = true → e.on ≠ i := fun e he hb heq => by
        have h1 := hall e he hb
        have h0 := (mem_ready.1 hr).1
        rw [heq] at h1
        rcases Nat.lt_or_ge i listed.size with h' | h'
        · simp [h'] at h0 h1; rw [h0] at h1; cases h1
        · simp [Array.getElem?_eq_none h'] at h1
      have h2 := sOp_put hoj (hfree j oj hoj hji hjun hnot) (fun cs b => hsel i oi cs b hi) (fun cs b => hsel j oj cs b hoj) hy h1
      have hfree' : ∀ k ok, ops[k]? = some ok → k ≠ i → (listed.setIfInBounds j true).getD k true = false →
          (∀ e ∈ ok.after, Region.binds md e = true → e.on ≠ i) → oi.apart ops ok = true := fun k ok hk hki hun hno => by
        refine hfree k ok hk hki ?_ hno
        by_cases hjk : j = k
        · subst hjk; exact hjun
        · rw [getD_set_ne true hjk] at hun; exact hun
      refine sOp_mono (fun a' h3 => ih (listed.setIfInBounds j true) a' hfree' (ready_mono hr (Ne.symm hji)) h3.1 ?_) h2
      rw [Array.setIfInBounds_comm _ _ hji]
      exact h3.2
theorem sAny_lex {Q : Act → Prop} (hs : Region.noSelect ops = true) : ∀ (l : List Oper) (k : Nat) (listed : Array Bool) (a : Act), (∀ j, l[j]? = ops[k + j]?) →
    Region.lexFrom md ops l.length k listed = true → sWalk G must ops Q k l a → sAny G must md ops Q l.length listed a
  | [], _, _, _, _, hB, h => ⟨by simpa [Region.lexFrom] using hB, h⟩
  | o :: l, k, listed, a, hl, hB, h => by
    have h0 : ops[k]? = some o := by simpa using (hl 0).symm
    simp only [List.length_cons, Region.lexFrom, Bool.and_eq_true] at hB
    obtain ⟨⟨hr, hf⟩, hB'⟩ := hB
    have hst : sOp G must ops k (sWalk G must ops Q (k + 1) l) a := by unfold sOp; simp only [h0]; exact h
    obtain ⟨v, hy, hK⟩ := sYields_of_op h0 hst
    exact sAny_first h0 (Region.noSelect_spec hs) l.length listed a (Region.free_spec h0 hf) (by simpa using hr) hy
      (sAny_lex hs l (k + 1) _ _ (fun j => by have := hl (j + 1); simpa [Nat.add_assoc, Nat.add_comm 1 j] using this) hB' hK)
end
def seqG (P : Program) (cs : List Nat) (C : Nat → World → Prop) (i : Nat) (s : Sem Go.Next) (v : Value) : Prop :=
  if i ∈ cs then ∀ w, C (cs.idxOf i) w → writeUpon P (C (cs.idxOf i + 1)) v (s.run P w) else ∀ q w, C q w → Oper.quietUpon P (C q) w v (s.run P w)
section
variable {P : Program} {ops : Array Oper} {md : Region.Mode} {C : Nat → World → Prop} {cs : List Nat}
theorem any_of_sSeq (hrow : rowB md ops cs = true) (hb : edgesBack md ops = true) {Q : Act → Prop} {Q' : Exit → Act → World → Prop} (hQ : ∀ a w, C cs.length w → Q a → Q' .normal a w) : ∀ (fuel : Nat) (listed : Array Bool) (a : Act) (w : World), listed.size = ops.size →
    Shut md ops listed → C (cnt cs listed) w → sAny (seqG P cs C) (fun i => decide (i ∈ cs)) md ops Q fuel listed a → wpAny P md ops Q' fuel listed a w := by
 have hend : ∀ listed : Array Bool, listed.size = ops.size → Region.ready md ops listed = [] → cnt cs listed = cs.length := by {
 intro listed hs h0
 unfold cnt
 rw [List.countP_eq_length]
 intro c hc
 exact ready_nil hs hb h0 c (row_lt hrow c hc)
 }
 have hnd : cs.Nodup := (row_sorted hrow).imp (fun h => Nat.ne_of_lt h)
 intro fuel
 induction fuel with
 | zero => {
 intro listed a w hs _ hp h
 exact ⟨h.1, hQ _ _ (by rw [hend listed hs h.1] at hp; exact hp) h.2⟩
 }
 | succ fuel ih => {
 intro listed a w hs hsh hp h
 refine ⟨fun h0 => hQ _ _ (by rw [hend listed hs h0] at hp; exact hp) (h.1 h0), fun i hi => ?_⟩
 have hg := h.2 i hi
 obtain ⟨hun, oi, hoi, _⟩ := mem_ready.1 hi
 have hil : i < ops.size := (Array.getElem?_eq_some_iff.1 hoi).1
 have hs' : (listed.setIfInBounds i true).size = ops.size := by simp [hs]
 have hl0 : listed.getD i false = false := by simp [hs, hil] at hun ⊢; exact hun
 have next : ∀ a' w', C (cnt cs (listed.setIfInBounds i true)) w' → sAny (seqG P cs C) (fun i => decide (i ∈ cs)) md ops Q fuel (listed.setIfInBounds i true) a' → wpAny P md ops Q' fuel (listed.setIfInBounds i true) a' w' :=
   fun a' w' hp' hg' => ih _ a' w' hs' (hsh.set hi) hp' hg'
 unfold sOp at hg
 unfold wpOp
 simp only [hoi] at hg ⊢
 by_cases hmem : i ∈ cs
 {
 have hcs := cnt_set (L := listed) (by omega) hl0 hnd hmem
 have hidx : cs.idxOf i = cnt cs listed := by {
 have hlt := List.idxOf_lt_length_of_mem hmem
 have hget : cs[cs.idxOf i]? = some i := by rw [List.getElem?_eq_getElem hlt, List.getElem_idxOf]
 have h1 := row_prefix hsh hrow _ _ hget
 rw [hl0] at h1
 have hge : cnt cs listed ≤ cs.idxOf i := by {
 apply Classical.byContradiction
 intro hx
 have := h1.2 (by omega)
 cases this
 }
 have h2 := row_prefix (hsh.set hi) hrow _ _ hget
 rw [hcs] at h2
 have h3 : (listed.setIfInBounds i true).getD i false = true := by simp [hs, hil]
 have := h2.1 h3
 omega
 }
 by_cases hw : Region.wanted oi (yielded ops a.tmps) = true
 {
 rw [if_pos hw] at hg ⊢
 obtain ⟨v, hv, hk⟩ := hg
 unfold seqG at hv
 rw [if_pos hmem, hidx] at hv
 exact .inl (write_upon (fun w' hc' => next _ w' (by rw [hcs]; exact hc') hk) (hv w hp))
 }
 {
 rw [if_neg hw] at hg
 exact absurd hmem (of_decide_eq_false hg.1)
 }
 }
 {
 have hcs := cnt_other (L := listed) hmem
 by_cases hw : Region.wanted oi (yielded ops a.tmps) = true
 {
 rw [if_pos hw] at hg ⊢
 obtain ⟨v, hv, hk⟩ := hg
 unfold seqG at hv
 left
 rw [if_neg hmem] at hv
 exact quiet_upon hp (fun w' hc' => next _ w' (by rw [hcs]; exact hc') hk) (hv _ w hp)
 }
 {
 rw [if_neg hw] at hg ⊢
 exact next _ w (by rw [hcs]; exact hp) hg.2
 }
 }
 }
structure SW (P : Program) (ops : Array Oper) (cs : List Nat) (C : Nat → World → Prop) (Q : Act → Prop) (k : Nat) (l : List Oper) (a : Act) : Prop where
  out : sWalk (seqG P cs C) (fun i => decide (i ∈ cs)) ops Q k l a
theorem region_sw (cs : List Nat) {id : Nat} {Q : Exit → Act → World → Prop} {a : Act} {w : World} {l : List Oper} (C : Nat → World → Prop) (hm : P.follows .mixedOrders = true) (hB : Region.lexB .any l.toArray = true) (hk : (edgesBack .any l.toArray && rowB .any l.toArray cs) = true)
    (hC : C 0 w.drew) (h : SW P l.toArray cs C (fun a' => ∀ w', C cs.length w' → Q .normal a' w') 0 l a) : (Code.region id l.toArray true).wp P Q a w := by
 simp only [Region.lexB, Bool.and_eq_true] at hB
 rw [Bool.and_eq_true] at hk
 refine wp_region_any hm (any_of_sSeq (Q := fun a' => ∀ w', C cs.length w' → Q .normal a' w') (C := C) (cs := cs) hk.2 hk.1 (fun _ w' hw' h => h w' hw') _ _ _ _ (by simp) ?_ ?_ ?_)
 · intro j oj _ hl; rw [rep_false] at hl; cases hl
 {
 have : cnt cs (Array.replicate l.toArray.size false) = 0 := by unfold cnt; rw [List.countP_eq_zero]; intro c _; rw [rep_false]; simp
 rw [this]
 exact hC
 }
 {
 have := sAny_lex (G := seqG P cs C) (must := fun i => decide (i ∈ cs)) (md := .any) hB.1 l 0 (Array.replicate l.toArray.size false) a (by simp) (by simpa using hB.2) h.out
 simpa using this
 }
variable {Q : Act → Prop} {k : Nat} {o : Oper} {rest : List Oper} {a : Act}
theorem sw_val (hk : decide (k ∈ cs) = false) (hw : Region.wanted o (yielded ops a.tmps) = true) (v : Value)
    (h0 : ∀ q w, C q w → Oper.quietUpon P (C q) w v ((execOp a.eval o).run P w)) (h : SW P ops cs C Q (k + 1) rest (a.put o.dst v)) : SW P ops cs C Q k (o :: rest) a := by
 refine ⟨?_⟩
 unfold sWalk
 rw [if_pos hw]
 refine ⟨v, ?_, h.out⟩
 unfold seqG
 rw [if_neg (of_decide_eq_false hk)]
 exact h0
theorem sw_pure (hk : decide (k ∈ cs) = false) (hw : Region.wanted o (yielded ops a.tmps) = true)
    (h : ∀ K : Act → Prop, Hid (∀ a, SW P ops cs C Q (k + 1) rest a → K a) → Oper.pure_ P o a K) : SW P ops cs C Q k (o :: rest) a := by
 obtain ⟨v, h1, h2⟩ := h _ (Lib.hid fun a h => h)
 refine sw_val hk hw v (fun q w _ => ?_) h2
 have := h1 w
 unfold Oper.quietUpon
 unfold Oper.quietAt at *
 revert this
 generalize (execOp a.eval o).run P w = r
 intro this
 cases r with
 | halt x w' => exact this.elim
 | ok x w' => {
 cases x with
 | value u => exact ⟨this.1, this.2⟩
 | skip => exact ⟨this.1, this.2⟩
 | _ => exact this.elim
 }
theorem sw_call (q : Nat) (hk : (decide (k ∈ cs) && decide (cs.idxOf k = q)) = true) (hw : Region.wanted o (yielded ops a.tmps) = true) (v : Value)
    (h0 : ∀ w, C q w → writeUpon P (C (q + 1)) v ((execOp a.eval o).run P w)) (h : SW P ops cs C Q (k + 1) rest (a.put o.dst v)) : SW P ops cs C Q k (o :: rest) a := by
 rw [Bool.and_eq_true] at hk
 refine ⟨?_⟩
 unfold sWalk
 rw [if_pos hw]
 refine ⟨v, ?_, h.out⟩
 unfold seqG
 rw [if_pos (of_decide_eq_true hk.1), of_decide_eq_true hk.2]
 exact h0
theorem sw_nil (h : Q a) : SW P ops cs C Q k [] a := ⟨h⟩
end
set_option maxRecDepth 10000
set_option maxHeartbeats 3200000
theorem Ob.add_k (o : Ob) (u v : Nat) (wt t : Int) : (o.add u v wt t).m = o.m ∧ (o.add u v wt t).E = o.E ∧ (o.add u v wt t).V = o.V ∧ (o.add u v wt t).D = o.D := by
 unfold Ob.add; split <;> exact ⟨rfl, rfl, rfl, rfl⟩
theorem Ob.tickS_k (o : Ob) (t : Int) : (o.tickS t).m = o.m ∧ (o.tickS t).E = o.E ∧ (o.tickS t).V = o.V ∧ (o.tickS t).D = o.D := by
 unfold Ob.tickS; split <;> exact ⟨rfl, rfl, rfl, rfl⟩
theorem recs_core (l : List Lv) : (l.map core).map recOf = l.map recOf := by rw [List.map_map]; rfl
theorem walk_windowRenews (W : World) (a : Option Addr) (len cap : Nat) (z : Nat → Nat × Nat × Nat × Int) (hz : MovesW W a len z) (a2 : Option Addr) (len2 cap2 : Nat) (z2 : Nat → Nat × Nat × Nat × Int) (hz2 : MovesW W a2 len2 z2) :
    Calls Tryz.prog 8 #[.slice a len cap, .slice a2 len2 cap2] W fun e w' => e = .returned (.bool true) ∧ Below W.heap.size W w' := by
 have HWk := Lib.hid (fun w => works37_w w)
 by_cases hgo : len ≤ 60 ∧ len2 ≤ 30
 {
 obtain ⟨hlen, hlen2⟩ := hgo
 have HB := Lib.hid (begun_o W a len cap z hz (by omega))
 have d0 : decide ((len : Int) > 60) = false := decide_eq_false (by omega)
 have d1 : decide ((len2 : Int) > 30) = false := decide_eq_false (by omega)
 have HZ := Lib.hid hz2
 clear hz hz2
 go_enter Tryz.func8, Tryz.ntmps8
 go_wp2_with fail
 refine HB.out.mono ?_
 rintro _ w1 ⟨pw, o, rfl, hW, hO⟩
 have HO := Lib.hid hO
 have H := Lib.hid (td_live hW)
 clear hW HB hO
 go_wp2_with fail
 refine H.out.mono ?_
 rintro _ w1 ⟨lv, l, rfl, hl, hW⟩
 obtain ⟨la, lc, rfl⟩ := hW.rowV.slice
 have hll : l.length = o.L.length := by rw [← hl.1, List.length_map]
 have hle := HO.out.ok.leE
 rw [HO.out.E] at hle
 obtain ⟨n, hn⟩ : ∃ n, n = o.L.length := ⟨_, rfl⟩
 rw [← hn] at hll hle
 rw [hll] at hW ⊢
 have HLv := Lib.hid (And.intro hl (And.intro hll hn))
 have HW1 := Lib.hid hW.rec_nil
 clear hl hll hn hW H
 go_wp2_with fail
 go_loopw [7, 8] (fun c1 c2 wr => ∃ (i : Nat), i ≤ n ∧ (∃ ra rc, c1 = .slice ra i rc ∧ Hid (Wd W wr [thR (.slice ra i rc) ((l.take i).map recOf), thV (.slice la n lc) l, thO pw o])) ∧ c2 = .int .i64 i) (fun _ c _ => n - (intOf c).toNat)
 case atStart => exact ⟨0, Nat.zero_le _, ⟨none, 0, rfl, HW1⟩, rfl⟩
 case round =>
  obtain ⟨i, hi, ⟨ra, rc, rfl, HR⟩, rfl⟩ := hrel
  clear HW1
  rename World => wr
  by_cases hil : i < n
  {
  have hii : (i : Int) < n := by omega
  have hi0 : (0 : Int) ≤ i := by omega
  have hil' : i < l.length := by rw [HLv.out.2.1]; exact hil
  obtain ⟨b, cap', ev, q1, q2, q3, r1⟩ := HR.out.swap.rowV.at hil'
  simp only [Value.slice.injEq] at ev
  obtain ⟨rfl, e40, rfl⟩ := ev
  clear e40 q1 q2 q3
  have hst : (l.take (i + 1)).map recOf = (l.take i).map recOf ++ [recOf (l[i]'hil')] := by rw [List.take_add_one, List.getElem?_eq_getElem hil', List.map_append]; rfl
  have hlen3 : ((l.take i).map recOf).length = i := by rw [List.length_map, List.length_take]; omega
  generalize l[i]'hil' = x at *
  obtain ⟨_, _, x2, x3, x4, x5, _⟩ := r1
  obtain ⟨rs, hrs⟩ : ∃ rs, rs = (l.take i).map recOf := ⟨_, rfl⟩
  rw [← hrs] at HR hst hlen3
  have HRW := Lib.hid (HR.out.fr0 ((Fr.refl [] wr).alloc (.cells #[.int .u64 x.u, .int .u64 x.v, .int .i64 x.wt, .int .i64 x.t] 42)))
  have hown : World.ownsRow (wr.alloc (.cells #[.int .u64 x.u, .int .u64 x.v, .int .i64 x.wt, .int .i64 x.t] 42)) 0 42 4 (.slice ra i rc) i (rowR rs) := by {
  have := HRW.out.rowR
  unfold RowR at this
  rw [hlen3] at this
  exact this
  }
  have HOwn := Lib.hid hown
  have Hst := Lib.hid (And.intro hst hlen3)
  clear hst hlen3 hrs hown HR
  go_wp2_with (at_builtin; refine wpList_appK rfl _ _ 67 rfl 42 (.agg #[.int .u64 0, .int .u64 0, .int .i64 0, .int .i64 0]) 4 32 (by kernel_rfl) (by kernel_rfl) rfl (by decide) (.slice ra i rc) i (rowR rs) rfl HOwn.out wr.heap.size 42 [.int .u64 x.u, .int .u64 x.v, .int .i64 x.wt, .int .i64 x.t] rfl (Blk.new wr _ _) rfl (by simp [Value.oneCell']) (by omega) (by decide) ?_; intro g' cap' w4 hown4 hgrow4 hg4)
  have HN : Hid (Wd W w4 [thR (.slice (some ⟨g', 0, none⟩) (i + 1) cap') ((l.take (i + 1)).map recOf), thV (.slice (some ⟨b, 0, none⟩) n lc) l, thO pw o]) := Lib.hid (by
    have h1 : RowR w4 (.slice (some ⟨g', 0, none⟩) (i + 1) cap') ((l.take (i + 1)).map recOf) := by
      unfold RowR
      rw [Hst.out.1, List.length_append, Hst.out.2, rowR_snoc]
      exact hown4
    exact HRW.out.rec_app h1 hgrow4 (fun g hg => by
      have : g' = g := by simpa [Value.ownBlock] using hg
      subst this
      exact hg4))
  clear hown4 hgrow4 hg4 HOwn HRW x2 x3 x4 x5
  go_wp2_with fail
  go_roundw
  case rel => exact ⟨i + 1, by omega, ⟨_, _, rfl, HN⟩, by go_num⟩
  case measure => simp [intOf]; omega
  }
  {
  obtain rfl : i = n := by omega
  have htk : (l.take i).map recOf = o.L.map recOf := by {
  have h1 : l.take i = l := by rw [← HLv.out.2.1, List.take_length]
  rw [h1, ← HLv.out.1.1, recs_core]
  }
  rw [htk] at HR
  have hrl : (o.L.map recOf).length = i := by rw [List.length_map, HLv.out.2.2]
  have hW := HR.out.swap.drop.swap
  have H := Lib.hid (td_added hW)
  have HW := Lib.hid hW
  clear htk hW HR hi hil hle
  go_wp2_with fail
  refine H.out.mono ?_
  rintro _ w2 ⟨rfl, hF⟩
  have hW := HW.out.fr0 hF
  have H := Lib.hid (td_config hW)
  have HW := Lib.hid hW
  clear hF hW
  go_wp2_with fail
  refine H.out.mono ?_
  rintro _ w2 ⟨rfl, hF⟩
  have hW := HW.out.fr0 hF
  have H := Lib.hid (td_now hW)
  have HW := Lib.hid hW
  clear hF hW
  go_wp2_with fail
  refine H.out.mono ?_
  rintro _ w2 ⟨rfl, rfl⟩
  have hcf : cfgB o.m o.E o.V o.D = true := by rw [HO.out.m, HO.out.E, HO.out.V, HO.out.D]; decide
  have hR := td_res_some (cap := rc) (a := ra) HW.out (resO_same HO.out.ok hcf) (by have h1 := HO.out.ok.last; have h2 := HO.out.ok.max; omega) (by have := HO.out.ok.n0; omega) (by have h1 := HO.out.ok.n1; have h2 := HO.out.ok.m1; omega) HO.out.ok.m2 (by rw [hrl]; have := HO.out.ok.leE; have := HLv.out.2.2; rw [HO.out.E] at *; omega)
    (by have h1 := HW.out.swap.rowR; rw [← hrl] at h1; exact h1.rc)
    (fun r hr => by
      obtain ⟨e, he, rfl⟩ := List.mem_map.1 hr
      have h1 := HO.out.ok.u64 e he; have h2 := HO.out.ok.x e he; have h3 := HO.out.ok.n1; have h4 := HO.out.ok.m1
      exact ⟨h1.1, h1.2, by show _ ≤ e.t; omega, by show e.t ≤ _; omega⟩)
  rw [hrl] at hR
  have H := Lib.hid hR
  clear HW hcf hR hrl
  go_wp2_with fail
  refine H.out.mono ?_
  rintro _ w2 ⟨pr, rfl, hW⟩
  have H := Lib.hid (alike_w hW.swap HO.out.E)
  clear hW
  go_wp2_with fail
  refine H.out.mono ?_
  rintro _ w2 ⟨rfl, hW⟩
  have HW := Lib.hid hW.drop3
  have HO0 := Lib.hid (And.intro HO.out.m (And.intro HO.out.E (And.intro HO.out.V HO.out.D)))
  clear hW H HO HLv
  go_wp2_with fail
  go_loopw [13] (fun c wr => ∃ (k : Nat), k ≤ len2 ∧ c = .int .i64 k ∧ Hid (∃ o, Wd W wr [thO pw o, thO pr o] ∧ o.m = 20 ∧ o.E = 40)) (fun c _ => len2 - (intOf c).toNat)
  case atStart => exact ⟨0, Nat.zero_le _, rfl, Lib.hid ⟨o, HW.out, HO0.out.1, HO0.out.2.1⟩⟩
  case round =>
   obtain ⟨k, hk, rfl, HR⟩ := hrel
   clear HW HO0
   rename World => wr
   by_cases hkl : k < len2
   {
   have hki : (k : Int) < len2 := by omega
   have hk0 : (0 : Int) ≤ k := by omega
   obtain ⟨o, hW, hom, hoE⟩ := HR.out
   obtain ⟨b, off, rfl, hb, m0, m1, m2, m3, l0, l1, l2, l3, l4⟩ := HZ.out.2 k hkl
   generalize (z2 k).1 = by_ at *
   generalize (z2 k).2.1 = mu at *
   generalize (z2 k).2.2.1 = mvv at *
   generalize (z2 k).2.2.2 = ms at *
   have m0 := hW.frm.cell m0 (by simp); have m1 := hW.frm.cell m1 (by simp); have m2 := hW.frm.cell m2 (by simp); have m3 := hW.frm.cell m3 (by simp)
   have hok := hW.ob
   have hn0 := hok.n0
   have hn1 := hok.n1
   rw [hom] at hn1
   have hb7 : ((by_ : Int) % 7) = ((by_ % 7 : Nat) : Int) := by omega
   have hbw : IntKind.i64.wrap ((by_ : Int).tmod 7) = ((by_ % 7 : Nat) : Int) := by rw [Int.tmod_eq_emod_of_nonneg (by omega)]; simp [IntKind.wrap, IntKind.bits, IntKind.signed]; omega
   have hb3 : by_ % 7 < 7 := Nat.mod_lt _ (by omega)
   have hu12 : ((mu : Int) % 12) = ((mu % 12 : Nat) : Int) := by omega
   have hv12 : ((mvv : Int) % 12) = ((mvv % 12 : Nat) : Int) := by omega
   have hlu : mu % 12 < 12 := Nat.mod_lt _ (by omega)
   have hlv : mvv % 12 < 12 := Nat.mod_lt _ (by omega)
   have hwu : IntKind.u64.wrap ((mu : Int).tmod 12) = ((mu % 12 : Nat) : Int) := by rw [Int.tmod_eq_emod_of_nonneg (by omega)]; simp [IntKind.wrap, IntKind.bits, IntKind.signed]; omega
   have hwv : IntKind.u64.wrap ((mvv : Int).tmod 12) = ((mvv % 12 : Nat) : Int) := by rw [Int.tmod_eq_emod_of_nonneg (by omega)]; simp [IntKind.wrap, IntKind.bits, IntKind.signed]; omega
   have hws : IntKind.i64.wrap ms = ms := by simp [IntKind.wrap, IntKind.bits, IntKind.signed]; omega
   generalize mu % 12 = u at *
   generalize mvv % 12 = v at *
   generalize by_ % 7 = dt at *
   obtain ⟨now, hnow⟩ : ∃ now, now = o.now := ⟨_, rfl⟩
   rw [← hnow] at hn0 hn1
   obtain ⟨t, ht⟩ : ∃ t, t = now + dt - 1 := ⟨_, rfl⟩
   have hwt : IntKind.i64.wrap (now + dt) = now + dt := by simp [IntKind.wrap, IntKind.bits, IntKind.signed]; omega
   have hwt1 : IntKind.i64.wrap (now + dt - 1) = t := by rw [ht]; simp [IntKind.wrap, IntKind.bits, IntKind.signed]; omega
   have ht1 : -9223372036854775808 ≤ t := by omega
   have ht2 : t ≤ 9223372036854775807 := by omega
   have HNow := Lib.hid (show ∀ w', Fr [] wr w' → Calls Tryz.prog 16 #[wptr pw] w' fun e w'' => e = .returned (.int .i64 now) ∧ w'' = w' from fun w' h => by
     rw [hnow]; exact td_now (hW.fr0 h))
   obtain ⟨xb, hxb⟩ : ∃ xb, xb = wr.heap.size := ⟨_, rfl⟩
   obtain ⟨CX, hCX⟩ : ∃ CX : Nat → World → Prop, CX = fun q w' => match q with
     | 0 => Fr [] wr w' ∧ w'.heap.size = xb
     | 1 => Fr [] wr w' ∧ Blk w' xb 42 [.int .u64 0, .int .u64 0, .int .i64 0, .int .i64 0]
     | _ => Fr [] wr w' ∧ Blk w' xb 42 [.int .u64 u, .int .u64 v, .int .i64 ms, .int .i64 t] := ⟨_, rfl⟩
   have HCF := Lib.hid (show ∀ q w', CX q w' → Fr [] wr w' from fun q w' h => by
     rw [hCX] at h
     match q, h with
     | 0, h => exact h.1
     | 1, h => exact h.1
     | n + 2, h => exact h.1)
   have HCX0 := Lib.hid (show CX 0 wr.drew by rw [hCX]; exact ⟨(Fr.refl [] wr).drew, hxb.symm⟩)
   have HAl := Lib.hid (show ∀ w', CX 0 w' → (w'.heap.size = xb ∧ CX 1 (w'.alloc (.cells #[.int .u64 0, .int .u64 0, .int .i64 0, .int .i64 0] 42))) from fun w' h => by
     rw [hCX] at h ⊢
     exact ⟨h.2, h.1.alloc _, by rw [← h.2]; exact Blk.new w' [.int .u64 0, .int .u64 0, .int .i64 0, .int .i64 0] _⟩)
   have HB1 := Lib.hid (show ∀ w', CX 1 w' → Fr [] wr w' ∧ Blk w' xb 42 [.int .u64 0, .int .u64 0, .int .i64 0, .int .i64 0] from fun w' h => by
     rw [hCX] at h; exact h)
   have HB2 := Lib.hid (show ∀ w', CX 2 w' → Fr [] wr w' ∧ Blk w' xb 42 [.int .u64 u, .int .u64 v, .int .i64 ms, .int .i64 t] from fun w' h => by
     rw [hCX] at h; exact h)
   have HSt := Lib.hid (show ∀ w', CX 1 w' → CX 2 ((((w'.setCell ⟨xb, 0, none⟩ (.int .u64 u)).setCell ⟨xb, 1, none⟩ (.int .u64 v)).setCell ⟨xb, 2, none⟩ (.int .i64 ms)).setCell ⟨xb, 3, none⟩ (.int .i64 t)) from fun w' h => by
     rw [hCX] at h ⊢
     obtain ⟨h1, h2⟩ := h
     have hx : ([] : List Nat) = [] := rfl
     exact ⟨(((h1.setCell _ _ (.inr (Nat.le_of_eq hxb.symm))).setCell _ _ (.inr (Nat.le_of_eq hxb.symm))).setCell _ _ (.inr (Nat.le_of_eq hxb.symm))).setCell _ _ (.inr (Nat.le_of_eq hxb.symm)), (((h2.set 0 (.int .u64 u)).set 1 (.int .u64 v)).set 2 (.int .i64 ms)).set 3 (.int .i64 t)⟩)
   have HW := Lib.hid (And.intro hW (And.intro hom (And.intro hoE hxb)))
   clear hW hom hoE hxb hCX hok hnow ht
   go_wp2_with fail
   refine region_sw [32, 33] CX (by kernel_rfl) (by kernel_rfl) (by kernel_rfl) HCX0.out ?_
   iterate 4 (refine sw_pure (by decide) (by kernel_rfl) (fun KK hK => ?_); go_simp; refine hK.out _ ?_; clear hK KK)
   refine sw_val (by decide) (by kernel_rfl) (.int .u8 mu) (fun q w' hw' => ?_) ?_
   {
   have m1 := (HCF.out q w' hw').cell m1 (by simp)
   go_simp
   first | done | exact hw' | exact ⟨rfl, hw'⟩
   }
   iterate 2 (refine sw_pure (by decide) (by kernel_rfl) (fun KK hK => ?_); go_simp; refine hK.out _ ?_; clear hK KK)
   iterate 4 (refine sw_pure (by decide) (by kernel_rfl) (fun KK hK => ?_); go_simp; refine hK.out _ ?_; clear hK KK)
   refine sw_val (by decide) (by kernel_rfl) (.int .u8 mvv) (fun q w' hw' => ?_) ?_
   {
   have m2 := (HCF.out q w' hw').cell m2 (by simp)
   go_simp
   first | done | exact hw' | exact ⟨rfl, hw'⟩
   }
   iterate 2 (refine sw_pure (by decide) (by kernel_rfl) (fun KK hK => ?_); go_simp; refine hK.out _ ?_; clear hK KK)
   iterate 4 (refine sw_pure (by decide) (by kernel_rfl) (fun KK hK => ?_); go_simp; refine hK.out _ ?_; clear hK KK)
   refine sw_val (by decide) (by kernel_rfl) (.int .i8 ms) (fun q w' hw' => ?_) ?_
   {
   have m3 := (HCF.out q w' hw').cell m3 (by simp)
   go_simp
   first | done | exact hw' | exact ⟨rfl, hw'⟩
   }
   iterate 1 (refine sw_pure (by decide) (by kernel_rfl) (fun KK hK => ?_); go_simp; refine hK.out _ ?_; clear hK KK)
   iterate 1 (refine sw_pure (by decide) (by kernel_rfl) (fun KK hK => ?_); go_simp; refine hK.out _ ?_; clear hK KK)
   refine sw_val (by decide) (by kernel_rfl) (.int .i64 now) (fun q w' hw' => ?_) ?_
   {
   go_simp
   refine (HNow.out w' (HCF.out q w' hw')).mono ?_
   rintro _ _ ⟨rfl, rfl⟩
   exact ⟨rfl, hw'⟩
   }
   iterate 4 (refine sw_pure (by decide) (by kernel_rfl) (fun KK hK => ?_); go_simp; refine hK.out _ ?_; clear hK KK)
   refine sw_val (by decide) (by kernel_rfl) (.int .u8 by_) (fun q w' hw' => ?_) ?_
   {
   have m0 := (HCF.out q w' hw').cell m0 (by simp)
   go_simp
   first | done | exact hw' | exact ⟨rfl, hw'⟩
   }
   iterate 2 (refine sw_pure (by decide) (by kernel_rfl) (fun KK hK => ?_); go_simp; refine hK.out _ ?_; clear hK KK)
   iterate 1 (refine sw_pure (by decide) (by kernel_rfl) (fun KK hK => ?_); go_simp; refine hK.out _ ?_; clear hK KK)
   iterate 1 (refine sw_pure (by decide) (by kernel_rfl) (fun KK hK => ?_); go_simp; refine hK.out _ ?_; clear hK KK)
   iterate 1 (refine sw_pure (by decide) (by kernel_rfl) (fun KK hK => ?_); go_simp; refine hK.out _ ?_; clear hK KK)
   refine sw_call 0 (by decide) (by kernel_rfl) (.pointer (some ⟨xb, 0, none⟩)) (fun w' hw' => ?_) ?_
   {
   unfold writeUpon
   go_simp
   exact HAl.out w' hw'
   }
   refine sw_call 1 (by decide) (by kernel_rfl) (undef) (fun w' hw' => ?_) ?_
   {
   obtain ⟨hF, hbx⟩ := HB1.out w' hw'
   have e0 := hbx.cell 0; have e1 := hbx.cell 1; have e2 := hbx.cell 2; have e3 := hbx.cell 3
   have z0 := hbx.frozen 0; have z1 := hbx.frozen 1; have z2 := hbx.frozen 2; have z3 := hbx.frozen 3
   simp only [List.getElem?_cons_zero, List.getElem?_cons_succ] at e0 e1 e2 e3
   unfold writeUpon
   go_simp
   exact HSt.out w' hw'
   }
   refine sw_nil ?_
   intro w6 hC6
   obtain ⟨hF6, hb6⟩ := HB2.out w6 hC6
   obtain ⟨hW, hom, hoE, hxb⟩ := HW.out
   have hWx : Wd W w6 [thB xb 42 [.int .u64 u, .int .u64 v, .int .i64 ms, .int .i64 t], thO pw o, thO pr o] := hW.new (K := [xb]) hF6 ⟨hb6, rfl⟩ (fun q hq => Nat.le_of_eq ((List.mem_singleton.1 hq).trans hxb).symm)
   have HWx := Lib.hid hWx
   have Hom := Lib.hid (And.intro hom hoE)
   obtain ⟨o1, ho1⟩ : ∃ o1, o1 = o.add u v ms t := ⟨_, rfl⟩
   obtain ⟨o2, ho2⟩ : ∃ o2, o2 = o1.tickS t := ⟨_, rfl⟩
   obtain ⟨c1, hc1⟩ : ∃ c1 : Int, c1 = (o.addC u v t : Nat) := ⟨_, rfl⟩
   obtain ⟨c2, hc2⟩ : ∃ c2 : Int, c2 = chkT o1.m o1.now t := ⟨_, rfl⟩
   have hk1 := o.add_k u v ms t
   rw [← ho1, hom, hoE] at hk1
   have hk2 := o1.tickS_k t
   rw [← ho2, hk1.1, hk1.2.1] at hk2
   obtain ⟨CS, hCS⟩ : ∃ CS : Nat → World → Prop, CS = fun q w' => Wd W w' (thB xb 42 [.int .u64 u, .int .u64 v, .int .i64 ms, .int .i64 t] :: (match q with
     | 0 => [thO pw o, thO pr o]
     | 1 => [thO pw o1, thO pr o]
     | 2 => [thO pw o1, thO pr o1]
     | 3 => [thO pw o2, thO pr o1]
     | _ => [thO pw o2, thO pr o2])) := ⟨_, rfl⟩
   have HBk := Lib.hid (show ∀ q w', CS q w' → Blk w' xb 42 [.int .u64 u, .int .u64 v, .int .i64 ms, .int .i64 t] from fun q w' h => by
     rw [hCS] at h; exact Wd.blk h)
   have HCS0 := Lib.hid (show CS 0 w6.drew by rw [hCS]; exact HWx.out.fr0 (Fr.refl [] w6).drew)
   have HA1 := Lib.hid (show ∀ w', CS 0 w' → Calls Tryz.prog 21 #[wptr pw, recA u v ms t] w' fun e w'' => e = .returned (.int .i64 c1) ∧ CS 1 w'' from fun w' h => by
     rw [hCS] at h ⊢
     rw [hc1, ho1]
     exact (td_add (Wd.swap h) u v (by omega) (by omega) ms t ht1 ht2).mono fun _ _ k => ⟨k.1, k.2.swap⟩)
   have HA2 := Lib.hid (show ∀ w', CS 1 w' → Calls Tryz.prog 21 #[wptr pr, recA u v ms t] w' fun e w'' => e = .returned (.int .i64 c1) ∧ CS 2 w'' from fun w' h => by
     rw [hCS] at h ⊢
     rw [hc1]
     have := (td_add (Wd.third h) u v (by omega) (by omega) ms t ht1 ht2)
     rw [← ho1] at this
     exact this.mono fun _ _ k => ⟨k.1, k.2.back3⟩)
   have HT1 := Lib.hid (show ∀ w', CS 2 w' → Calls Tryz.prog 17 #[wptr pw, .int .i64 t] w' fun e w'' => e = .returned (.int .i64 c2) ∧ CS 3 w'' from fun w' h => by
     rw [hCS] at h ⊢
     rw [hc2, ho2]
     exact (td_tick (Wd.swap h) t ht1 ht2).mono fun _ _ k => ⟨k.1, k.2.swap⟩)
   have HT2 := Lib.hid (show ∀ w', CS 3 w' → Calls Tryz.prog 17 #[wptr pr, .int .i64 t] w' fun e w'' => e = .returned (.int .i64 c2) ∧ CS 4 w'' from fun w' h => by
     rw [hCS] at h ⊢
     rw [hc2]
     have := (td_tick (Wd.third h) t ht1 ht2)
     rw [← ho2] at this
     exact this.mono fun _ _ k => ⟨k.1, k.2.back3⟩)
   have HAk := Lib.hid (show ∀ w', CS 4 w' → Calls Tryz.prog 34 #[wptr pw, wptr pr] w' fun e w'' => e = .returned (.bool true) ∧ CS 5 w'' from fun w' h => by
     rw [hCS] at h ⊢
     exact (alike_w (Wd.back3 h) hk2.2.1).mono fun _ _ k => ⟨k.1, k.2.third⟩)
   have HEnd := Lib.hid (show ∀ w', CS 5 w' → Wd W w' [thO pw o2, thO pr o2] from fun w' h => by
     rw [hCS] at h; exact Wd.drop h)
   have HK2 := Lib.hid (And.intro hk2.1 hk2.2.1)
   clear hC6 hF6 hb6 hW hom hoE hxb hWx ho1 ho2 hc1 hc2 hk1 hk2 hCS m0 m1 m2 m3 HNow HCX0 HAl HB1 HB2 HSt HCF HW
   go_wp2_with fail
   refine region_sw [2, 5, 11, 15, 21] CS (by kernel_rfl) (by kernel_rfl) (by kernel_rfl) HCS0.out ?_
   iterate 1 (refine sw_pure (by decide) (by kernel_rfl) (fun KK hK => ?_); go_simp; refine hK.out _ ?_; clear hK KK)
   refine sw_val (by decide) (by kernel_rfl) (recA u v ms t) (fun q w' hw' => ?_) ?_
   {
   have y0 := (HBk.out q w' hw').cell 0; have y1 := (HBk.out q w' hw').cell 1; have y2 := (HBk.out q w' hw').cell 2; have y3 := (HBk.out q w' hw').cell 3
   simp only [List.getElem?_cons_zero, List.getElem?_cons_succ] at y0 y1 y2 y3
   go_simp
   first | done | exact hw' | exact ⟨rfl, hw'⟩
   }
   refine sw_call 0 (by decide) (by kernel_rfl) (.int .i64 c1) (fun w' hw' => ?_) ?_
   {
   unfold writeUpon
   go_simp
   exact HA1.out w' hw'
   }
   iterate 1 (refine sw_pure (by decide) (by kernel_rfl) (fun KK hK => ?_); go_simp; refine hK.out _ ?_; clear hK KK)
   refine sw_val (by decide) (by kernel_rfl) (recA u v ms t) (fun q w' hw' => ?_) ?_
   {
   have y0 := (HBk.out q w' hw').cell 0; have y1 := (HBk.out q w' hw').cell 1; have y2 := (HBk.out q w' hw').cell 2; have y3 := (HBk.out q w' hw').cell 3
   simp only [List.getElem?_cons_zero, List.getElem?_cons_succ] at y0 y1 y2 y3
   go_simp
   first | done | exact hw' | exact ⟨rfl, hw'⟩
   }
   refine sw_call 1 (by decide) (by kernel_rfl) (.int .i64 c1) (fun w' hw' => ?_) ?_
   {
   unfold writeUpon
   go_simp
   exact HA2.out w' hw'
   }
   iterate 2 (refine sw_pure (by decide) (by kernel_rfl) (fun KK hK => ?_); go_simp; refine hK.out _ ?_; clear hK KK)
   iterate 2 (refine sw_pure (by decide) (by kernel_rfl) (fun KK hK => ?_); go_simp; refine hK.out _ ?_; clear hK KK)
   refine sw_val (by decide) (by kernel_rfl) (.int .i64 t) (fun q w' hw' => ?_) ?_
   {
   have y0 := (HBk.out q w' hw').cell 0; have y1 := (HBk.out q w' hw').cell 1; have y2 := (HBk.out q w' hw').cell 2; have y3 := (HBk.out q w' hw').cell 3
   simp only [List.getElem?_cons_zero, List.getElem?_cons_succ] at y0 y1 y2 y3
   go_simp
   first | done | exact hw' | exact ⟨rfl, hw'⟩
   }
   refine sw_call 2 (by decide) (by kernel_rfl) (.int .i64 c2) (fun w' hw' => ?_) ?_
   {
   unfold writeUpon
   go_simp
   exact HT1.out w' hw'
   }
   iterate 2 (refine sw_pure (by decide) (by kernel_rfl) (fun KK hK => ?_); go_simp; refine hK.out _ ?_; clear hK KK)
   refine sw_val (by decide) (by kernel_rfl) (.int .i64 t) (fun q w' hw' => ?_) ?_
   {
   have y0 := (HBk.out q w' hw').cell 0; have y1 := (HBk.out q w' hw').cell 1; have y2 := (HBk.out q w' hw').cell 2; have y3 := (HBk.out q w' hw').cell 3
   simp only [List.getElem?_cons_zero, List.getElem?_cons_succ] at y0 y1 y2 y3
   go_simp
   first | done | exact hw' | exact ⟨rfl, hw'⟩
   }
   refine sw_call 3 (by decide) (by kernel_rfl) (.int .i64 c2) (fun w' hw' => ?_) ?_
   {
   unfold writeUpon
   go_simp
   exact HT2.out w' hw'
   }
   iterate 1 (refine sw_pure (by decide) (by kernel_rfl) (fun KK hK => ?_); go_simp; refine hK.out _ ?_; clear hK KK)
   iterate 1 (refine sw_pure (by decide) (by kernel_rfl) (fun KK hK => ?_); go_simp; refine hK.out _ ?_; clear hK KK)
   iterate 1 (refine sw_pure (by decide) (by kernel_rfl) (fun KK hK => ?_); go_simp; refine hK.out _ ?_; clear hK KK)
   iterate 2 (refine sw_pure (by decide) (by kernel_rfl) (fun KK hK => ?_); go_simp; refine hK.out _ ?_; clear hK KK)
   refine sw_call 4 (by decide) (by kernel_rfl) (.bool true) (fun w' hw' => ?_) ?_
   {
   unfold writeUpon
   go_simp
   exact HAk.out w' hw'
   }
   iterate 2 (refine sw_pure (by decide) (by kernel_rfl) (fun KK hK => ?_); go_simp; refine hK.out _ ?_; clear hK KK)
   refine sw_nil ?_
   intro w7 hC7
   have HN := Lib.hid (show ∃ o, Wd W w7 [thO pw o, thO pr o] ∧ o.m = 20 ∧ o.E = 40 from ⟨o2, HEnd.out w7 hC7, HK2.out.1, HK2.out.2⟩)
   clear hC7 HEnd HAk HT1 HT2 HA1 HA2 HBk HCS0
   go_wp2_with fail
   go_roundw
   case rel => exact ⟨k + 1, by omega, by go_num, HN⟩
   case measure => simp [intOf]; omega
   }
   {
   obtain rfl : k = len2 := by omega
   obtain ⟨o, hW, _⟩ := HR.out
   have HFr := Lib.hid hW.frm
   clear hW HR
   go_wp2_with fail
   refine (HWk.out _).mono ?_
   rintro _ w12 ⟨rfl, hF⟩
   have HF := Lib.hid (HFr.out.trans' hF); clear hF
   go_wp2
   go_ret
   exact ⟨rfl, HF.out.below (by simp)⟩
   }
  }
 }
 {
 by_cases hlen : len ≤ 60
 {
 have d0 : decide ((len : Int) > 60) = false := decide_eq_false (by omega)
 have d1 : decide ((len2 : Int) > 30) = true := decide_eq_true (by omega)
 clear hz hz2 hgo
 go_enter Tryz.func8, Tryz.ntmps8
 go_wp2_with fail
 refine (HWk.out _).mono ?_
 rintro _ w1 ⟨rfl, hF⟩
 have HF := Lib.hid hF; clear hF
 go_wp2
 go_ret
 exact ⟨rfl, HF.out.below (by simp)⟩
 }
 {
 have d0 : decide ((len : Int) > 60) = true := decide_eq_true (by omega)
 clear hz hz2 hgo
 go_enter Tryz.func8, Tryz.ntmps8
 go_wp2_with fail
 refine (HWk.out _).mono ?_
 rintro _ w1 ⟨rfl, hF⟩
 have HF := Lib.hid hF; clear hF
 go_wp2
 go_ret
 exact ⟨rfl, HF.out.below (by simp)⟩
 }
 }
end Go.Proofs.YtgmnemndjjmgkaaGreat
namespace Go.Proofs.YtgmnemndjjmgkaaGreat.windowRenews
open Go.ChangeShapes Go.WideShapes Go.ChangeAt Go.RowKit
set_option linter.unusedVariables false
theorem own : ownKnob Tryz.prog.godebug = none := by kernel_rfl
theorem laidOut : laidOutB Tryz.prog = true := by kernel_rfl
set_option maxRecDepth 100000 in
theorem lifted (os : Os) (started : os.Started) (H : Type) (enc : TypeId × Value → H) :
    ReturnsInHanded {} Tryz.checked os 8 .any (Rows.windowRenewsSpec.pre6 enc Tryz.prog Tryz.f8 Rows.windowRenewsRow.domain false) (Rows.windowRenewsSpec.post enc Tryz.prog Tryz.f8 false true false false) := by
 refine returnsInHanded_of_change (C := Tryz.checked) own started (by kernel_rfl) Tryz.func8
   (ChangeSpec.witness6 (enc := enc) (C := Tryz.checked) false ⟨#[], #[.slice none 0 0, .slice none 0 0], []⟩ 8 (by kernel_rfl) (by kernel_rfl) (by kernel_rfl) (by kernel_rfl)) ?_
 intro W base args ds gs before hval0 hW hcnd _
 have hval : ∀ (j : Nat) t v, Tryz.f8.params[j]? = some t → args[j]? = some v → Value.okWide Tryz.prog W .any base t v := hval0
 have hW' := hW
 obtain ⟨p, q, hA0, hV, rfl, hfz, hnd⟩ := hW
 have hA : DataW.TrodAll enc Tryz.prog W 0 (fun _ => true) true Tryz.f8.params.toList args.toList ds p := hA0
 rw [Tryz.params8] at hA hval
 obtain ⟨v0, vs0, d0, ds0, p0, q0, hargs, rfl, rfl, h0, r0⟩ := trodAll_cons hA
 obtain ⟨v1, vs1, d1, ds1, p1, q1, rfl, rfl, rfl, h1, r1⟩ := trodAll_cons r0
 obtain ⟨rfl, rfl, rfl⟩ := trodAll_nil r1
 obtain rfl : args = #[v0, v1] := by cases args; simp_all
 obtain ⟨rfl, rfl⟩ := trodVars_none hV
 obtain ⟨a0, len0, cap0, rfl⟩ := okWide_slice Tryz.underlying22 (hval 0 22 v0 rfl rfl)
 have k0 := h0
 have lt0 : ∀ x ∈ p0, x.block < W.heap.size := by obtain ⟨m, hm⟩ := k0; exact DataW.trod_lt m _ _ _ hm
 obtain ⟨z0, w0⟩ := open_moves37 h0
 obtain ⟨a1, len1, cap1, rfl⟩ := okWide_slice Tryz.underlying22 (hval 1 22 v1 rfl rfl)
 have k1 := h1
 have lt1 : ∀ x ∈ p1, x.block < W.heap.size := by obtain ⟨m, hm⟩ := k1; exact DataW.trod_lt m _ _ _ hm
 obtain ⟨z1, w1⟩ := open_moves37 h1
 clear hA0 hval0
 refine (walk_windowRenews W a0 len0 cap0 z0 w0 a1 len1 cap1 z1 w1).mono fun e W' ⟨he, bel⟩ => ?_
 subst he
 exact ⟨_, rfl, _, _, _, [], _, [], hW', trodAll_mk1 (shut_bool Tryz.underlying4 _), (trodAll_cons_mk (Below.trod laidOut (by kernel_rfl) (of_decide_eq_true (by kernel_rfl)) k0 bel lt0) (trodAll_cons_mk (Below.trod laidOut (by kernel_rfl) (of_decide_eq_true (by kernel_rfl)) k1 bel lt1) trodAll_mk0)), rfl, bel.frame _, fun h => by cases h⟩
theorem over : Rows.windowRenewsRow.holds Tryz.pinned (OpenSpec.ofChange Rows.windowRenewsSpec) :=
  OpenClaim.holds_of_wide 8 Tryz.f8 rfl rfl rfl rfl rfl rfl rfl ⟨rfl, rfl, rfl, rfl, rfl⟩ rfl rfl rfl rfl rfl (by kernel_rfl) Tryz.func8 (by kernel_rfl)
    (of_decide_eq_true (by kernel_rfl)) (by unfold Func.isWrapper; first | (rw [if_pos (by decide +kernel)]; kernel_rfl) | (rw [if_neg (by decide +kernel)]; exact ⟨rfl, rfl⟩))
    (fun os started H enc _ => lifted os started H enc)
end Go.Proofs.YtgmnemndjjmgkaaGreat.windowRenews
namespace Go.Proofs.YtgmnemndjjmgkaaGreat
theorem windowRenews_holds : Rows.WindowRenewsSaid := windowRenews.over
#print axioms windowRenews_holds
end Go.Proofs.YtgmnemndjjmgkaaGreat
