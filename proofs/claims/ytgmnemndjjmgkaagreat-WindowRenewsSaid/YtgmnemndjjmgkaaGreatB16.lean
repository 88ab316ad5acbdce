/- A window: rows that are compared. -/
import Derived.Test.YtgmnemndjjmgkaaGreatB15
set_option linter.unusedSimpArgs false
set_option linter.unusedVariables false
/- A window: Add, also refused, over what it shows. -/
namespace Go.Proofs.YtgmnemndjjmgkaaGreat
open Go.RowKit
set_option maxRecDepth 10000
set_option maxHeartbeats 1600000
section
variable {w w' : World} {pw : Nat} {W : Wm} {K : List Nat}
theorem wat_add_loop (h : WinAt w pw W K) (u : Nat) (wt t : Int) : Calls Tryz.prog 21 #[wptr pw, recA u u wt t] w fun e w' => e = .returned (.int .i64 9) ∧ Fr [] w w' := by
 have h1 := h.fr0 ((Fr.refl [] w).alloc (.cells #[.int .u64 u, .int .u64 u, .int .i64 wt, .int .i64 t] 42))
 obtain ⟨hok, pc, ps, px, pf, nq, Ks, lx, Lf, cl, hB1, rfl⟩ := h1
 have hbx := Blk.new w [.int .u64 u, .int .u64 u, .int .i64 wt, .int .i64 t] 42
 have HF := Lib.hid ((Fr.refl [] w).alloc (.cells #[.int .u64 u, .int .u64 u, .int .i64 wt, .int .i64 t] 42))
 have HV := Lib.hid (wvalid_w hB1)
 have r0 := hbx.cell 0; have r1 := hbx.cell 1
 simp only [List.getElem?_cons_zero, List.getElem?_cons_succ] at r0 r1
 clear hB1 hbx h hok
 go_enter Tryz.func21, Tryz.ntmps21
 go_wp2_with fail
 refine HV.out.mono ?_
 rintro _ w1 ⟨rfl, rfl⟩
 go_wp2
 go_ret
 exact ⟨rfl, HF.out⟩
theorem wat_add_no (h : WinAt w pw W K) (u v : Nat) (hne : u ≠ v) (wt t : Int) (ht1 : -9223372036854775808 ≤ t) (ht2 : t ≤ 9223372036854775807) (hc : chkT W.m W.now t ≠ 0) :
    Calls Tryz.prog 21 #[wptr pw, recA u v wt t] w fun e w' => e = .returned (.int .i64 (chkT W.m W.now t)) ∧ Fr [] w w' := by
 have h1 := h.fr0 ((Fr.refl [] w).alloc (.cells #[.int .u64 u, .int .u64 v, .int .i64 wt, .int .i64 t] 42))
 have hbx := Blk.new w [.int .u64 u, .int .u64 v, .int .i64 wt, .int .i64 t] 42
 obtain ⟨w1, hw1⟩ : ∃ w1, w1 = w.alloc (.cells #[.int .u64 u, .int .u64 v, .int .i64 wt, .int .i64 t] 42) := ⟨_, rfl⟩
 rw [show w.alloc (.cells [.int .u64 u, .int .u64 v, .int .i64 wt, .int .i64 t].toArray 42) = w.alloc (.cells #[.int .u64 u, .int .u64 v, .int .i64 wt, .int .i64 t] 42) from rfl] at hbx
 have HF := Lib.hid ((Fr.refl [] w).alloc (.cells #[.int .u64 u, .int .u64 v, .int .i64 wt, .int .i64 t] 42))
 rw [← hw1] at hbx h1 HF
 obtain ⟨hok, pc, ps, px, pf, nq, Ks, lx, Lf, cl, hB1, rfl⟩ := h1
 have HV := Lib.hid (wvalid_w hB1)
 have HCk := Lib.hid (fun (nq : Nat) => ccheck_w (hB1.clk.fr0 ((Fr.refl [] w1).drewN nq)) t ht1 ht2)
 rw [show chkT (W.wp nq).m (W.wp nq).now t = chkT W.m W.now t from rfl] at HCk
 have c4 := hB1.hd.cell 4
 have r0 := hbx.cell 0; have r1 := hbx.cell 1; have r3 := hbx.cell 3
 simp only [List.getElem?_cons_zero, List.getElem?_cons_succ] at c4 r0 r1 r3
 generalize chkT W.m W.now t = c at *
 have d1 : ((u : Int) == v) = false := by simp; omega
 have d4 : (c != 0) = true := by simp [hc]
 clear h hok hB1 hbx hc
 go_enter Tryz.func21, Tryz.ntmps21
 obtain ⟨xb, hxb⟩ : ∃ xb, xb = w.heap.size := ⟨_, rfl⟩
 have HW1 := Lib.hid hw1
 rw [hw1] at r0 r1 HV
 clear hw1
 go_wp2_with fail
 refine HV.out.mono ?_
 rintro _ _ ⟨rfl, rfl⟩
 go_wp2_with fail
 rw [← HW1.out, ← hxb]
 rw [← HW1.out] at r0 r1
 rw [← hxb] at r0 r1 r3
 clear hxb HV HW1
 refine region_one 6 (fun w' => ∃ nq, w' = w1.drewN nq) (by kernel_rfl) (by kernel_rfl) (by kernel_rfl) ?_
 iterate 6 (refine gWalk_pre (by decide) (fun K hK => ?_); go_simp; refine hK _ ?_; clear hK K)
 refine gWalk_write rfl (.int .i64 c) (fun w' hw' => ?_) ?_
 {
 obtain ⟨nq, rfl⟩ := hw'
 go_simp
 refine (HCk.out nq).mono ?_
 rintro _ _ ⟨rfl, rfl⟩
 exact ⟨rfl, nq, rfl⟩
 }
 iterate 1 (refine gWalk_post (by decide) (fun K hK => ?_); go_simp; refine hK _ ?_; clear hK K)
 refine gWalk_nil ?_
 rintro _ ⟨nq2, rfl⟩
 have HF02 := Lib.hid (HF.out.drewN nq2)
 clear c4 r0 r1 r3 HCk HF
 generalize w1.drewN nq2 = W2 at *
 go_wp2
 go_ret
 exact ⟨rfl, HF02.out⟩
theorem wat_add_over (h : WinAt w pw W K) (u v : Nat) (hne : u ≠ v) (wt t : Int) (ht1 : -9223372036854775808 ≤ t) (ht2 : t ≤ 9223372036854775807) (hc : chkT W.m W.now t = 0) (hl : 9223372036854775807 ≤ W.s.last) :
    Calls Tryz.prog 21 #[wptr pw, recA u v wt t] w fun e w' => e = .returned (.int .i64 7) ∧ Fr [] w w' := by
 have h1 := h.fr0 ((Fr.refl [] w).alloc (.cells #[.int .u64 u, .int .u64 v, .int .i64 wt, .int .i64 t] 42))
 have hbx := Blk.new w [.int .u64 u, .int .u64 v, .int .i64 wt, .int .i64 t] 42
 obtain ⟨w1, hw1⟩ : ∃ w1, w1 = w.alloc (.cells #[.int .u64 u, .int .u64 v, .int .i64 wt, .int .i64 t] 42) := ⟨_, rfl⟩
 rw [show w.alloc (.cells [.int .u64 u, .int .u64 v, .int .i64 wt, .int .i64 t].toArray 42) = w.alloc (.cells #[.int .u64 u, .int .u64 v, .int .i64 wt, .int .i64 t] 42) from rfl] at hbx
 have HF := Lib.hid ((Fr.refl [] w).alloc (.cells #[.int .u64 u, .int .u64 v, .int .i64 wt, .int .i64 t] 42))
 rw [← hw1] at hbx h1 HF
 obtain ⟨hok, pc, ps, px, pf, nq, Ks, lx, Lf, cl, hB1, rfl⟩ := h1
 have HV := Lib.hid (wvalid_w hB1)
 have HCk := Lib.hid (fun (nq : Nat) => ccheck_w (hB1.clk.fr0 ((Fr.refl [] w1).drewN nq)) t ht1 ht2)
 rw [show chkT (W.wp nq).m (W.wp nq).now t = 0 from hc] at HCk
 have c4 := hB1.hd.cell 4; have c8 := hB1.hd.cell 8
 have r0 := hbx.cell 0; have r1 := hbx.cell 1; have r3 := hbx.cell 3
 simp only [List.getElem?_cons_zero, List.getElem?_cons_succ] at c4 c8 r0 r1 r3
 rw [show (W.wp nq).added = W.s.last from rfl] at c8
 have d1 : ((u : Int) == v) = false := by simp; omega
 have d2 : decide ((W.s.last : Int) ≥ 9223372036854775807) = true := decide_eq_true (by omega)
 have d3 : decide (W.s.last ≥ 9223372036854775807) = true := decide_eq_true (by omega)
 clear h hok hB1 hbx hc
 go_enter Tryz.func21, Tryz.ntmps21
 obtain ⟨xb, hxb⟩ : ∃ xb, xb = w.heap.size := ⟨_, rfl⟩
 have HW1 := Lib.hid hw1
 rw [hw1] at r0 r1 HV
 clear hw1
 go_wp2_with fail
 refine HV.out.mono ?_
 rintro _ _ ⟨rfl, rfl⟩
 go_wp2_with fail
 rw [← HW1.out, ← hxb]
 rw [← HW1.out] at r0 r1
 rw [← hxb] at r0 r1 r3
 clear hxb HV HW1
 refine region_one 6 (fun w' => ∃ nq, w' = w1.drewN nq) (by kernel_rfl) (by kernel_rfl) (by kernel_rfl) ?_
 iterate 6 (refine gWalk_pre (by decide) (fun K hK => ?_); go_simp; refine hK _ ?_; clear hK K)
 refine gWalk_write rfl (.int .i64 0) (fun w' hw' => ?_) ?_
 {
 obtain ⟨nq, rfl⟩ := hw'
 go_simp
 refine (HCk.out nq).mono ?_
 rintro _ _ ⟨rfl, rfl⟩
 exact ⟨rfl, nq, rfl⟩
 }
 iterate 1 (refine gWalk_post (by decide) (fun K hK => ?_); go_simp; refine hK _ ?_; clear hK K)
 refine gWalk_nil ?_
 rintro _ ⟨nq2, rfl⟩
 have HF02 := Lib.hid (HF.out.drewN nq2)
 have c8 := ((Fr.refl [] w1).drewN nq2).cell c8 (by simp)
 clear c4 r0 r1 r3 HCk HF
 generalize w1.drewN nq2 = W2 at *
 go_wp2
 go_ret
 exact ⟨rfl, HF02.out⟩
end
section
variable {W wr w' : World} {p : Nat} {o : Ob} {ts : List Th}
theorem td_add (h : Wd W wr (thO p o :: ts)) (u v : Nat) (hu : u < 18446744073709551616) (hv : v < 18446744073709551616) (wt t : Int) (ht1 : -9223372036854775808 ≤ t) (ht2 : t ≤ 9223372036854775807) :
    Calls Tryz.prog 21 #[wptr p, recA u v wt t] wr fun e w' => e = .returned (.int .i64 (o.addC u v t : Nat)) ∧ Wd W w' (thO p (o.add u v wt t) :: ts) := by
 obtain ⟨K, ⟨X, rfl, k1⟩, hs⟩ := h.open
 by_cases hne : u = v
 {
 subst hne
 have e : X.ob.addC u u t = 9 := by unfold Ob.addC; exact if_pos rfl
 unfold Ob.add
 rw [e, if_neg (by decide)]
 exact (wat_add_loop k1 u wt t).mono fun _ _ k => ⟨k.1, h.fr0 k.2⟩
 }
 {
 by_cases hc : chkT X.m X.now t = 0
 {
 obtain ⟨q1, q2⟩ := chkT_ok hc
 by_cases hl : X.s.last < 9223372036854775807
 {
 refine (wat_add k1 u v hu hv hne wt t ht1 ht2 hc hl).mono ?_
 rintro _ w' ⟨c, rfl, ds, Q', hm, hres⟩
 have e := addC_tick k1.1 hne hc hl hm
 rcases hres with ⟨g1, _, g2, g3⟩ | ⟨g1, g2, a, b, _, _, g3⟩
 {
 have e' : X.ob.addC u v t = c := e.trans g2.symm
 refine ⟨by rw [e'], ?_⟩
 unfold Ob.add
 rw [e', if_neg g1]
 exact h.fr0 g3
 }
 {
 have e' : X.ob.addC u v t = 0 := e.trans g2
 subst g1
 refine ⟨by rw [e'], ?_⟩
 unfold Ob.add
 rw [e', if_pos rfl]
 have := stp_of g3
 rw [ob_put, ob_tick k1.1 hm] at this
 exact hs this
 }
 }
 {
 have e : X.ob.addC u v t = 7 := by {
 unfold Ob.addC
 rw [if_neg hne, if_neg (show ¬ t < X.ob.now by show ¬ t < X.now; omega), if_pos (.inr (by show _ ≤ X.s.last; omega))]
 }
 unfold Ob.add
 rw [e, if_neg (by decide)]
 exact (wat_add_over k1 u v hne wt t ht1 ht2 hc (by omega)).mono fun _ _ k => ⟨k.1, h.fr0 k.2⟩
 }
 }
 {
 have e : ((X.ob.addC u v t : Nat) : Int) = chkT X.m X.now t := by {
 unfold Ob.addC chkT sumC
 rw [if_neg hne]
 by_cases h1 : t < X.now
 · rw [if_pos (show t < X.ob.now from h1), if_pos h1]; rfl
 {
 have h2 : ¬ t + X.m ≤ 9223372036854775807 := fun hh => hc (by unfold chkT sumC; rw [if_neg h1, if_pos hh])
 rw [if_neg (show ¬ t < X.ob.now from h1), if_neg h1, if_neg h2, if_pos (.inl (by show _ < t + X.m; omega))]; rfl
 }
 }
 have e0 : X.ob.addC u v t ≠ 0 := fun hh => hc (by rw [← e, hh]; rfl)
 unfold Ob.add
 rw [if_neg e0, e]
 exact (wat_add_no k1 u v hne wt t ht1 ht2 hc).mono fun _ _ k => ⟨k.1, h.fr0 k.2⟩
 }
 }
end
set_option maxHeartbeats 800000
theorem Wd.of_ww {W wr : World} {p : Nat} {X : Wm} (h : WW W wr p X) : Wd W wr [thO p X.ob] := by
 obtain ⟨K, h1, h2, h3⟩ := h
 exact ⟨h2, K ++ [], K, [], ⟨X, rfl, h1⟩, h3, rfl, by simp, rfl⟩
structure Og (o : Ob) (k : Nat) : Prop where
  ok : o.Ok
  m : o.m = 20
  E : o.E = 40
  V : o.V = 12
  D : o.D = 0
  now : o.now ≤ 3 * k
  id : ∀ e ∈ o.L, e.u < 12 ∧ e.v < 12
  last : o.last ≤ k
theorem Og.of {X : Wm} {k : Nat} (h : Bg X k) (hok : X.Ok) : Og X.ob k :=
  ⟨hok.ob, h.m, h.E, h.V, h.D, h.now, fun e he => by
 obtain ⟨d, hd, rfl⟩ := List.mem_map.1 he
 exact h.id d hd, h.last⟩
theorem begun_o (W : World) (a : Option Addr) (len cap : Nat) (z : Nat → Nat × Nat × Nat × Int) (hz : MovesW W a len z) (hlen : len ≤ 100) :
    Calls Tryz.prog 13 #[.slice a len cap] W fun e w' => ∃ p o, e = .returned (wptr p) ∧ Wd W w' [thO p o] ∧ Og o len :=
  (begun_w W a len cap z hz hlen).mono fun _ _ ⟨p, X, h1, h2, h3⟩ => ⟨p, X.ob, h1, Wd.of_ww h2, Og.of h3 h2.ok⟩
section
variable {o : Ob} {k : Nat}
end
set_option maxHeartbeats 1000000
def rcEq (u v u' v' : Nat) (wt t wt' t' : Int) : Bool := (u == u') && (v == v') && (wt == wt') && (t == t')
theorem rcEq_self (u v : Nat) (wt t : Int) : rcEq u v u v wt t wt t = true := by simp [rcEq]
@[go_sem high] theorem eqIn_rec37 (u v u' v' : Nat) (wt t wt' t' : Int) (w : World) : (Op.equalIn 10000 42 (.agg #[.int .u64 u, .int .u64 v, .int .i64 wt, .int .i64 t]) (.agg #[.int .u64 u', .int .u64 v', .int .i64 wt', .int .i64 t'])).run Tryz.prog w = .ok (rcEq u v u' v' wt t wt' t') w := by
 have hc : ∀ (a b : Nat), ((a : Int) == (b : Int)) = (a == b) := fun a b => by rw [Bool.eq_iff_iff]; simp only [beq_iff_eq]; omega
 rw [show (10000 : Nat) = 9999 + 1 from rfl, run_equalIn_struct w 9999 _ _ _ (by kernel_rfl) (by kernel_rfl)]
 unfold rcEq
 simp only [Program.fieldsOf, Tryz.underlying42, Op.eqFields]
 go_simp
 by_cases h1 : u = u' <;> by_cases h2 : v = v' <;> by_cases h3 : wt = wt' <;> by_cases h4 : t = t' <;> simp [h1, h2, h3, h4]
@[go_sem] theorem guard_rec37 (op : BinOp) (x y : Operand) (xs ys : Array Value) (w : World) : (eqGuard op 42 x y (.agg xs) (.agg ys)).run Tryz.prog w = .ok () w := run_eqGuard_agg w op 42 x y xs ys (by kernel_rfl)
theorem Fr.of_drewN37 (w : World) (k : Nat) : Fr [] w (w.drewN k) := (Fr.refl [] w).drewN k
theorem drewN_add37 (w : World) (a b : Nat) : (w.drewN a).drewN b = w.drewN (a + b) := by
 unfold World.drewN
 simp [Nat.add_assoc]
theorem core_eq {x y : Lv} (h : core x = core y) : y.seq = x.seq ∧ y.u = x.u ∧ y.v = x.v ∧ y.wt = x.wt ∧ y.t = x.t ∧ y.x = x.x := by
 unfold core at h
 simp only [Lv.mk.injEq, true_and] at h
 obtain ⟨h1, h2, h3, h4, h5, h6⟩ := h
 exact ⟨h1.symm, h2.symm, h3.symm, h4.symm, h5.symm, h6.symm⟩
theorem lives_w {w : World} {v u : Value} {p q : List Lv} {n : Nat} (hv : RowV w v p) (hu : RowV w u q) (hpq : p.map core = q.map core) (hn : (p.map (·.slot)).Nodup) (hlt : ∀ e ∈ p, e.slot < n) (hp : p.length ≤ 65536) :
    Calls Tryz.prog 25 #[v, u, .int .i64 n] w fun e w' => e = .returned (.bool true) ∧ Fr [] w w' := by
 have hl : p.length = q.length := by have := congrArg List.length hpq; simpa using this
 obtain ⟨a1, c1, rfl⟩ := hv.slice
 obtain ⟨a2, c2, rfl⟩ := hu.slice
 have HV := Lib.hid hv; clear hv
 have HU := Lib.hid hu; clear hu
 have HP := Lib.hid (And.intro hpq (And.intro hn hlt)); clear hpq hn hlt
 have hb : ((p.length : Int) != (q.length : Int)) = false := by simp; omega
 go_enter Tryz.func25, Tryz.ntmps25
 go_wp2
 go_loopw [7] (fun x wr => ∃ i : Nat, i ≤ p.length ∧ x = .int .i64 i ∧ (∃ k, wr = w.drewN k)) (fun x _ => p.length - (intOf x).toNat)
 case atStart => exact ⟨0, Nat.zero_le _, rfl, ⟨0, rfl⟩⟩
 case round =>
  obtain ⟨i, hi, rfl, ⟨k, rfl⟩⟩ := hrel
  by_cases hlt : i < p.length
  {
  obtain ⟨b1, c1', e1, _, _, _, r1⟩ := HV.out.at hlt
  obtain ⟨b2, c2', e2, _, _, _, r2⟩ := HU.out.at (show i < q.length by omega)
  simp only [Value.slice.injEq, true_and] at e1 e2
  obtain ⟨rfl, rfl⟩ := e1
  obtain ⟨rfl, rfl⟩ := e2
  have hi1 : (i : Int) < p.length := by omega
  have hi2 : (i : Int) < q.length := by omega
  have hi0 : (0 : Int) ≤ i := by omega
  have hc : core (p[i]'hlt) = core (q[i]'(by omega)) := by {
  have h1 : (p.map core)[i]? = (q.map core)[i]? := by rw [HP.out.1]
  rw [List.getElem?_map, List.getElem?_map, List.getElem?_eq_getElem hlt, List.getElem?_eq_getElem (show i < q.length by omega)] at h1
  exact Option.some.inj h1
  }
  obtain ⟨g1, g2, g3, g4, g5, g6⟩ := core_eq hc
  have hsl := HP.out.2.2 _ (List.getElem_mem hlt)
  have hgp : p[i]? = some (p[i]'hlt) := List.getElem?_eq_getElem hlt
  have Hg := Lib.hid hgp; clear hgp
  unfold LvAt at r1 r2
  rw [g1, g2, g3, g4, g5, g6] at r2
  clear hc g1 g2 g3 g4 g5 g6
  generalize p[i]'hlt = x at *
  generalize (q[i]'(by omega)).slot = ys at *
  obtain ⟨x0, x1, x2, x3, x4, x5, x6⟩ := r1
  obtain ⟨y0, y1, y2, y3, y4, y5, y6⟩ := r2
  have hre := rcEq_self x.u x.v x.wt x.t
  have hs0 : decide ((x.slot : Int) < 0) = false := decide_eq_false (by omega)
  have hs1 : decide ((x.slot : Int) ≥ n) = false := decide_eq_false (by omega)
  have hs2 : decide (x.slot ≥ n) = false := decide_eq_false (by omega)
  go_wp2
  go_quiet (fail)
  clear x0 x1 x2 x3 x4 x5 x6 y0 y1 y2 y3 y4 y5 y6 hre hs0 hs1 hs2
  go_wp2_with fail
  rename_i nq
  go_loopw [8] (fun xj wr => ∃ j : Nat, j ≤ i ∧ xj = .int .i64 j ∧ (∃ k, wr = w.drewN k)) (fun xj _ => i - (intOf xj).toNat)
  case atStart => exact ⟨0, Nat.zero_le _, rfl, ⟨_, drewN_add37 _ _ _⟩⟩
  case round =>
   obtain ⟨j, hj, rfl, ⟨k', rfl⟩⟩ := hrel
   by_cases hji : j < i
   {
   obtain ⟨b1', c1', e1, _, _, _, r1⟩ := HV.out.at hlt
   obtain ⟨b2', c2', e2, _, _, _, r2⟩ := HV.out.at (show j < p.length by omega)
   simp only [Value.slice.injEq, Option.some.injEq, Addr.mk.injEq, and_true, true_and] at e1 e2
   obtain ⟨rfl, rfl⟩ := e1
   obtain ⟨rfl, rfl⟩ := e2
   have hji0 : (j : Int) < i := by omega
   have hj1 : (j : Int) < p.length := by omega
   have hj0 : (0 : Int) ≤ j := by omega
   have hds : (((p[i]'hlt).slot : Int) == (p[j]'(by omega)).slot) = false := by {
   have := (List.pairwise_iff_getElem.1 (List.pairwise_map.1 HP.out.2.1)) j i (by omega) hlt hji
   simp only [beq_eq_false_iff_ne, ne_eq]; omega
   }
   obtain ⟨x0, _⟩ := r1
   obtain ⟨y0, _⟩ := r2
   generalize (p[i]'hlt).slot = xs at *
   generalize (p[j]'(by omega)).slot = ys' at *
   go_wp2
   go_quiet (fail)
   clear x0 y0 hds
   go_wp2_with fail
   go_roundw
   case rel => exact ⟨j + 1, by omega, by go_num, ⟨_, rfl⟩⟩
   case measure => simp [intOf]; omega
   }
   {
   have hji0 : ¬ (j : Int) < i := by omega
   go_wp2_with fail
   go_roundw
   case rel => exact ⟨i + 1, by omega, by go_num, ⟨_, rfl⟩⟩
   case measure => simp [intOf]; omega
   }
  }
  {
  obtain rfl : i = p.length := by omega
  go_wp2
  go_ret
  exact ⟨rfl, Fr.of_drewN37 w k⟩
  }
theorem ids37_w {w : World} {v u : Value} {p : List Nat} (hv : RowU w v p) (hu : RowU w u p) (hp : p.length ≤ 65536) :
    Calls Tryz.prog 31 #[v, u] w fun e w' => e = .returned (.bool true) ∧ Fr [] w w' := by
 obtain ⟨a1, c1, rfl⟩ := hv.slice
 obtain ⟨a2, c2, rfl⟩ := hu.slice
 have HV := Lib.hid hv; clear hv
 have HU := Lib.hid hu; clear hu
 go_enter Tryz.func31, Tryz.ntmps31
 go_wp2
 go_loopw [5] (fun x wr => ∃ i : Nat, i ≤ p.length ∧ x = .int .i64 i ∧ (∃ k, wr = w.drewN k)) (fun x _ => p.length - (intOf x).toNat)
 case atStart => exact ⟨0, Nat.zero_le _, rfl, ⟨0, rfl⟩⟩
 case round =>
  obtain ⟨i, hi, rfl, ⟨k, rfl⟩⟩ := hrel
  by_cases hlt : i < p.length
  {
  obtain ⟨b1, c1', e1, _, r1⟩ := HV.out.at hlt
  obtain ⟨b2, c2', e2, _, r2⟩ := HU.out.at hlt
  simp only [Value.slice.injEq, true_and] at e1 e2
  obtain ⟨rfl, rfl⟩ := e1
  obtain ⟨rfl, rfl⟩ := e2
  have hi1 : (i : Int) < p.length := by omega
  have hi0 : (0 : Int) ≤ i := by omega
  generalize p[i]'hlt = x at *
  go_wp2
  go_quiet (fail)
  go_wp2
  go_roundw
  case rel => exact ⟨i + 1, by omega, by go_num, ⟨_, rfl⟩⟩
  case measure => simp [intOf]; omega
  }
  {
  obtain rfl : i = p.length := by omega
  go_wp2
  go_ret
  exact ⟨rfl, Fr.of_drewN37 w k⟩
  }
end Go.Proofs.YtgmnemndjjmgkaaGreat
