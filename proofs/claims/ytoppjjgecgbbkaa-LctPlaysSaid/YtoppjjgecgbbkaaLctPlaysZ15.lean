/- The statement 'LctPlays': for every input the call returns true, and each argument reads afterwards as it read before. -/
import Derived.Test.YtoppjjgecgbbkaaLctPlaysZ14
import Derived.Test.YtoppjjgecgbbkaaLctPlaysZ12
import Derived.Test.YtoppjjgecgbbkaaLctPlaysZ1
/- LctPlays: the walk. -/
namespace Go.Proofs.Ytoppjjgecgbbkaa
open Go.RowKit Classical
set_option maxRecDepth 10000
set_option maxHeartbeats 800000

section
variable {w : World}
theorem nil_set (a k : Int) : Calls Try.prog 52 #[.pointer none, .int .i64 a, .int .i64 k] w fun e w' => e = .returned (.int .i64 1) ∧ w' = w := by
  go_enter Try.func52, Try.ntmps52
  go_wp2_with (go_at_call 60; refine nil_valid.mono ?_; rintro e w' ⟨rfl, rfl⟩)
  go_ret
  exact ⟨rfl, rfl⟩
theorem nil_link (a b : Int) : Calls Try.prog 50 #[.pointer none, .int .i64 a, .int .i64 b] w fun e w' => e = .returned (.int .i64 1) ∧ w' = w := by
  go_enter Try.func50, Try.ntmps50
  go_wp2_with (go_at_call 60; refine nil_valid.mono ?_; rintro e w' ⟨rfl, rfl⟩)
  go_ret
  exact ⟨rfl, rfl⟩
theorem nil_cut (a b : Int) : Calls Try.prog 51 #[.pointer none, .int .i64 a, .int .i64 b] w fun e w' => e = .returned (.int .i64 1) ∧ w' = w := by
  go_enter Try.func51, Try.ntmps51
  go_wp2_with (go_at_call 60; refine nil_valid.mono ?_; rintro e w' ⟨rfl, rfl⟩)
  go_ret
  exact ⟨rfl, rfl⟩
theorem nil_copy : Calls Try.prog 53 #[.pointer none] w fun e w' => e = .returned (.pointer none) ∧ w' = w := by
  go_enter Try.func53, Try.ntmps53
  go_wp2_with (go_at_call 60; refine nil_valid.mono ?_; rintro e w' ⟨rfl, rfl⟩)
  go_ret
  exact ⟨rfl, rfl⟩
theorem nil_step (d a b k : Int) :
    Calls Try.prog 31 #[.pointer none, .pointer none, .agg #[.int .i64 d, .int .i64 a, .int .i64 b, .int .i64 k]] w fun e w' => e = .returned (.tuple #[.pointer none, .pointer none, .bool true]) ∧ Fr [] w w' := by
  have hbx := Blk.new w [.int .i64 d, .int .i64 a, .int .i64 b, .int .i64 k] 61
  have hF0 : Fr [] w (w.alloc (.cells [.int .i64 d, .int .i64 a, .int .i64 b, .int .i64 k].toArray 61)) := (Fr.refl [] w).alloc _
  have c0 := hbx.cell 0
  have c1 := hbx.cell 1
  have c2 := hbx.cell 2
  have c3 := hbx.cell 3
  simp only [List.getElem?_cons_zero, List.getElem?_cons_succ] at c0 c1 c2 c3
  have HF0 := Lib.hid hF0; clear hF0 hbx
  have hB : ∀ w, BadF w none := fun w => .inl rfl
  by_cases d0 : d = 0
  · subst d0
    go_enter Try.func31, Try.ntmps31
    go_wp2
    go_region_held3 (fun w' => w'.cell? ⟨w.heap.size, 1, none⟩ = some (.int .i64 a) ∧ w'.cell? ⟨w.heap.size, 2, none⟩ = some (.int .i64 b))
      (first
        | go_keep
        | (exact ⟨hF3.cell (by simp_all) (by simp), hF3.cell (by simp_all) (by simp)⟩))
      (first
        | (go_at_call 16; refine (bad_link (hB _) a b).mono ?_; rintro e w3 ⟨rfl, hF3⟩; replace hF3 := Fr.of_below hF3)
        | (go_at_call 50; refine (nil_link a b).mono ?_; rintro e w4 ⟨rfl, rfl⟩))
    go_wp2
    go_ret3
    exact ⟨rfl, (HF0.out.drew).trans' hF3⟩
  · have q0 : (d == 0) = false := beq_eq_false_iff_ne.2 d0
    clear d0
    by_cases d1 : d = 1
    · subst d1
      go_enter Try.func31, Try.ntmps31
      go_wp2
      go_region_held3 (fun w' => w'.cell? ⟨w.heap.size, 1, none⟩ = some (.int .i64 a) ∧ w'.cell? ⟨w.heap.size, 2, none⟩ = some (.int .i64 b))
        (first
          | go_keep
          | (exact ⟨hF3.cell (by simp_all) (by simp), hF3.cell (by simp_all) (by simp)⟩))
        (first
          | (go_at_call 30; refine (bad_cut (hB _) a b).mono ?_; rintro e w3 ⟨rfl, hF3⟩; replace hF3 := Fr.of_below hF3)
          | (go_at_call 51; refine (nil_cut a b).mono ?_; rintro e w4 ⟨rfl, rfl⟩))
      go_wp2
      go_ret3
      exact ⟨rfl, (HF0.out.drew).trans' hF3⟩
    · have q1 : (d == 1) = false := beq_eq_false_iff_ne.2 d1
      clear d1
      by_cases d2 : d = 2
      · subst d2
        go_enter Try.func31, Try.ntmps31
        go_wp2
        go_region_held3 (fun w' => w'.cell? ⟨w.heap.size, 1, none⟩ = some (.int .i64 a) ∧ w'.cell? ⟨w.heap.size, 3, none⟩ = some (.int .i64 k))
          (first
            | go_keep
            | (exact ⟨hF3.cell (by simp_all) (by simp), hF3.cell (by simp_all) (by simp)⟩))
          (first
            | (go_at_call 26; refine (bad_set (hB _) a k).mono ?_; rintro e w3 ⟨rfl, hF3⟩; replace hF3 := Fr.of_below hF3)
            | (go_at_call 52; refine (nil_set a k).mono ?_; rintro e w4 ⟨rfl, rfl⟩))
        go_wp2
        go_ret3
        exact ⟨rfl, (HF0.out.drew).trans' hF3⟩
      · have q2 : (d == 2) = false := beq_eq_false_iff_ne.2 d2
        clear d2
        by_cases d3 : d = 3
        · subst d3
          go_enter Try.func31, Try.ntmps31
          go_wp2_with fail
          refine (bad_copy (hB _)).mono ?_
          rintro _ w3 ⟨rfl, rfl⟩
          go_wp2_with fail
          refine nil_copy.mono ?_
          rintro _ w3 ⟨rfl, rfl⟩
          go_wp2
          go_ret3
          exact ⟨rfl, HF0.out⟩
        · have q3 : (d == 3) = false := beq_eq_false_iff_ne.2 d3
          clear d3
          go_enter Try.func31, Try.ntmps31
          go_wp2
          go_ret3
          exact ⟨rfl, HF0.out⟩
end

/-- A forest and the document's, of the same vertices, edges and keys; or none. -/
def Pair (W wr : World) (n : Nat) (vf vr : Value) : Prop :=
  ∃ qf qr, vf = .pointer qf ∧ vr = .pointer qr ∧ ((qf = none ∧ qr = none ∧ Fr [] W wr) ∨ ∃ pf g pr vK vL key L, qf = some ⟨pf, 0, none⟩ ∧ qr = some ⟨pr, 0, none⟩ ∧ Both W wr pf g pr vK vL n key L)
theorem Pair.fr {W wr : World} {n : Nat} {vf vr : Value} (h : Pair W wr n vf vr) : Fr [] W wr := by
  obtain ⟨qf, qr, rfl, rfl, ⟨rfl, rfl, hf⟩ | ⟨pf, g, pr, vK, vL, key, L, rfl, rfl, hB⟩⟩ := h
  · exact hf
  · exact hB.fr
theorem Pair.drew {W wr : World} {n : Nat} {vf vr : Value} (h : Pair W wr n vf vr) (k : Nat) : Pair W (wr.drewN k) n vf vr := by
  obtain ⟨qf, qr, rfl, rfl, ⟨rfl, rfl, hf⟩ | ⟨pf, g, pr, vK, vL, key, L, rfl, rfl, hB⟩⟩ := h
  · exact ⟨_, _, rfl, rfl, .inl ⟨rfl, rfl, hf.drewN k⟩⟩
  · exact ⟨_, _, rfl, rfl, .inr ⟨pf, g, pr, vK, vL, key, L, rfl, rfl, hB.drew k⟩⟩
theorem pair_step {W wr : World} {n : Nat} {qf qr : Option Addr} (h : Pair W wr n (.pointer qf) (.pointer qr)) (d a b k : Int) :
    Calls Try.prog 31 #[.pointer qf, .pointer qr, .agg #[.int .i64 d, .int .i64 a, .int .i64 b, .int .i64 k]] wr fun e w' => ∃ qf' qr', e = .returned (.tuple #[.pointer qf', .pointer qr', .bool true]) ∧ Pair W w' n (.pointer qf') (.pointer qr') := by
  obtain ⟨_, _, e1, e2, ⟨rfl, rfl, hf⟩ | ⟨pf, g, pr, vK, vL, key, L, rfl, rfl, hB⟩⟩ := h
  · cases e1; cases e2
    refine (nil_step d a b k).mono ?_
    rintro _ w' ⟨rfl, h1⟩
    exact ⟨_, _, rfl, _, _, rfl, rfl, .inl ⟨rfl, rfl, hf.trans' h1⟩⟩
  · cases e1; cases e2
    refine (step_w hB d a b k).mono ?_
    rintro _ w' ⟨pf', g', pr', vK', vL', key', L', rfl, h1⟩
    exact ⟨_, _, rfl, _, _, rfl, rfl, .inr ⟨pf', g', pr', vK', vL', key', L', rfl, rfl, h1⟩⟩
theorem pair_agree {W wr : World} {n : Nat} {qf qr : Option Addr} (h : Pair W wr n (.pointer qf) (.pointer qr)) (a b c : Int) :
    Calls Try.prog 25 #[.pointer qf, .pointer qr, .int .i64 a, .int .i64 b, .int .i64 c] wr fun e w' => e = .returned (.bool true) ∧ Pair W w' n (.pointer qf) (.pointer qr) := by
  obtain ⟨_, _, e1, e2, ⟨rfl, rfl, hf⟩ | ⟨pf, g, pr, vK, vL, key, L, rfl, rfl, hB⟩⟩ := h
  · cases e1; cases e2
    refine (nil_agree a b c).mono ?_
    rintro _ w' ⟨rfl, h1⟩
    exact ⟨rfl, _, _, rfl, rfl, .inl ⟨rfl, rfl, hf.trans' (Fr.of_below h1)⟩⟩
  · cases e1; cases e2
    refine (agree_w hB a b c).mono ?_
    rintro _ w' ⟨rfl, h1⟩
    exact ⟨rfl, _, _, rfl, rfl, .inr ⟨pf, g, pr, vK, vL, key, L, rfl, rfl, h1⟩⟩

def newCode (n : Int) : Int := if n < 0 ∨ 65536 < n then 2 else 0
theorem pair_new (W : World) (n : Int) : Calls Try.prog 14 #[.int .i64 n] W fun e w1 => ∃ qf, e = .returned (.tuple #[.pointer qf, .int .i64 (newCode n)]) ∧
    Calls Try.prog 24 #[.int .i64 n] w1 fun e w2 => ∃ qr, e = .returned (.tuple #[.pointer qr, .int .i64 (newCode n)]) ∧ Pair W w2 n.toNat (.pointer qf) (.pointer qr) := by
  by_cases hbad : n < 0 ∨ 65536 < n
  · have e1 : newCode n = 2 := by unfold newCode; rw [if_pos hbad]
    rw [e1]
    refine (new_no n W hbad).mono ?_
    rintro _ w1 ⟨rfl, rfl⟩
    refine ⟨_, rfl, (new_bad w1 n hbad).mono ?_⟩
    rintro _ w2 ⟨rfl, rfl⟩
    exact ⟨_, rfl, _, _, rfl, rfl, .inl ⟨rfl, rfl, Fr.refl _ _⟩⟩
  · have e1 : newCode n = 0 := by unfold newCode; rw [if_neg hbad]
    rw [e1]
    obtain ⟨n, rfl⟩ : ∃ m : Nat, n = m := ⟨n.toNat, by omega⟩
    have hn : n ≤ 65536 := by omega
    refine (new_w n W hn).mono ?_
    rintro _ w1 ⟨pf, g, rfl, h1, f1, hp, hg⟩
    refine ⟨_, rfl, (new_r w1 n hn).mono ?_⟩
    rintro _ w2 ⟨pr, vK, rfl, h2, f2, hr⟩
    refine ⟨_, rfl, _, _, rfl, rfl, .inr ⟨pf, g, pr, vK, .slice none 0 0, fun _ => 0, [], rfl, rfl, ?_⟩⟩
    have hl := LG.lts h1
    have hs := f1.size
    refine ⟨by rw [EK_nil]; exact LG.fr h1 f2 (by simp) (by simp), h2, EL.nil hn (by rw [EK_nil]; exact LG.frs h1), f1.trans' f2, ⟨hp, hg⟩, fun q hq => ?_⟩
    have := hr q hq
    omega

theorem cWalk_valG {P : Program} {ops : Array Oper} {C : World → Prop} {Q : Act → Prop} {o : Oper} {rest : List Oper} {a : Act} (hw : Region.wanted o (yielded ops a.tmps) = true) (v : Value)
    (h0 : ∀ w, C w → Oper.quietUpon P C w v ((execOp a.eval o).run P w)) (h : wpQuiet P ops C Q rest (a.put o.dst v)) : wpQuiet P ops C Q (o :: rest) a := by
  unfold wpQuiet
  rw [if_pos hw]
  exact ⟨v, h0, h⟩

theorem walk_lctPlays (W : World) (n : Int) (_wn : (Lit.int .i64 n).wf = true) (a : Option Addr) (len cap : Nat) (z : Nat → Int × Int × Int × Int) (hz : StepsF W a len z) (t : Int × Int × Int) (_ht : True) :
    Calls Try.prog 10 #[.int .i64 n, .slice a len cap, .agg #[.int .i64 t.1, .int .i64 t.2.1, .int .i64 t.2.2]] W fun e w' => e = .returned (.bool true) ∧ Below W.heap.size W w' := by
  obtain ⟨t0, t1, t2⟩ := t
  clear _wn _ht
  have hl63 := hz.1
  have hbx := Blk.new W [.int .i64 t0, .int .i64 t1, .int .i64 t2] 34
  have hF0 : Fr [] W (W.alloc (.cells [.int .i64 t0, .int .i64 t1, .int .i64 t2].toArray 34)) := (Fr.refl [] W).alloc _
  have hz0 := hz.below (hF0.below (by simp))
  have hbl := hbx.lt
  generalize hW0 : W.alloc (.cells [.int .i64 t0, .int .i64 t1, .int .i64 t2].toArray 34) = W0 at *
  have HW0 := Lib.hid hW0; clear hW0
  have HZ := Lib.hid hz0; clear hz hz0
  have HX := Lib.hid hbx; clear hbx
  have HF0 := Lib.hid hF0; clear hF0
  have hc1 : (newCode n != newCode n) = false := by simp
  have hc2 : (newCode n == newCode n) = true := by simp
  have HN := Lib.hid (pair_new W0 n)
  generalize newCode n = code at *
  have hB0 : Below W.heap.size W W0 := HF0.out.below (by simp)
  have hs0 := HF0.out.size
  by_cases hsm : n ≤ 120 ∧ len ≤ 120
  · obtain ⟨h1, hlen⟩ := hsm
    have hd1 : decide (n > 120) = false := decide_eq_false (by omega)
    have hd2 : decide ((len : Int) > 120) = false := decide_eq_false (by omega)
    generalize n.toNat = m at *
    go_enter Try.func10, Try.ntmps10
    go_wp2_with fail
    rw [HW0.out]
    refine HN.out.mono ?_
    rintro _ w1 ⟨qf, rfl, hN2⟩
    have HN2 := Lib.hid hN2; clear hN2 HN
    go_wp2_with fail
    refine HN2.out.mono ?_
    rintro _ w2 ⟨qr, rfl, hP⟩
    have HP := Lib.hid hP; clear hP HN2
    clear h1
    go_wp2
    go_loopw [7, 9, 11] (fun vf vr y wr => ∃ (k : Nat) (qf qr : Option Addr), k ≤ len ∧ y = .int .i64 k ∧ vf = .pointer qf ∧ vr = .pointer qr ∧ Hid (Pair W0 wr m (.pointer qf) (.pointer qr))) (fun _ _ y _ => len - (intOf y).toNat)
    case atStart => exact ⟨0, qf, qr, Nat.zero_le _, rfl, rfl, rfl, HP⟩
    case round =>
      clear HP
      obtain ⟨k, qf2, qr2, hk, rfl, rfl, rfl, HP⟩ := hrel
      by_cases hlt : k < len
      · obtain ⟨b, off, rfl, hb, x0, x1, x2, x3⟩ := (HZ.out.below (HP.out.fr.below (by simp))).2 k hlt
        have hkl : (k : Int) < len := by omega
        have hk0 : (0 : Int) ≤ k := by omega
        generalize hz0 : (z k).1 = z0 at *
        generalize hz1 : (z k).2.1 = z1 at *
        generalize hz2 : (z k).2.2.1 = z2 at *
        generalize hz3 : (z k).2.2.2 = z3 at *
        have HS := Lib.hid (pair_step HP.out z0 z1 z2 z3)
        go_wp2_with fail
        refine HS.out.mono ?_
        rintro _ w3 ⟨qf', qr', rfl, hP3⟩
        have hpf := hP3.fr
        have HP3 := Lib.hid hP3; clear hP3 HS HP x0 x1 x2 x3
        have HA1 := Lib.hid (fun (w' : World) (h : Pair W0 w' m (.pointer qf') (.pointer qr')) => pair_agree h z1 z2 t0)
        have HA2 := Lib.hid (fun (w' : World) (h : Pair W0 w' m (.pointer qf') (.pointer qr')) => pair_agree h t0 t1 t2)
        have hcell : ∀ w' : World, Pair W0 w' m (.pointer qf') (.pointer qr') → w'.cell? ⟨b, off + k * 4 + 1, none⟩ = some (.int .i64 z1) ∧ w'.cell? ⟨b, off + k * 4 + 2, none⟩ = some (.int .i64 z2) ∧
            w'.cell? ⟨W.heap.size, 0, none⟩ = some (.int .i64 t0) ∧ w'.cell? ⟨W.heap.size, 1, none⟩ = some (.int .i64 t1) ∧ w'.cell? ⟨W.heap.size, 2, none⟩ = some (.int .i64 t2) := by
          intro w' hP
          obtain ⟨b', off', e, _, _, y1, y2, _⟩ := (HZ.out.below (hP.fr.below (by simp))).2 k hlt
          simp only [Option.some.injEq, Addr.mk.injEq, and_true] at e
          obtain ⟨rfl, rfl⟩ := e
          have hx := hP.fr.blk HX.out (by simp)
          refine ⟨by rw [y1, hz1], by rw [y2, hz2], hx.cell 0, hx.cell 1, hx.cell 2⟩
        have HCl := Lib.hid hcell; clear hcell hz0 hz1 hz2 hz3
        go_wp2
        refine region_class (fun w' => Pair W0 w' m (.pointer qf') (.pointer qr')) (by kernel_rfl) (by kernel_rfl) (HP3.out.drew 1) ?_
        iterate 9 (refine cWalk_pure (fun KK hK => ?_); go_simp; refine hK _ ?_; clear hK KK)
        refine cWalk_valG (by first | rfl | go_simp) (.int .i64 z1) (fun w' hw' => ?_) ?_
        · obtain ⟨y1, y2, y3, y4, y5⟩ := HCl.out w' hw'
          go_simp
        iterate 4 (refine cWalk_pure (fun KK hK => ?_); go_simp; refine hK _ ?_; clear hK KK)
        refine cWalk_valG (by first | rfl | go_simp) (.int .i64 z2) (fun w' hw' => ?_) ?_
        · obtain ⟨y1, y2, y3, y4, y5⟩ := HCl.out w' hw'
          go_simp
        iterate 1 (refine cWalk_pure (fun KK hK => ?_); go_simp; refine hK _ ?_; clear hK KK)
        refine cWalk_valG (by first | rfl | go_simp) (.int .i64 t0) (fun w' hw' => ?_) ?_
        · obtain ⟨y1, y2, y3, y4, y5⟩ := HCl.out w' hw'
          go_simp
        refine cWalk_valG (by first | rfl | go_simp) (.bool true) (fun w' hw' => ?_) ?_
        · go_simp
          exact HA1.out _ hw'
        iterate 6 (refine cWalk_pure (fun KK hK => ?_); go_simp; refine hK _ ?_; clear hK KK)
        refine cWalk_valG (by first | rfl | go_simp) (.int .i64 t0) (fun w' hw' => ?_) ?_
        · obtain ⟨y1, y2, y3, y4, y5⟩ := HCl.out w' hw'
          go_simp
        iterate 1 (refine cWalk_pure (fun KK hK => ?_); go_simp; refine hK _ ?_; clear hK KK)
        refine cWalk_valG (by first | rfl | go_simp) (.int .i64 t1) (fun w' hw' => ?_) ?_
        · obtain ⟨y1, y2, y3, y4, y5⟩ := HCl.out w' hw'
          go_simp
        iterate 1 (refine cWalk_pure (fun KK hK => ?_); go_simp; refine hK _ ?_; clear hK KK)
        refine cWalk_valG (by first | rfl | go_simp) (.int .i64 t2) (fun w' hw' => ?_) ?_
        · obtain ⟨y1, y2, y3, y4, y5⟩ := HCl.out w' hw'
          go_simp
        refine cWalk_valG (by first | rfl | go_simp) (.bool true) (fun w' hw' => ?_) ?_
        · go_simp
          exact HA2.out _ hw'
        iterate 2 (refine cWalk_pure (fun KK hK => ?_); go_simp; refine hK _ ?_; clear hK KK)
        refine cWalk_nil ?_
        intro w7 h7
        have HP7 := Lib.hid h7; clear h7
        go_wp2
        go_roundw
        case rel => exact ⟨k + 1, qf', qr', by omega, by go_num, rfl, rfl, HP7⟩
        case measure => simp [intOf]; omega
      · obtain rfl : k = len := by omega
        go_wp2_with fail
        refine (works_w _).mono ?_
        rintro _ w6 ⟨rfl, hB⟩
        go_wp2
        go_ret
        have := HP.out.fr.below (by simp)
        exact ⟨rfl, hB0.trans ((this.mono hs0).trans (hB.mono (Nat.le_trans hs0 HP.out.fr.size)))⟩
  · have hor : decide (n > 120) = true ∨ decide (n > 120) = false ∧ decide ((len : Int) > 120) = true := by
      by_cases h1 : n > 120
      · exact .inl (decide_eq_true h1)
      · exact .inr ⟨decide_eq_false h1, decide_eq_true (by omega)⟩
    clear hsm
    generalize n.toNat = m at *
    rcases hor with h1 | ⟨h1, h2⟩
    all_goals
      go_enter Try.func10, Try.ntmps10
      go_wp2_with fail
      rw [HW0.out]
      refine HN.out.mono ?_
      rintro _ w1 ⟨qf, rfl, hN2⟩
      have HN2 := Lib.hid hN2; clear hN2 HN
      go_wp2_with fail
      refine HN2.out.mono ?_
      rintro _ w2 ⟨qr, rfl, hP⟩
      have HP := Lib.hid hP; clear hP HN2
      go_wp2_with fail
      refine (works_w _).mono ?_
      rintro _ w6 ⟨rfl, hB⟩
      go_wp2
      go_ret
      have := HP.out.fr.below (by simp)
      exact ⟨rfl, hB0.trans ((this.mono hs0).trans (hB.mono (Nat.le_trans hs0 HP.out.fr.size)))⟩
end Go.Proofs.Ytoppjjgecgbbkaa

namespace Go.Proofs.Ytoppjjgecgbbkaa.lctPlays
open Go.ChangeShapes Go.WideShapes Go.ChangeAt Go.RowKit
set_option linter.unusedVariables false

theorem own : ownKnob Try.prog.godebug = none := by kernel_rfl
theorem laidOut : laidOutB Try.prog = true := by kernel_rfl

set_option maxRecDepth 100000 in
theorem lifted (os : Os) (started : os.Started) (H : Type) (enc : TypeId × Value → H) :
    ReturnsInHanded {} Try.checked os 10 .any (Rows.lctPlaysSpec.pre6 enc Try.prog Try.f10 Rows.lctPlaysRow.domain false) (Rows.lctPlaysSpec.post enc Try.prog Try.f10 false true false false) := by
  refine returnsInHanded_of_change (C := Try.checked) own started (by kernel_rfl) Try.func10
    (ChangeSpec.witness6 (enc := enc) (C := Try.checked) false ⟨#[], #[.int .i64 0, .slice none 0 0, .agg #[.int .i64 0, .int .i64 0, .int .i64 0]], []⟩ 8 (by kernel_rfl) (by kernel_rfl) (by kernel_rfl) (by kernel_rfl)) ?_
  intro W base args ds gs before hval0 hW hcnd _
  have hval : ∀ (j : Nat) t v, Try.f10.params[j]? = some t → args[j]? = some v → Value.okWide Try.prog W .any base t v := hval0
  have hW' := hW
  obtain ⟨p, q, hA0, hV, rfl, hfz, hnd⟩ := hW
  have hA : DataW.TrodAll enc Try.prog W 0 (fun _ => true) true Try.f10.params.toList args.toList ds p := hA0
  rw [Try.params10] at hA hval
  obtain ⟨v0, vs0, d0, ds0, p0, q0, hargs, rfl, rfl, h0, r0⟩ := trodAll_cons hA
  obtain ⟨v1, vs1, d1, ds1, p1, q1, rfl, rfl, rfl, h1, r1⟩ := trodAll_cons r0
  obtain ⟨v2, vs2, d2, ds2, p2, q2, rfl, rfl, rfl, h2, r2⟩ := trodAll_cons r1
  obtain ⟨rfl, rfl, rfl⟩ := trodAll_nil r2
  obtain rfl : args = #[v0, v1, v2] := by cases args; simp_all
  obtain ⟨rfl, rfl⟩ := trodVars_none hV
  obtain ⟨a0, rfl, rfl, rfl, w0⟩ := open_int Try.underlying3 (hval 0 3 v0 rfl rfl) h0
  obtain ⟨a1, len1, cap1, rfl⟩ := okWide_slice Try.underlying57 (hval 1 57 v1 rfl rfl)
  have k1 := h1
  have lt1 : ∀ x ∈ p1, x.block < W.heap.size := by obtain ⟨m, hm⟩ := k1; exact DataW.trod_lt m _ _ _ hm
  obtain ⟨z1, w1⟩ := open_steps h1
  have k2 := h2
  have lt2 : ∀ x ∈ p2, x.block < W.heap.size := by obtain ⟨m, hm⟩ := k2; exact DataW.trod_lt m _ _ _ hm
  obtain ⟨z2, rfl, w2⟩ := open_three (hval 2 34 v2 rfl rfl) h2
  clear hA0 hval0
  refine (walk_lctPlays W a0 w0 a1 len1 cap1 z1 w1 z2 w2).mono fun e W' ⟨he, bel⟩ => ?_
  subst he
  exact ⟨_, rfl, _, _, _, [], _, [], hW', trodAll_mk1 (shut_bool Try.underlying4 _), (trodAll_cons_mk (shut_int Try.underlying3 w0) (trodAll_cons_mk (Below.trod laidOut (by kernel_rfl) (of_decide_eq_true (by kernel_rfl)) k1 bel lt1) (trodAll_cons_mk (Below.trod laidOut (by kernel_rfl) (of_decide_eq_true (by kernel_rfl)) k2 bel lt2) trodAll_mk0))), rfl, bel.frame _, fun h => by cases h⟩

theorem over : Rows.lctPlaysRow.holds Try.pinned (OpenSpec.ofChange Rows.lctPlaysSpec) :=
  OpenClaim.holds_of_wide 10 Try.f10 rfl rfl rfl rfl rfl rfl rfl ⟨rfl, rfl, rfl, rfl, rfl⟩ rfl rfl rfl rfl rfl (by kernel_rfl) Try.func10 (by kernel_rfl)
    (of_decide_eq_true (by kernel_rfl)) (by unfold Func.isWrapper; first | (rw [if_pos (by decide +kernel)]; kernel_rfl) | (rw [if_neg (by decide +kernel)]; exact ⟨rfl, rfl⟩))
    (fun os started H enc _ => lifted os started H enc)

end Go.Proofs.Ytoppjjgecgbbkaa.lctPlays

namespace Go.Proofs.Ytoppjjgecgbbkaa
theorem lctPlays_holds : Rows.LctPlaysSaid := lctPlays.over
#print axioms lctPlays_holds
end Go.Proofs.Ytoppjjgecgbbkaa
