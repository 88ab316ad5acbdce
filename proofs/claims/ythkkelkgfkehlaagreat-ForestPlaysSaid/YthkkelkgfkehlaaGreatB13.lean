/- forest: Edges. -/
import Derived.Test.YthkkelkgfkehlaaGreatB2
import Derived.Test.YthkkelkgfkehlaaGreatB12
import Derived.Maps.RangeWalk
import Derived.Test.YthkkelkgfkehlaaGreatB8
import Derived.Shelf.Sort.Plain
import Derived.Shelf.Lay
import Derived.Shelf.Small.Bits
import Derived.Ground.NamesProg
import Derived.Sort.OwnSortedInts
import Derived.Test.YthkkelkgfkehlaaGreatB1
/- forest: Connected, Size, Until, Tree, Len. -/
namespace Go.Proofs.YthkkelkgfkehlaaGreat
open Go.RowKit Classical
set_option maxRecDepth 10000
set_option maxHeartbeats 1600000

noncomputable def connG (V : Nat) (G : EMap) (a b : Int) : Bool := inV V a && inV V b && decide (Cx G (fun _ => True) a.toNat b.toNat)
noncomputable def sizeG (V : Nat) (G : EMap) (a : Int) : Int := if inV V a then (cxs V G (fun _ => True) a.toNat : Int) else 0
noncomputable def treeG (G : EMap) (s : Int) : Bool := decide (0 ≤ s ∧ isTree G s.toNat)

theorem cx_tree {S V : Nat} {G : EMap} (h : GW S V G) (a b : Nat) : Cx G (isTree G) a b ↔ Cx G (fun _ => True) a b :=
  ⟨fun hc => hc.mono fun _ _ _ _ => trivial, fun hc => kru_all h.slot hc⟩

section
variable {w w' : World} {pf pl g ph mb S V n : Nat} {G : EMap} {key : Nat → Int}
theorem fconn_w (h : FB w pf pl g ph mb S V G (isTree G) key n) (a b : Int) :
    Calls Tryz.prog 38 #[fptr pf, .int .i64 a, .int .i64 b] w fun e w' => e = .returned (.bool (connG V G a b)) ∧ FB w' pf pl g ph mb S V G (isTree G) key n ∧ Fr [g] w w' := by
  have HH := Lib.hid (fun (w' : World) (h : FB w' pf pl g ph mb S V G (isTree G) key n) (v : Int) => fhas_w h v)
  have hS := h.leS
  have hV := h.leV
  have H := Lib.hid h
  cases ha : inV V a with
  | false =>
    have e : connG V G a b = false := by simp [connG, ha]
    rw [e]
    clear h e
    go_enter Tryz.func38, Tryz.ntmps38
    go_wp2_with fail
    refine region_cw (fun w' => FB w' pf pl g ph mb S V G (isTree G) key n ∧ Fr [g] w w') (by kernel_rfl) (by kernel_rfl) ⟨H.out.fr0 (Fr.refl [] w).drew, (Fr.refl [g] w).drew⟩ ?_
    iterate 2 (refine cw_pure (by kernel_rfl) (fun KK hK => ?_); go_simp; refine hK.out _ ?_; clear hK KK)
    refine cw_val (by kernel_rfl) (.bool false) (fun w' hw' => ?_) ?_
    · go_simp
      refine (HH.out _ hw'.1 a).mono ?_
      rintro _ w2 ⟨rfl, rfl⟩
      exact ⟨by rw [ha], hw'⟩
    (refine cw_pure (by kernel_rfl) (fun KK hK => ?_); go_simp; refine hK.out _ ?_; clear hK KK)
    iterate 3 (refine cw_skip (by kernel_rfl) ?_; go_frame)
    iterate 2 (refine cw_pure (by kernel_rfl) (fun KK hK => ?_); go_simp; refine hK.out _ ?_; clear hK KK)
    iterate 18 (refine cw_skip (by kernel_rfl) ?_; go_frame)
    iterate 2 (refine cw_pure (by kernel_rfl) (fun KK hK => ?_); go_simp; refine hK.out _ ?_; clear hK KK)
    refine cw_nil ?_
    rintro w2 ⟨h1, h2⟩
    have H2 := Lib.hid (And.intro h1 h2); clear h1 h2
    go_wp2
    go_ret
    exact ⟨rfl, H2.out⟩
  | true =>
    cases hb : inV V b with
    | false =>
      have e : connG V G a b = false := by simp [connG, ha, hb]
      rw [e]
      clear h e
      go_enter Tryz.func38, Tryz.ntmps38
      go_wp2_with fail
      refine region_cw (fun w' => FB w' pf pl g ph mb S V G (isTree G) key n ∧ Fr [g] w w') (by kernel_rfl) (by kernel_rfl) ⟨H.out.fr0 (Fr.refl [] w).drew, (Fr.refl [g] w).drew⟩ ?_
      iterate 2 (refine cw_pure (by kernel_rfl) (fun KK hK => ?_); go_simp; refine hK.out _ ?_; clear hK KK)
      refine cw_val (by kernel_rfl) (.bool true) (fun w' hw' => ?_) ?_
      · go_simp
        refine (HH.out _ hw'.1 a).mono ?_
        rintro _ w2 ⟨rfl, rfl⟩
        exact ⟨by rw [ha], hw'⟩
      iterate 3 (refine cw_pure (by kernel_rfl) (fun KK hK => ?_); go_simp; refine hK.out _ ?_; clear hK KK)
      refine cw_val (by kernel_rfl) (.bool false) (fun w' hw' => ?_) ?_
      · go_simp
        refine (HH.out _ hw'.1 b).mono ?_
        rintro _ w2 ⟨rfl, rfl⟩
        exact ⟨by rw [hb], hw'⟩
      iterate 2 (refine cw_pure (by kernel_rfl) (fun KK hK => ?_); go_simp; refine hK.out _ ?_; clear hK KK)
      iterate 18 (refine cw_skip (by kernel_rfl) ?_; go_frame)
      iterate 2 (refine cw_pure (by kernel_rfl) (fun KK hK => ?_); go_simp; refine hK.out _ ?_; clear hK KK)
      refine cw_nil ?_
      rintro w2 ⟨h1, h2⟩
      have H2 := Lib.hid (And.intro h1 h2); clear h1 h2
      go_wp2
      go_ret
      exact ⟨rfl, H2.out⟩
    | true =>
      obtain ⟨a, rfl, ha'⟩ := inV_nat ha
      obtain ⟨b, rfl, hb'⟩ := inV_nat hb
      have hw1 : IntKind.i64.wrap ((S : Int) + a) = (S : Int) + a := IntWalk.i64_in _ (by omega)
      have hw2 : IntKind.i64.wrap ((S : Int) + b) = (S : Int) + b := IntWalk.i64_in _ (by omega)
      have e : connB (S + V) (TE S G (isTree G)) ((S : Int) + a) ((S : Int) + b) = connG V G a b := by
        have e1 : connG V G a b = decide (Cx G (fun _ => True) a b) := by simp [connG, ha, hb]
        rw [e1]
        unfold connB
        refine decide_eq_decide.2 ?_
        rw [← cx_tree h.gw, ← te_iff h.gw.slot h.frs]
        unfold ConnI
        rw [show ((S : Int) + a).toNat = S + a by omega, show ((S : Int) + b).toNat = S + b by omega]
        exact ⟨fun h => h.2.2, fun h => ⟨by simp [inV]; omega, by simp [inV]; omega, h⟩⟩
      have HC := Lib.hid (fun (w' : World) (h : FB w' pf pl g ph mb S V G (isTree G) key n ∧ Fr [g] w w') => (show Calls Tryz.prog 55 #[fptr pl, .int .i64 ((S : Int) + a), .int .i64 ((S : Int) + b)] w' fun e w'' => e = .returned (.bool (connG V G a b)) ∧ FB w'' pf pl g ph mb S V G (isTree G) key n ∧ Fr [g] w w'' by
        have hC := connected_d h.1.lct ((S : Int) + a) ((S : Int) + b)
        rw [e] at hC
        exact hC.mono fun e w'' ⟨h1, h2, h3⟩ => ⟨h1, h.1.asked h2 h3, h.2.trans' h3⟩))
      clear h e
      generalize connG V G a b = r at *
      go_enter Tryz.func38, Tryz.ntmps38
      go_wp2_with fail
      refine region_cw (fun w' => FB w' pf pl g ph mb S V G (isTree G) key n ∧ Fr [g] w w') (by kernel_rfl) (by kernel_rfl) ⟨H.out.fr0 (Fr.refl [] w).drew, (Fr.refl [g] w).drew⟩ ?_
      iterate 2 (refine cw_pure (by kernel_rfl) (fun KK hK => ?_); go_simp; refine hK.out _ ?_; clear hK KK)
      refine cw_val (by kernel_rfl) (.bool true) (fun w' hw' => ?_) ?_
      · go_simp
        refine (HH.out _ hw'.1 a).mono ?_
        rintro _ w2 ⟨rfl, rfl⟩
        exact ⟨by rw [ha], hw'⟩
      iterate 3 (refine cw_pure (by kernel_rfl) (fun KK hK => ?_); go_simp; refine hK.out _ ?_; clear hK KK)
      refine cw_val (by kernel_rfl) (.bool true) (fun w' hw' => ?_) ?_
      · go_simp
        refine (HH.out _ hw'.1 b).mono ?_
        rintro _ w2 ⟨rfl, rfl⟩
        exact ⟨by rw [hb], hw'⟩
      iterate 6 (refine cw_pure (by kernel_rfl) (fun KK hK => ?_); go_simp; refine hK.out _ ?_; clear hK KK)
      refine cw_val (by kernel_rfl) (fptr pl) (fun w' hw' => ?_) ?_
      · have c2 := hw'.1.hd.cell 2
        simp only [List.getElem?_cons_zero, List.getElem?_cons_succ] at c2
        go_simp
      iterate 3 (refine cw_pure (by kernel_rfl) (fun KK hK => ?_); go_simp; refine hK.out _ ?_; clear hK KK)
      refine cw_val (by kernel_rfl) (.int .i64 S) (fun w' hw' => ?_) ?_
      · have c1 := hw'.1.hd.cell 1
        simp only [List.getElem?_cons_zero, List.getElem?_cons_succ] at c1
        go_simp
      iterate 5 (refine cw_pure (by kernel_rfl) (fun KK hK => ?_); go_simp; refine hK.out _ ?_; clear hK KK)
      refine cw_val (by kernel_rfl) (.int .i64 S) (fun w' hw' => ?_) ?_
      · have c1 := hw'.1.hd.cell 1
        simp only [List.getElem?_cons_zero, List.getElem?_cons_succ] at c1
        go_simp
      iterate 2 (refine cw_pure (by kernel_rfl) (fun KK hK => ?_); go_simp; refine hK.out _ ?_; clear hK KK)
      refine cw_val (by kernel_rfl) (.bool r) (fun w' hw' => ?_) ?_
      · go_simp
        exact HC.out _ hw'
      iterate 2 (refine cw_pure (by kernel_rfl) (fun KK hK => ?_); go_simp; refine hK.out _ ?_; clear hK KK)
      refine cw_nil ?_
      rintro w2 ⟨h1, h2⟩
      have H2 := Lib.hid (And.intro h1 h2); clear h1 h2
      go_wp2
      go_ret
      exact ⟨rfl, H2.out⟩
theorem fsize_w (h : FB w pf pl g ph mb S V G (isTree G) key n) (a : Int) :
    Calls Tryz.prog 20 #[fptr pf, .int .i64 a] w fun e w' => e = .returned (.int .i64 (sizeG V G a)) ∧ FB w' pf pl g ph mb S V G (isTree G) key n ∧ Fr [g] w w' := by
  have c1 := h.hd.cell 1
  have c2 := h.hd.cell 2
  simp only [List.getElem?_cons_zero, List.getElem?_cons_succ] at c1 c2
  have HA := fhas_w h a
  have hS := h.leS
  have hV := h.leV
  cases ha : inV V a with
  | false =>
    rw [ha] at HA
    have e : sizeG V G a = 0 := by simp [sizeG, ha]
    rw [e]
    have HA := Lib.hid HA
    have H := Lib.hid h
    clear h e
    go_enter Tryz.func20, Tryz.ntmps20
    go_wp2_with fail
    refine HA.out.mono ?_
    rintro _ w1 ⟨rfl, rfl⟩
    go_wp2
    go_ret
    exact ⟨rfl, H.out, Fr.refl _ _⟩
  | true =>
    rw [ha] at HA
    obtain ⟨a, rfl, ha'⟩ := inV_nat ha
    have hw1 : IntKind.i64.wrap ((S : Int) + a) = (S : Int) + a := IntWalk.i64_in _ (by omega)
    have e1 : sizeG V G a = (cxs V G (isTree G) a : Int) := by
      have : cxs V G (isTree G) a = cxs V G (fun _ => True) a := cntT_congr fun v => cx_tree h.gw a v
      simp [sizeG, ha, this]
    rw [e1]
    have he := csize_te h.gw h.frs ha'
    have hle := csize_le (S + V) (TE S G (isTree G)) (S + a)
    generalize hz : csize (S + V) (TE S G (isTree G)) (S + a) = z at *
    have HE := Lib.hid hz; clear hz
    generalize cxs V G (isTree G) a = y at *
    have HZ := Lib.hid (And.intro he hle)
    have hw2 : IntKind.i64.wrap ((z : Int) + 1) = 2 * (y : Int) := by rw [show (z : Int) + 1 = 2 * (y : Int) by omega]; exact IntWalk.i64_in _ (by omega)
    have hw3 : IntKind.i64.wrap (y : Int) = (y : Int) := IntWalk.i64_in _ (by omega)
    have HA := Lib.hid HA
    have H := Lib.hid h
    have HC := Lib.hid (fun (w' : World) (h : FB w' pf pl g ph mb S V G (isTree G) key n ∧ Fr [g] w w') => (show Calls Tryz.prog 46 #[fptr pl, .int .i64 ((S : Int) + a)] w' fun e w'' => e = .returned (.int .i64 z) ∧ FB w'' pf pl g ph mb S V G (isTree G) key n ∧ Fr [g] w w'' by
      have hC := size_w h.1.lct ((S : Int) + a)
      rw [if_pos (by simp [inV]; omega), show ((S : Int) + a).toNat = S + a by omega, HE.out] at hC
      exact hC.mono fun e w'' ⟨h1, h2, h3⟩ => ⟨h1, h.1.asked h2 h3, h.2.trans' h3⟩))
    clear h e1 he hle c1 c2
    go_enter Tryz.func20, Tryz.ntmps20
    go_wp2_with fail
    refine HA.out.mono ?_
    rintro _ w1 ⟨rfl, rfl⟩
    go_wp2_with fail
    refine region_cw (fun w' => FB w' pf pl g ph mb S V G (isTree G) key n ∧ Fr [g] w1 w') (by kernel_rfl) (by kernel_rfl) ⟨H.out.fr0 (Fr.refl [] w1).drew, (Fr.refl [g] w1).drew⟩ ?_
    iterate 4 (refine cw_pure (by kernel_rfl) (fun KK hK => ?_); go_simp; refine hK.out _ ?_; clear hK KK)
    refine cw_val (by kernel_rfl) (fptr pl) (fun w' hw' => ?_) ?_
    · have c2 := hw'.1.hd.cell 2
      simp only [List.getElem?_cons_zero, List.getElem?_cons_succ] at c2
      go_simp
    iterate 3 (refine cw_pure (by kernel_rfl) (fun KK hK => ?_); go_simp; refine hK.out _ ?_; clear hK KK)
    refine cw_val (by kernel_rfl) (.int .i64 S) (fun w' hw' => ?_) ?_
    · have c1 := hw'.1.hd.cell 1
      simp only [List.getElem?_cons_zero, List.getElem?_cons_succ] at c1
      go_simp
    iterate 2 (refine cw_pure (by kernel_rfl) (fun KK hK => ?_); go_simp; refine hK.out _ ?_; clear hK KK)
    refine cw_val (by kernel_rfl) (.int .i64 z) (fun w' hw' => ?_) ?_
    · go_simp
      exact HC.out _ hw'
    iterate 3 (refine cw_pure (by kernel_rfl) (fun KK hK => ?_); go_simp; refine hK.out _ ?_; clear hK KK)
    refine cw_nil ?_
    rintro w2 ⟨h1, h2⟩
    have H2 := Lib.hid (And.intro h1 h2); clear h1 h2
    go_wp2
    go_ret
    exact ⟨rfl, H2.out⟩
@[go_sem] theorem fld_exp (e1 e2 e3 : Int) (tb : Bool) (w : World) : (Instr.field 64 (.agg #[.int .i64 e1, .int .i64 e2, .int .i64 e3, .bool tb]) 2).run Tryz.prog w = .ok (.int .i64 e3) w := by kernel_rfl
@[go_sem] theorem fld_tree (e1 e2 e3 : Int) (tb : Bool) (w : World) : (Instr.field 64 (.agg #[.int .i64 e1, .int .i64 e2, .int .i64 e3, .bool tb]) 3).run Tryz.prog w = .ok (.bool tb) w := by kernel_rfl
theorem mapG_tree (G : EMap) (s : Int) : ∃ e1 e2 e3 : Int, (mapG G (isTree G) s).getD edZ = .agg #[.int .i64 e1, .int .i64 e2, .int .i64 e3, .bool (treeG G s)] := by
  unfold mapG treeG
  by_cases h : 0 ≤ s
  · simp only [h, true_and]
    cases hg : G s.toNat with
    | none =>
      have : ¬ isTree G s.toNat := by rintro ⟨_, _, _, e, _⟩; rw [hg] at e; cases e
      exact ⟨0, 0, 0, by simp [edZ, this]⟩
    | some e => exact ⟨e.1, e.2.1, e.2.2, by simp [edV]⟩
  · simp only [h, false_and, decide_false]
    exact ⟨0, 0, 0, rfl⟩
theorem ftree_w (h : FB w pf pl g ph mb S V G (isTree G) key n) {s : Int} (hs : (Lit.int .i64 s).wf = true) :
    Calls Tryz.prog 18 #[fptr pf, .int .i64 s] w fun e w' => e = .returned (.bool (treeG G s)) ∧ FB w' pf pl g ph mb S V G (isTree G) key n ∧ Fr [] w w' := by
  have c4 := h.hd.cell 4
  simp only [List.getElem?_cons_zero, List.getElem?_cons_succ] at c4
  have hV := Lib.hid (fvalid_w h)
  have hl := h.edges.run_get (t := 57) (e := 64) (z := edZ) Tryz.underlying3 Tryz.underlying57 (by kernel_rfl) rfl hs
  obtain ⟨e1, e2, e3, he⟩ := mapG_tree G s
  rw [he] at hl
  have H := Lib.hid h
  clear he h
  generalize treeG G s = tb at *
  go_enter Tryz.func18, Tryz.ntmps18
  go_wp2_with fail
  refine hV.out.mono ?_
  rintro _ w1 ⟨rfl, rfl⟩
  go_wp2_with fail
  go_ret
  exact ⟨rfl, H.out, Fr.refl _ _⟩
/-- What Until says, by the two results. -/
noncomputable def untilB (V : Nat) (G : EMap) (a b : Int) : Bool := decide (a ≠ b) && connG V G a b
noncomputable def untilV (V : Nat) (G : EMap) (a b : Int) : Int := if untilB V G a b then untilI G a.toNat b.toNat else 0
theorem funtil_w (h : FB w pf pl g ph mb S V G (isTree G) key n) (a b : Int) :
    Calls Tryz.prog 17 #[fptr pf, .int .i64 a, .int .i64 b] w fun e w' => e = .returned (.tuple #[.int .i64 (untilV V G a b), .bool (untilB V G a b)]) ∧ FB w' pf pl g ph mb S V G (isTree G) key n ∧ Fr [g] w w' := by
  have HA := fhas_w h a
  have HB := fhas_w h b
  have hS := h.leS
  have hV := h.leV
  have H := Lib.hid h
  cases ha : inV V a with
  | false =>
    have e : untilB V G a b = false := by simp [untilB, connG, ha]
    have e' : untilV V G a b = 0 := by simp [untilV, e]
    rw [e, e']
    rw [ha] at HA
    have HA := Lib.hid HA
    clear h e e' HB
    go_enter Tryz.func17, Tryz.ntmps17
    go_wp2_with fail
    refine HA.out.mono ?_
    rintro _ w1 ⟨rfl, rfl⟩
    go_wp2
    go_ret2
    exact ⟨rfl, H.out, Fr.refl _ _⟩
  | true =>
    rw [ha] at HA
    cases hb : inV V b with
    | false =>
      have e : untilB V G a b = false := by simp [untilB, connG, hb]
      have e' : untilV V G a b = 0 := by simp [untilV, e]
      rw [e, e']
      rw [hb] at HB
      have HA := Lib.hid HA
      have HB := Lib.hid HB
      clear h e e'
      go_enter Tryz.func17, Tryz.ntmps17
      go_wp2_with fail
      refine HA.out.mono ?_
      rintro _ w1 ⟨rfl, rfl⟩
      go_wp2_with fail
      refine HB.out.mono ?_
      rintro _ w1 ⟨rfl, rfl⟩
      go_wp2
      go_ret2
      exact ⟨rfl, H.out, Fr.refl _ _⟩
    | true =>
      rw [hb] at HB
      have HA := Lib.hid HA
      have HB := Lib.hid HB
      obtain ⟨a, rfl, ha'⟩ := inV_nat ha
      obtain ⟨b, rfl, hb'⟩ := inV_nat hb
      by_cases hab : a = b
      · subst hab
        have e : untilB V G a a = false := by simp [untilB]
        have e' : untilV V G a a = 0 := by simp [untilV, e]
        rw [e, e']
        clear h e e'
        go_enter Tryz.func17, Tryz.ntmps17
        go_wp2_with fail
        refine HA.out.mono ?_
        rintro _ w1 ⟨rfl, rfl⟩
        go_wp2_with fail
        refine HB.out.mono ?_
        rintro _ w1 ⟨rfl, rfl⟩
        go_wp2
        go_ret2
        exact ⟨rfl, H.out, Fr.refl _ _⟩
      · have t1 : ((a : Int) == (b : Int)) = false := by simp; omega
        have hw1 : IntKind.i64.wrap ((S : Int) + a) = (S : Int) + a := IntWalk.i64_in _ (by omega)
        have hw2 : IntKind.i64.wrap ((S : Int) + b) = (S : Int) + b := IntWalk.i64_in _ (by omega)
        have HN := Lib.hid (And.intro h.ne1 (And.intro h.ne2 h.lt))
        have HM := Lib.hid (min_d (show LG w.drew pl g (S + V) (TE S G (isTree G)) key _ from LG.fr h.lct (Fr.refl [] _).drew (by simp) (by simp)) ((S : Int) + a) ((S : Int) + b))
        have e1 := h.hd.cell 1
        have e2 := h.hd.cell 2
        simp only [List.getElem?_cons_zero, List.getElem?_cons_succ] at e1 e2
        clear h
        go_enter Tryz.func17, Tryz.ntmps17
        go_wp2_with fail
        refine HA.out.mono ?_
        rintro _ w1 ⟨rfl, rfl⟩
        go_wp2_with fail
        refine HB.out.mono ?_
        rintro _ w1 ⟨rfl, rfl⟩
        go_wp2
        go_region_held3 (fun w' => w'.cell? ⟨pf, 1, none⟩ = some (.int .i64 S) ∧ w'.cell? ⟨pf, 2, none⟩ = some (fptr pl))
          (first
            | go_keep
            | (have N := HN.out; exact ⟨hF4.cell (by simp_all) (by simp; omega), hF4.cell (by simp_all) (by simp; omega)⟩))
          (first
            | (go_at_call 27; refine HM.out.mono ?_; rintro e w4 ⟨r, ok, rfl, hsay, hL4, hF4⟩))
        have hB4 := H.out.asked hL4 (((Fr.refl [g] w1).drew).trans' hF4)
        have H4 := Lib.hid (And.intro hB4 (((Fr.refl [g] w1).drew).trans' hF4))
        have HS := Lib.hid (And.intro hsay hL4)
        clear hB4 hsay hL4 hF4 HM e1 e2
        cases ok with
        | false =>
          have e : untilB V G a b = false := by
            rcases HS.out.1 with ⟨_, _, hn⟩ | ⟨e, _⟩
            · have hc : ¬ Cx G (fun _ => True) a b := by
                intro hc
                exact hn ⟨by simp [inV]; omega, by simp [inV]; omega, by
                  rw [show ((S : Int) + a).toNat = S + a by omega, show ((S : Int) + b).toNat = S + b by omega]
                  exact te_conn H.out.frs ((cx_tree H.out.gw a b).2 hc)⟩
              simp [untilB, connG, hc]
            · cases e
          have e' : untilV V G a b = 0 := by simp [untilV, e]
          have HE := Lib.hid (And.intro e e'); clear e e'
          go_wp2
          go_ret2
          exact ⟨by rw [HE.out.1, HE.out.2]; rfl, H4.out⟩
        | true =>
          obtain ⟨m, ma, mz, y, hr, hms, hgm, htm, hu, hcx⟩ : ∃ (m ma mz : Nat) (y : Int), r = m ∧ m < S ∧ G m = some (ma, mz, y) ∧ isTree G m ∧ IsUntil G a b y ∧ Cx G (fun _ => True) a b := by
            rcases HS.out.1 with ⟨e, _⟩ | ⟨_, v, u, p, m, e1, e2, h3, h4, hp, hin, hf, hr⟩
            · cases e
            · obtain rfl : v = S + a := by omega
              obtain rfl : u = S + b := by omega
              obtain ⟨ma, mz, y, h5, h6, h7, h8⟩ := first_slot H.out.gw H.out.keys hp hab hf hin
              exact ⟨m, ma, mz, y, hr, h5, h6, h7, until_first H.out.gw.slot h6 h8 (te_cut H.out.frs (te_sub H.out.frs (fun _ h => h.1)) hp hf.1 h5), h8.mono fun _ _ _ _ => trivial⟩
          subst hr
          have e : untilB V G a b = true := by simp [untilB, connG, ha, hb, hcx]; omega
          have e' : untilV V G a b = y := by rw [untilV, if_pos e, Int.toNat_natCast, Int.toNat_natCast]; exact untilI_eq hu
          have HE := Lib.hid (And.intro e e')
          have hl4 := H4.out.1.edges.run_get (t := 57) (e := 64) (z := edZ) Tryz.underlying3 Tryz.underlying57 (by kernel_rfl) rfl (wf_nat (s := m) (by omega))
          rw [mapG_nat, hgm] at hl4
          simp only [Option.map_some, Option.getD_some, htm, decide_true, edV] at hl4
          have c4 := H4.out.1.hd.cell 4
          simp only [List.getElem?_cons_zero, List.getElem?_cons_succ] at c4
          clear e e' hu hcx htm hgm
          go_wp2
          go_ret2
          exact ⟨by rw [HE.out.1, HE.out.2]; rfl, H4.out⟩
theorem flen_w (h : FB w pf pl g ph mb S V G (isTree G) key n) : Calls Tryz.prog 42 #[fptr pf] w fun e w' => e = .returned (.int .i64 n) ∧ Fr [] w w' := by
  have c4 := h.hd.cell 4
  simp only [List.getElem?_cons_zero, List.getElem?_cons_succ] at c4
  have hV := Lib.hid (fvalid_w h)
  have hl := fun ty => h.edges.run_len (t := 57) (e := 64) Tryz.underlying57 ty
  clear h
  go_enter Tryz.func42, Tryz.ntmps42
  go_wp2_with fail
  refine hV.out.mono ?_
  rintro _ w1 ⟨rfl, rfl⟩
  go_wp2
  go_ret
  exact ⟨rfl, Fr.refl _ _⟩
end
end Go.Proofs.YthkkelkgfkehlaaGreat

/- forest: Expire. -/
namespace Go.Proofs.YthkkelkgfkehlaaGreat
open Go.RowKit Classical
set_option maxRecDepth 10000
set_option maxHeartbeats 1600000

section
variable {w w' : World} {pf pl g ph mb S V n : Nat} {G : EMap} {T T' : Nat → Prop} {key : Nat → Int} {l L : List Nat}
theorem mapG_drop {m : Nat} (hT : ∀ t, t ≠ m → (T t ↔ T' t)) : updM (mapG G T) m none = mapG (updG G m none) T' := by
  funext k
  by_cases hk : k = (m : Int)
  · subst hk; rw [updM_same, mapG_nat, updG_same]; rfl
  · rw [updM_other hk]
    unfold mapG
    by_cases h0 : 0 ≤ k
    · have : k.toNat ≠ m := by omega
      rw [updG_other this]
      simp only [hT _ this]
    · simp only [h0, if_false]
theorem qOf_drop {m : Nat} : updQ (qOf G) m none = qOf (updG G m none) := by
  funext k
  by_cases hk : k = m
  · subst hk; rw [updQ_same]; simp [qOf, updG_same]
  · rw [updQ_other hk]; simp [qOf, updG_other hk]
/-- The edge is taken out of the map. -/
theorem FB.gone (h : FB w pf pl g ph mb S V G T key n) {m : Nat} {e : Nat × Nat × Int} (hm : G m = some e) (ht : ¬ T m) {X : List Nat} (hf : Fr X w w') (h1 : pf ∉ X) (h2 : pl ∉ X) (h3 : g ∉ X) (hI : IMap Tryz.prog 3 .i64 okA w' mb (mapG (updG G m none) T) (n - 1)) :
    FB w' pf pl g ph mb S V (updG G m none) T key (n - 1) := by
  have hms := h.gw.slot _ _ hm
  have e' : TE S (updG G m none) T = TE S G T := te_congr (fun _ => Iff.rfl) (fun t ht' => by rw [updG_other]; rintro rfl; exact ht ht')
  have hc : cntT S (fun s => (updG G m none s).isSome = true) + 1 = cntT S (fun s => (G s).isSome = true) := cntT_one hms (by simp [hm]) (by simp [updG_same]) (fun x hx => by rw [updG_other hx])
  refine ⟨hf.blk h.hd h1, ?_, hI, h.gw.del m, ⟨fun t c d y h4 h5 => ?_, h.keys.vert⟩, ?_, h.leS, h.leV, h.ne1, h.ne2, h.ne3, h.ne4, h.ne5⟩
  · rw [e']; exact h.lct.fr hf h2 h3
  · rw [updG_other (by rintro rfl; exact ht h5)] at h4
    exact h.keys.slot t c d y h4 h5
  · rw [h.cn, ← hc, Nat.add_sub_cancel]

theorem fexp_w (h : FAt w pf S V G L) : Calls Tryz.prog 9 #[fptr pf] w fun e w' => e = .returned (.tuple #[.int .i64 ((fstG G).getD 0 : Nat), .bool (fstG G).isSome]) ∧ ∃ L', FAt w' pf S V (popG G) L' ∧ Fr L w w' ∧ ∀ q ∈ L', q ∈ L ∨ w.heap.size ≤ q := by
  obtain ⟨pl, g, ph, mb, l, key, n, h1, hH, hD, rfl⟩ := h
  have hlt := h1.lt
  have hllt := hH.lt
  have hS := h1.leS
  have hV := h1.leV
  have c3 := h1.hd.cell 3
  simp only [List.getElem?_cons_zero, List.getElem?_cons_succ] at c3
  have HV := Lib.hid (fvalid_w h1)
  have HP := Lib.hid (pop_w hH)
  have H := Lib.hid h1
  have HH := Lib.hid (And.intro hD (And.intro hllt (And.intro hlt hH)))
  clear h1 hH hD hllt
  go_enter Tryz.func9, Tryz.ntmps9
  go_wp2_with fail
  refine HV.out.mono ?_
  rintro _ w ⟨rfl, rfl⟩
  go_wp2_with fail
  refine HP.out.mono ?_
  rintro _ w2 (⟨hn, rfl, hF2⟩ | ⟨hn, i, k, hq, hmin, rfl, l', hH2, hF2, hN2⟩)
  · have hz : ∀ s, G s = none := by
      intro s
      cases hs : G s with
      | none => rfl
      | some e =>
        have := H.out.cn
        exact absurd (show (G s).isSome = true by simp [hs]) (cnt_zero (S := S) (P := fun s => (G s).isSome = true) (by omega) s (H.out.gw.slot s e hs))
    have hfst := fstG_none hz
    have hpop : popG G = G := by unfold popG; rw [hfst]
    have HE := Lib.hid (And.intro hfst (And.intro hpop hF2)); clear hz hfst hpop hF2
    go_wp2
    go_ret2
    refine ⟨by rw [HE.out.1]; rfl, _, ⟨pl, g, ph, mb, l, key, n, ?_, ?_, HH.out.1, rfl⟩, (HE.out.2.2.mono (by simp)).alloc _, fun q hq => .inl hq⟩
    · rw [HE.out.2.1]; exact H.out.fr0 (HE.out.2.2.alloc _)
    · rw [HE.out.2.1]; exact HH.out.2.2.2.fr (HE.out.2.2.alloc _) (by simp)
  · obtain ⟨ma, mz, hg⟩ : ∃ ma mz, G i = some (ma, mz, k) := by
      unfold qOf at hq
      cases hs : G i with
      | none => rw [hs] at hq; cases hq
      | some e => rw [hs] at hq; simp at hq; subst hq; exact ⟨e.1, e.2.1, rfl⟩
    have hall : ∀ t a b z, G t = some (a, b, z) → ¬ bef z t k i := fun t a b z ht hb => hmin t z (by simp [qOf, ht]) hb
    have hfst := fstG_eq (m := i) ⟨ma, mz, k, hg, hall⟩
    have hpop : popG G = updG G i none := by unfold popG; rw [hfst]
    have hdel := del_first hg hall
    have his := H.out.gw.slot _ _ hg
    have hq4 := HH.out.1
    have hx1 : pf ∉ l := fun hm => (hq4 _ hm).1 rfl
    have hx2 : pl ∉ l := fun hm => (hq4 _ hm).2.1 rfl
    have hx3 : g ∉ l := fun hm => (hq4 _ hm).2.2.1 rfl
    have hx4 : mb ∉ l := fun hm => (hq4 _ hm).2.2.2 rfl
    have hF3 : Fr l w (w2.alloc (.cells #[.int .i64 i, .int .i64 k] 71)) := hF2.alloc _
    have hB3 := H.out.fr hF3 hx1 hx2 hx3 hx4
    have hH3 := hH2.fr ((Fr.refl [] w2).alloc (.cells #[.int .i64 i, .int .i64 k] 71)) (by simp)
    have hbx := Blk.new w2 [.int .i64 i, .int .i64 k] 71
    have hsz := hF2.size
    rw [qOf_drop] at hH3
    have c4 := hB3.hd.cell 4
    have x0 := hbx.cell 0
    simp only [List.getElem?_cons_zero, List.getElem?_cons_succ] at c4 x0
    have hl0 := hB3.edges.run_get (t := 57) (e := 64) (z := edZ) Tryz.underlying3 Tryz.underlying57 (by kernel_rfl) rfl (wf_nat (s := i) (by omega))
    rw [mapG_nat, hg] at hl0
    -- what is done at the end
    have fin : Hid (∀ (T : Nat → Prop) (w4 w5 : World), (∀ t, T t ↔ isTree (updG G i none) t) → FB w4 pf pl g ph mb S V G T key n → Fr [pf, pl, g, mb] (w2.alloc (.cells #[.int .i64 i, .int .i64 k] 71)) w4 → Fr [mb] w4 w5 → IMap Tryz.prog 3 .i64 okA w5 mb (mapG (updG G i none) T) (n - 1) →
        ∃ L', FAt w5 pf S V (popG G) L' ∧ Fr (pf :: pl :: g :: mb :: l) w w5 ∧ ∀ q ∈ L', q ∈ pf :: pl :: g :: mb :: l ∨ w.heap.size ≤ q) := Lib.hid (fun T w4 w5 hT hB4 hF4 hF5 hI => by
      have hn : ¬ T i := fun h => by obtain ⟨_, _, _, e, _⟩ := (hT i).1 h; rw [updG_same] at e; cases e
      have hB5 := (hB4.gone hg hn hF5 (by simp; exact hB4.ne3) (by simp; exact hB4.ne4) (by simp; exact hB4.ne5) hI).congrT hT
      have hF35 : Fr [pf, pl, g, mb] (w2.alloc (.cells #[.int .i64 i, .int .i64 k] 71)) w5 := hF4.trans' (hF5.mono (fun q hq => .inl (by simp at hq ⊢; exact .inr (.inr (.inr hq)))))
      have hd : ∀ q ∈ l', q ≠ pf ∧ q ≠ pl ∧ q ≠ g ∧ q ≠ mb := by
        intro q hq
        rcases hN2 _ hq with e | e
        · exact hq4 _ e
        · have := HH.out.2.2.1; omega
      rw [hpop]
      refine ⟨_, ⟨pl, g, ph, mb, l', key, n - 1, hB5, hH3.fr hF35 (fun q hq hm => by have := hd q hq; simp at hm; omega), hd, rfl⟩, (hF3.mono (fun q hq => .inl (by simp [hq]))).trans' (hF35.mono (fun q hq => .inl (by simp at hq ⊢; omega))), fun q hq => ?_⟩
      simp only [List.mem_cons] at hq ⊢
      rcases hq with e | e | e | e | e
      · exact .inl (.inl e)
      · exact .inl (.inr (.inl e))
      · exact .inl (.inr (.inr (.inl e)))
      · exact .inl (.inr (.inr (.inr (.inl e))))
      · exact (hN2 _ e).imp (fun e => .inr (.inr (.inr (.inr e)))) id)
    have del : Hid (∀ (T : Nat → Prop) (w4 : World), FB w4 pf pl g ph mb S V G T key n → ∃ w5, (Builtin.delete_ #[57, 3] 0 #[.map (some mb), .int .i64 i]).run Tryz.prog w4 = .ok (.tuple #[]) w5 ∧ IMap Tryz.prog 3 .i64 okA w5 mb (mapG (updG G i none) T) (n - 1) ∧ Fr [mb] w4 w5) := Lib.hid (fun T w4 hB4 => by
      obtain ⟨w5, hr, hI, hF⟩ := hB4.edges.del (t := 57) (e := 64) Tryz.underlying3 Tryz.underlying57 (wf_nat (s := i) (by omega)) 0
      rw [mapG_nat, hg, mapG_drop (fun _ _ => Iff.rfl)] at hI
      exact ⟨w5, hr, hI, hF⟩)
    have HE := Lib.hid (And.intro hfst (And.intro hdel (And.intro hB3 (And.intro hbx hsz))))
    have HF3 := Lib.hid hF3
    have HH3 := Lib.hid hH3
    have HG := Lib.hid hg
    have HLo := Lib.hid (fun (w' : World) (h : FB w' pf pl g ph mb S V G (isTree G) key n) (ht : isTree G i) => loosen_w h hg ht)
    clear hfst hpop hdel hB3 hbx hF3 hH3 hH2 hF2 hN2 hq hmin hall hx1 hx2 hx3 hx4 hq4 c3 hg
    by_cases ht : isTree G i
    · have HT := Lib.hid ht; clear ht
      have HL := Lib.hid (fun (nq : Nat) => (show (Instr.lookup 57 (.map (some mb)) (.int .i64 i) false).run Tryz.prog ((w2.alloc (.cells #[.int .i64 i, .int .i64 k] 71)).drewN nq) = .ok (.agg #[.int .i64 ma, .int .i64 mz, .int .i64 k, .bool true]) ((w2.alloc (.cells #[.int .i64 i, .int .i64 k] 71)).drewN nq) by
        have := (HE.out.2.2.1.fr0 ((Fr.refl [] _).drewN nq)).edges.run_get (t := 57) (e := 64) (z := edZ) Tryz.underlying3 Tryz.underlying57 (by kernel_rfl) rfl (wf_nat (s := i) (by omega))
        rw [mapG_nat, HG.out] at this
        have ht := HT.out
        simpa only [Option.map_some, Option.getD_some, ht, decide_true, decide_false, edV] using this))
      clear hl0
      go_wp2_with fail
      refine region_cw (fun w' => ∃ nq, w' = (w2.alloc (.cells #[.int .i64 i, .int .i64 k] 71)).drewN nq) (by kernel_rfl) (by kernel_rfl) ⟨1, rfl⟩ ?_
      iterate 3 (refine cw_pure (by kernel_rfl) (fun KK hK => ?_); go_simp; refine hK.out _ ?_; clear hK KK)
      refine cw_val (by kernel_rfl) (.map (some mb)) (fun w' hw' => ?_) ?_
      · obtain ⟨nq, rfl⟩ := hw'
        go_simp
      iterate 1 (refine cw_pure (by kernel_rfl) (fun KK hK => ?_); go_simp; refine hK.out _ ?_; clear hK KK)
      refine cw_val (by kernel_rfl) (.int .i64 i) (fun w' hw' => ?_) ?_
      · obtain ⟨nq, rfl⟩ := hw'
        go_simp
      refine cw_val (by kernel_rfl) (.agg #[.int .i64 ma, .int .i64 mz, .int .i64 k, .bool true]) (fun w' hw' => ?_) ?_
      · obtain ⟨nq, rfl⟩ := hw'
        have hl := HL.out nq
        go_simp
      iterate 1 (refine cw_pure (by kernel_rfl) (fun KK hK => ?_); go_simp; refine hK.out _ ?_; clear hK KK)
      refine cw_nil ?_
      rintro w4 ⟨nq, rfl⟩
      go_wp2_with fail
      refine (HLo.out _ (HE.out.2.2.1.fr0 ((Fr.refl [] _).drewN nq)) HT.out).mono ?_
      rintro _ w4 ⟨rfl, hB4, hF4'⟩
      have hF4 : Fr [pf, pl, g, mb] (w2.alloc (.cells #[.int .i64 i, .int .i64 k] 71)) w4 := ((Fr.refl _ _).drewN nq).trans' hF4'
      have hpf4 := hB4.hd
      have hbx4 := hF4.blk HE.out.2.2.2.1 (by have N := HH.out.2.2.1; have hsz := HE.out.2.2.2.2; simp; omega)
      clear hF4' c4 x0
      go_wp2_with fail
      have HX := Lib.hid (And.intro hB4 (And.intro hF4 (And.intro hpf4 hbx4)))
      have x0 := hbx4.cell 0
      have c4 := hpf4.cell 4
      simp only [List.getElem?_cons_zero, List.getElem?_cons_succ] at x0 c4
      clear hB4 hF4 hpf4 hbx4
      refine region_one 6 (fun w' => IMap Tryz.prog 3 .i64 okA w' mb (mapG (updG G i none) (fun t => isTree G t ∧ t ≠ i)) (n - 1) ∧ Fr [mb] w4 w') (by kernel_rfl) (by kernel_rfl) (by kernel_rfl) ?_
      iterate 6 (refine gWalk_pre (by decide) (fun K hK => ?_); go_simp; refine hK _ ?_; clear hK K)
      refine gWalk_write rfl (.tuple #[]) (fun w' hw' => ?_) ?_
      · obtain ⟨nq, rfl⟩ := hw'
        obtain ⟨w6, hrun, hI6, hF6⟩ := del.out _ _ (HX.out.1.fr0 ((Fr.refl [] _).drewN nq))
        go_simp
        first
          | exact ⟨hI6, (((Fr.refl [mb] w4).drewN nq)).trans' hF6⟩
          | exact (((Fr.refl [mb] w4).drewN nq)).trans' hF6
      refine gWalk_nil ?_
      rintro w6 ⟨hI6, hF6⟩
      have N := HH.out.2.2.1
      have hsz := HE.out.2.2.2.2
      have hbx6 := hF6.blk HX.out.2.2.2 (by simp; omega)
      have x0 := hbx6.cell 0
      simp only [List.getElem?_cons_zero] at x0
      have HI6 := Lib.hid (And.intro hI6 hF6)
      clear hI6 hF6 hbx6 c4
      go_wp2
      go_ret2
      exact ⟨by rw [HE.out.1]; rfl, fin.out _ _ _ (fun t => (HE.out.2.1 t).symm) HX.out.1 HX.out.2.1 HI6.out.2 HI6.out.1⟩
    · have HT := Lib.hid ht; clear ht
      have HL := Lib.hid (fun (nq : Nat) => (show (Instr.lookup 57 (.map (some mb)) (.int .i64 i) false).run Tryz.prog ((w2.alloc (.cells #[.int .i64 i, .int .i64 k] 71)).drewN nq) = .ok (.agg #[.int .i64 ma, .int .i64 mz, .int .i64 k, .bool false]) ((w2.alloc (.cells #[.int .i64 i, .int .i64 k] 71)).drewN nq) by
        have := (HE.out.2.2.1.fr0 ((Fr.refl [] _).drewN nq)).edges.run_get (t := 57) (e := 64) (z := edZ) Tryz.underlying3 Tryz.underlying57 (by kernel_rfl) rfl (wf_nat (s := i) (by omega))
        rw [mapG_nat, HG.out] at this
        have ht := HT.out
        simpa only [Option.map_some, Option.getD_some, ht, decide_true, decide_false, edV] using this))
      clear hl0
      go_wp2_with fail
      refine region_cw (fun w' => ∃ nq, w' = (w2.alloc (.cells #[.int .i64 i, .int .i64 k] 71)).drewN nq) (by kernel_rfl) (by kernel_rfl) ⟨1, rfl⟩ ?_
      iterate 3 (refine cw_pure (by kernel_rfl) (fun KK hK => ?_); go_simp; refine hK.out _ ?_; clear hK KK)
      refine cw_val (by kernel_rfl) (.map (some mb)) (fun w' hw' => ?_) ?_
      · obtain ⟨nq, rfl⟩ := hw'
        go_simp
      iterate 1 (refine cw_pure (by kernel_rfl) (fun KK hK => ?_); go_simp; refine hK.out _ ?_; clear hK KK)
      refine cw_val (by kernel_rfl) (.int .i64 i) (fun w' hw' => ?_) ?_
      · obtain ⟨nq, rfl⟩ := hw'
        go_simp
      refine cw_val (by kernel_rfl) (.agg #[.int .i64 ma, .int .i64 mz, .int .i64 k, .bool false]) (fun w' hw' => ?_) ?_
      · obtain ⟨nq, rfl⟩ := hw'
        have hl := HL.out nq
        go_simp
      iterate 1 (refine cw_pure (by kernel_rfl) (fun KK hK => ?_); go_simp; refine hK.out _ ?_; clear hK KK)
      refine cw_nil ?_
      rintro w4 ⟨nq, rfl⟩
      go_wp2_with fail
      have hF4 : Fr [pf, pl, g, mb] (w2.alloc (.cells #[.int .i64 i, .int .i64 k] 71)) ((w2.alloc (.cells #[.int .i64 i, .int .i64 k] 71)).drewN nq) := (Fr.refl _ _).drewN nq
      have hB4 := HE.out.2.2.1.fr0 ((Fr.refl [] _).drewN nq)
      have hbx4 := (Fr.refl [] _).drewN nq |>.blk HE.out.2.2.2.1 (by simp)
      generalize (w2.alloc (.cells #[.int .i64 i, .int .i64 k] 71)).drewN nq = w4 at *
      have hpf4 := hB4.hd
      clear c4 x0
      have HX := Lib.hid (And.intro hB4 (And.intro hF4 (And.intro hpf4 hbx4)))
      have x0 := hbx4.cell 0
      have c4 := hpf4.cell 4
      simp only [List.getElem?_cons_zero, List.getElem?_cons_succ] at x0 c4
      clear hB4 hF4 hpf4 hbx4
      refine region_one 6 (fun w' => IMap Tryz.prog 3 .i64 okA w' mb (mapG (updG G i none) (isTree G)) (n - 1) ∧ Fr [mb] w4 w') (by kernel_rfl) (by kernel_rfl) (by kernel_rfl) ?_
      iterate 6 (refine gWalk_pre (by decide) (fun K hK => ?_); go_simp; refine hK _ ?_; clear hK K)
      refine gWalk_write rfl (.tuple #[]) (fun w' hw' => ?_) ?_
      · obtain ⟨nq, rfl⟩ := hw'
        obtain ⟨w6, hrun, hI6, hF6⟩ := del.out _ _ (HX.out.1.fr0 ((Fr.refl [] _).drewN nq))
        go_simp
        first
          | exact ⟨hI6, (((Fr.refl [mb] w4).drewN nq)).trans' hF6⟩
          | exact (((Fr.refl [mb] w4).drewN nq)).trans' hF6
      refine gWalk_nil ?_
      rintro w6 ⟨hI6, hF6⟩
      have N := HH.out.2.2.1
      have hsz := HE.out.2.2.2.2
      have hbx6 := hF6.blk HX.out.2.2.2 (by simp; omega)
      have x0 := hbx6.cell 0
      simp only [List.getElem?_cons_zero] at x0
      have HI6 := Lib.hid (And.intro hI6 hF6)
      clear hI6 hF6 hbx6 c4
      go_wp2
      go_ret2
      exact ⟨by rw [HE.out.1]; rfl, fin.out _ _ _ (fun t => ((HE.out.2.1 t).trans ⟨fun h => h.1, fun h => ⟨h, by rintro rfl; exact HT.out h⟩⟩).symm) HX.out.1 HX.out.2.1 HI6.out.2 HI6.out.1⟩
end
end Go.Proofs.YthkkelkgfkehlaaGreat

/- A range over a map with integer keys: the keys that were met, in whatever order. -/
namespace Go.Proofs.YthkkelkgfkehlaaGreat
open Go.RowKit Go.Maps

/-- The range over the map in block b, with the iterator in block r: these keys were met. -/
def IRange (P : Program) (k : TypeId) (q : IntKind) (ok : Value → Bool) (w : World) (b r : Nat) (m : Int → Option Value) (n : Nat) (done : List Int) (cnt : Nat) : Prop :=
  ∃ (D : DataW Value) (left : Lit → Bool), w.ranges P k (tokR ok) b r n D left cnt ∧ Tidy D ∧ Maps.size D = n ∧
    (∀ a : Int, (Lit.int q a).wf = true → (Maps.has D (.int q a) = (m a).isSome ∧ ∀ v, m a = some v → ok v = true ∧ ∀ z, D.atKey (.int q a) z = .held v)) ∧
    done.Nodup ∧ (∀ x ∈ done, (Lit.int q x).wf = true ∧ (m x).isSome = true) ∧ (∀ x, (Lit.int q x).wf = true → (left (.int q x) = true ↔ (m x).isSome = true ∧ x ∉ done))

section
variable {P : Program} {k t e : TypeId} {q : IntKind} {ok : Value → Bool} {w w' : World} {b r n cnt : Nat} {m : Int → Option Value} {done : List Int}
theorem IRange.fr {S : List Nat} (h : IRange P k q ok w b r m n done cnt) (hf : Fr S w w') (hb : b ∉ S) (hr : r ∉ S) : IRange P k q ok w' b r m n done cnt := by
  obtain ⟨D, left, h1, h2⟩ := h
  refine ⟨D, left, ?_, h2⟩
  have l1 := h1.owns.lt
  have l2 := h1.lt
  obtain ⟨es, clock, since, seen, c0, hb', F, hs, hD, hr', rest⟩ := h1
  exact ⟨es, clock, since, seen, c0, (hf.keep b l1 hb).trans hb', F, hs, hD, (hf.keep r l2 hr).trans hr', rest⟩
theorem IRange.left_eq (h : IRange P k q ok w b r m n done cnt) : w.rangeLeft b r = cnt := by
  obtain ⟨D, left, h1, _⟩ := h; exact h1.left_eq
theorem IRange.lt (h : IRange P k q ok w b r m n done cnt) : r < w.heap.size ∧ b < w.heap.size := by
  obtain ⟨D, left, h1, _⟩ := h; exact ⟨h1.lt, h1.owns.lt⟩
theorem IRange.map (h : IRange P k q ok w b r m n done cnt) : IMap P k q ok w b m n := by
  obtain ⟨D, left, h1, h2, h3, h4, _⟩ := h
  exact ⟨D, h1.owns, h2, h3, h4⟩

variable {ops : Array Oper} {rest : List Oper} {o : Oper} {a : Act} {Q : Exit → Act → World → Prop}
/-- 'range m'. -/
theorem wpList_irange (hg : o.guard = none) (mo : Operand) (hop : o.op = Op.range t mo) (h : IMap P k q ok w b m n) (hk : P.underlying k = some (.int q)) (ht : P.underlying t = some (.map k e))
    (hm : a.eval mo = .map (some b)) (hK : ∀ w' cnt, IRange P k q ok w' b w.heap.size m n [] cnt → cnt ≤ n → Fr [] w w' → w'.heap.size = w.heap.size + 1 → wpList P ops Q rest (a.put o.dst (.pointer (some ⟨w.heap.size, 0, none⟩))) w') :
    wpList P ops Q (o :: rest) a w := by
  obtain ⟨D, h1, h2, h3, h4⟩ := h
  refine wpList_range_own w hg mo t hop k e (int_keyed hk) ht (tokR ok) b n D hm h1 fun w' hr hgw hs => ?_
  refine hK w' _ ⟨D, Maps.has D, hr, h2, h3, h4, .nil, (fun x hx => by cases hx), fun x hx => ?_⟩ (by rw [h3]; exact Nat.le_refl _) ((Fr.refl _ _).grown hgw (fun k e => by cases e)) hs
  rw [(h4 x hx).1]; simp
/-- The step. -/
theorem wpList_inext (hg : o.guard = none) (it : Operand) (hop : o.op = Op.next it false) (hk : P.underlying k = some (.int q)) (hit : a.eval it = .pointer (some ⟨r, 0, none⟩)) (h : IRange P k q ok w b r m n done cnt)
    (hDone : (∀ x, (Lit.int q x).wf = true → (m x).isSome = true → x ∈ done) → wpList P ops Q rest (a.put o.dst (.tuple #[.bool false])) w)
    (hMore : ∀ (x : Int) (c : Value) (w' : World) (cnt' : Nat), (Lit.int q x).wf = true → m x = some c → x ∉ done → IRange P k q ok w' b r m n (done ++ [x]) cnt' → cnt' < cnt → Fr [r] w w' → w'.heap.size = w.heap.size →
      (Instr.entry (.pointer (some ⟨r, 0, none⟩))).run P w' = .ok (.tuple #[.int q x, c]) w' → wpList P ops Q rest (a.put o.dst (.tuple #[.bool true, .int q x, c])) w') :
    wpList P ops Q (o :: rest) a w := by
  obtain ⟨D, left, h1, h2, h3, h4, h5, h6, h7⟩ := h
  refine wpList_next_ranges w hg it hop k (int_keyed hk) (tokR ok) (Value.int q) (fun (c : Value) => c) (fun key kl hkey => by obtain ⟨x, rfl, _⟩ := Maps.keyOf_int_inv hk hkey; exact ⟨x, rfl⟩) (fun v y _ => ⟨v, rfl⟩) b r n D left cnt hit h1
    (fun _ hl => hDone fun x hx hs => Classical.byContradiction fun hn => by have := (h7 x hx).2 ⟨hs, hn⟩; rw [hl] at this; cases this) ?_
  intro x c kl y w' cnt' hkey hlk hv hat hrg hlt hgr hsz hen
  obtain ⟨x', ex, rfl, hw⟩ := Maps.keyOf_int_inv hk hkey
  cases ex
  obtain ⟨hsome, hnd⟩ := (h7 x hw).1 hlk
  obtain ⟨u, hu⟩ := Option.isSome_iff_exists.1 hsome
  have hcu : c = u := by
    have e1 := hat (.held undef)
    rw [((h4 x hw).2 u hu).2] at e1
    unfold tokR at hv
    split at hv
    · cases hv; simpa using e1.symm
    · cases hv
  subst hcu
  refine hMore x c w' cnt' hw hu hnd ⟨D, _, hrg, h2, h3, h4, ?_, fun z hz => ?_, fun z hz => ?_⟩ hlt ((Fr.refl _ _).grown hgr (fun k e => .inl (by simp at e; simp [e]))) hsz hen
  · exact List.nodup_append.2 ⟨h5, by simp, by rintro a ha b hb rfl; simp at hb; subst hb; exact hnd ha⟩
  · rcases List.mem_append.1 hz with hz | hz
    · exact h6 z hz
    · simp at hz; subst hz; exact ⟨hw, hsome⟩
  · have e : (Lit.int q z).sameKey (.int q x) = decide (z = x) := by simp [Lit.sameKey]
    show (left (.int q z) && !(Lit.int q z).sameKey (.int q x)) = true ↔ _
    rw [e, Bool.and_eq_true, h7 z hz]
    simp only [List.mem_append, List.mem_singleton, not_or, Bool.not_eq_true', decide_eq_false_iff_not, and_assoc]
end
end Go.Proofs.YthkkelkgfkehlaaGreat

/- slices.Sort at int, of a row of one's own. -/
namespace Go.Proofs.YthkkelkgfkehlaaGreat
open Go.RowKit Go.Sort
set_option maxRecDepth 10000
set_option maxHeartbeats 800000

def Tryz.laysSortI_ren : Go.Shelf.Ren := ⟨fun | 189 => 45 | 125 => 68 | 257 => 67 | 128 => 87 | 129 => 88 | 294 => 78 | 295 => 79 | 296 => 80 | 297 => 81 | 298 => 82 | 299 => 83 | 216 => 84 | 300 => 85 | 301 => 86 | 328 => 94 | 329 => 95 | 330 => 96 | 331 => 97 | 332 => 98 | 215 => 99 | 343 => 105 | n => n, fun | 28 => 40 | 3 => 3 | 46 => 104 | 0 => 0 | 51 => 116 | 53 => 118 | 4 => 4 | 183 => 110 | 182 => 109 | 131 => 34 | 5 => 5 | 9 => 9 | 218 => 124 | 222 => 128 | 228 => 133 | 229 => 134 | n => n, fun | n => n⟩
theorem Tryz.laysSortI : Go.Proofs.Lays.n189 Tryz.prog Tryz.laysSortI_ren := {
  mixed := by kernel_rfl
  f125 := Tryz.func68.trans (congrArg some (by kernel_rfl))
  f128 := Tryz.func87.trans (congrArg some (by kernel_rfl))
  f129 := Tryz.func88.trans (congrArg some (by kernel_rfl))
  f189 := Tryz.func45.trans (congrArg some (by kernel_rfl))
  f215 := Tryz.func99.trans (congrArg some (by kernel_rfl))
  f216 := Tryz.func84.trans (congrArg some (by kernel_rfl))
  f257 := Tryz.func67.trans (congrArg some (by kernel_rfl))
  f294 := Tryz.func78.trans (congrArg some (by kernel_rfl))
  f295 := Tryz.func79.trans (congrArg some (by kernel_rfl))
  f296 := Tryz.func80.trans (congrArg some (by kernel_rfl))
  f297 := Tryz.func81.trans (congrArg some (by kernel_rfl))
  f298 := Tryz.func82.trans (congrArg some (by kernel_rfl))
  f299 := Tryz.func83.trans (congrArg some (by kernel_rfl))
  f300 := Tryz.func85.trans (congrArg some (by kernel_rfl))
  f301 := Tryz.func86.trans (congrArg some (by kernel_rfl))
  f328 := Tryz.func94.trans (congrArg some (by kernel_rfl))
  f329 := Tryz.func95.trans (congrArg some (by kernel_rfl))
  f330 := Tryz.func96.trans (congrArg some (by kernel_rfl))
  f331 := Tryz.func97.trans (congrArg some (by kernel_rfl))
  f332 := Tryz.func98.trans (congrArg some (by kernel_rfl))
  f343 := Tryz.func105.trans (congrArg some (by kernel_rfl))
  t0 := Tryz.underlying0
  a0 := Tryz.isAgg0
  z0 := Tryz.sizeOf0
  v0 := Tryz.zeroValue0
  t3 := Tryz.underlying3
  a3 := Tryz.isAgg3
  z3 := Tryz.sizeOf3
  v3 := Tryz.zeroValue3
  t4 := Tryz.underlying4
  a4 := Tryz.isAgg4
  z4 := Tryz.sizeOf4
  v4 := Tryz.zeroValue4
  t5 := Tryz.underlying5
  a5 := Tryz.isAgg5
  z5 := Tryz.sizeOf5
  v5 := Tryz.zeroValue5
  t9 := Tryz.underlying9
  a9 := Tryz.isAgg9
  z9 := Tryz.sizeOf9
  v9 := Tryz.zeroValue9
  t28 := Tryz.underlying40
  a28 := Tryz.isAgg40
  z28 := Tryz.sizeOf40
  v28 := Tryz.zeroValue40
  t46 := Tryz.underlying104
  a46 := Tryz.isAgg104
  z46 := Tryz.sizeOf104
  v46 := Tryz.zeroValue104
  t51 := Tryz.underlying116
  a51 := Tryz.isAgg116
  z51 := Tryz.sizeOf116
  v51 := Tryz.zeroValue116
  t53 := Tryz.underlying118
  a53 := Tryz.isAgg118
  z53 := Tryz.sizeOf118
  v53 := Tryz.zeroValue118
  t131 := Tryz.underlying34
  a131 := Tryz.isAgg34
  z131 := Tryz.sizeOf34
  v131 := Tryz.zeroValue34
  t182 := Tryz.underlying109
  a182 := Tryz.isAgg109
  z182 := Tryz.sizeOf109
  v182 := Tryz.zeroValue109
  t183 := Tryz.underlying110
  a183 := Tryz.isAgg110
  z183 := Tryz.sizeOf110
  v183 := Tryz.zeroValue110
  t218 := Tryz.underlying124
  a218 := Tryz.isAgg124
  z218 := Tryz.sizeOf124
  v218 := Tryz.zeroValue124
  t222 := Tryz.underlying128
  a222 := Tryz.isAgg128
  z222 := Tryz.sizeOf128
  v222 := Tryz.zeroValue128
  t228 := Tryz.underlying133
  a228 := Tryz.isAgg133
  z228 := Tryz.sizeOf133
  v228 := Tryz.zeroValue133
  t229 := Tryz.underlying134
  a229 := Tryz.isAgg134
  z229 := Tryz.sizeOf134
  v229 := Tryz.zeroValue134 }
def Tryz.laysLenI_ren : Go.Shelf.Ren := ⟨fun | 125 => 68 | 128 => 87 | 129 => 88 | n => n, fun | 46 => 104 | 3 => 3 | 51 => 116 | 53 => 118 | 4 => 4 | 5 => 5 | 9 => 9 | n => n, fun | n => n⟩
theorem Tryz.laysLenI : Go.Proofs.Lays.n125 Tryz.prog Tryz.laysLenI_ren := {
  mixed := by kernel_rfl
  f125 := Tryz.func68.trans (congrArg some (by kernel_rfl))
  f128 := Tryz.func87.trans (congrArg some (by kernel_rfl))
  f129 := Tryz.func88.trans (congrArg some (by kernel_rfl))
  t3 := Tryz.underlying3
  a3 := Tryz.isAgg3
  z3 := Tryz.sizeOf3
  v3 := Tryz.zeroValue3
  t4 := Tryz.underlying4
  a4 := Tryz.isAgg4
  z4 := Tryz.sizeOf4
  v4 := Tryz.zeroValue4
  t5 := Tryz.underlying5
  a5 := Tryz.isAgg5
  z5 := Tryz.sizeOf5
  v5 := Tryz.zeroValue5
  t9 := Tryz.underlying9
  a9 := Tryz.isAgg9
  z9 := Tryz.sizeOf9
  v9 := Tryz.zeroValue9
  t46 := Tryz.underlying104
  a46 := Tryz.isAgg104
  z46 := Tryz.sizeOf104
  v46 := Tryz.zeroValue104
  t51 := Tryz.underlying116
  a51 := Tryz.isAgg116
  z51 := Tryz.sizeOf116
  v51 := Tryz.zeroValue116
  t53 := Tryz.underlying118
  a53 := Tryz.isAgg118
  z53 := Tryz.sizeOf118
  v53 := Tryz.zeroValue118 }

theorem ins_nil (w : World) : Calls Tryz.prog 78 #[.slice none 0 0, .int .i64 0, .int .i64 0] w fun e w' => e = .returned (.tuple #[]) ∧ w' = w := by
  go_enter Tryz.func78, Tryz.ntmps78
  go_wp2
  refine wp_loop_rounds 1 ?_
  rw [rounds_succ]
  go_wp2
  go_end0
  exact ⟨rfl, rfl⟩
theorem pdq_nil (w : World) (k : Int) : Calls Tryz.prog 67 #[.slice none 0 0, .int .i64 0, .int .i64 0, .int .i64 k] w fun e w' => e = .returned (.tuple #[]) ∧ w' = w := by
  go_enter Tryz.func67, Tryz.ntmps67
  go_wp2
  refine wp_loop_rounds 1 ?_
  rw [rounds_succ]
  go_wp2_with (first | (go_at_call 78; refine (ins_nil w).mono ?_; rintro e w' ⟨rfl, rfl⟩))
  refine bodyPost_ret (v := .tuple #[]) (results_none rfl _ _ _) rfl ?_
  exact ⟨rfl, rfl⟩
theorem sort_nil (w : World) : Calls Tryz.prog 45 #[.slice none 0 0] w fun e w' => e = .returned (.tuple #[]) ∧ w' = w := by
  have h := Any.bits_Len Tryz.laysLenI 0 w (by omega) (by omega)
  have HL := Lib.hid h
  clear h
  go_enter Tryz.func45, Tryz.ntmps45
  go_wp2_with fail
  refine HL.out.mono ?_
  rintro _ _ ⟨rfl, rfl⟩
  go_wp2_with fail
  refine (pdq_nil _ _).mono ?_
  rintro _ w1 ⟨rfl, rfl⟩
  go_wp2
  go_end0
  exact ⟨rfl, rfl⟩

theorem sort_ints {w : World} {v : Value} {ss : List Int} (h : w.ownsRow 0 3 1 v ss.length (ss.map (Value.int .i64))) (hbig : ss.length < 4611686018427387904) :
    Calls Tryz.prog 45 #[v] w fun e w' => e = .returned (.tuple #[]) ∧ w'.ownsRow 0 3 1 v ss.length ((ss.mergeSort fun x y => decide (x ≤ y)).map (Value.int .i64)) ∧ Fr v.ownBlock.toList w w' := by
  have hl := h.1
  rcases h.2 with ⟨rfl, h0⟩ | ⟨g, cap, cur, rfl, hg, hcur, hnc, hcm, hcs, htk⟩
  · have : ss = [] := List.length_eq_zero_iff.1 (by simpa using h0)
    subst this
    refine (sort_nil w).mono ?_
    rintro _ w' ⟨rfl, rfl⟩
    exact ⟨rfl, by simpa using h, Fr.refl _ _⟩
  · have hH : Holds (Value.int .i64) w g 0 ss.toArray := holds_of_blockI hcur (by simpa using htk)
    refine (Any.slices_Sort_int Tryz.laysSortI g 0 cap ss w hH (Array.getElem?_eq_some_iff.1 hcur).1 hbig).mono ?_
    rintro _ w' ⟨rfl, n, os, rfl⟩
    refine ⟨rfl, ?_, (Fr.refl _ _).grown (grownBy_sortedI _) (fun k e => .inl (by simp at e; simp [e, Value.ownBlock]))⟩
    exact ownsRow_sortedI (ss := ss) (List.length_mergeSort _) hg hcur hnc hcm (by simpa using hcs)
end Go.Proofs.YthkkelkgfkehlaaGreat

namespace Go.Proofs.YthkkelkgfkehlaaGreat
open Go.RowKit Classical
set_option maxRecDepth 10000
set_option maxHeartbeats 1600000

/-- The slots of the tree edges, in increasing order. -/
noncomputable def treeL (S : Nat) (G : EMap) : List Nat := (List.range S).filter fun s => decide (isTree G s)
def encT (l : List Nat) : List Value := l.map fun (x : Nat) => Value.int .i64 x
theorem sort_unique {l m : List Int} (hp : l.Perm m) (hm : m.Pairwise (· ≤ ·)) : l.mergeSort (fun x y => decide (x ≤ y)) = m := by
  refine List.Perm.eq_of_pairwise (le := fun x y : Int => x ≤ y) (fun a b _ _ h1 h2 => Int.le_antisymm h1 h2) ?_ hm ((List.mergeSort_perm _ _).trans hp)
  have := List.pairwise_mergeSort (le := fun x y : Int => decide (x ≤ y)) (fun a b c h1 h2 => by simp at *; omega) (fun a b => by simp; omega) l
  exact this.imp fun h => by simpa using h
theorem treeL_sort {S : Nat} {G : EMap} (hS : ∀ s e, G s = some e → s < S) {l : List Int} (hn : l.Nodup) (hl : ∀ x, x ∈ l ↔ treeG G x = true) : l.mergeSort (fun x y => decide (x ≤ y)) = (treeL S G).map fun (x : Nat) => (x : Int) := by
  have hr : ((treeL S G).map fun (x : Nat) => (x : Int)).Pairwise (· < ·) := by
    refine List.pairwise_map.2 ?_
    refine List.Pairwise.imp ?_ (List.Pairwise.filter _ List.pairwise_lt_range)
    intro a b h; omega
  refine sort_unique ((List.perm_ext_iff_of_nodup hn (hr.imp fun h => by omega)).2 fun x => ?_) (hr.imp fun h => by omega)
  rw [hl]
  unfold treeG treeL
  simp only [decide_eq_true_eq, List.mem_map, List.mem_filter, List.mem_range]
  constructor
  · rintro ⟨h0, h1⟩
    obtain ⟨a, b, y, h2, _⟩ := id h1
    exact ⟨x.toNat, ⟨hS _ _ h2, h1⟩, by omega⟩
  · rintro ⟨s, ⟨h0, h1⟩, rfl⟩
    exact ⟨by omega, by rw [Int.toNat_natCast]; exact h1⟩

theorem ownsRow_lt {w : World} {base : Nat} {e : TypeId} {size : Nat} {v : Value} {n : Nat} {xs : List Value} (h : w.ownsRow base e size v n xs) {q : Nat} (hq : v.ownBlock = some q) : q < w.heap.size := by
  rcases h.2 with ⟨rfl, _⟩ | ⟨g, cap, cur, rfl, _, hh, _⟩
  · cases hq
  · simp [Value.ownBlock] at hq; subst hq; exact (Array.getElem?_eq_some_iff.1 hh).1
section
variable {w w' : World} {pf pl g ph mb S V n : Nat} {G : EMap} {key : Nat → Int}
theorem fedges_w (h : FB w pf pl g ph mb S V G (isTree G) key n) :
    Calls Tryz.prog 15 #[fptr pf] w fun e w' => ∃ v, e = .returned v ∧ w'.ownsRow 0 3 1 v (treeL S G).length (encT (treeL S G)) ∧ (∀ q, v.ownBlock = some q → w.heap.size ≤ q) ∧ Fr [] w w' := by
  have c4 := h.hd.cell 4
  simp only [List.getElem?_cons_zero, List.getElem?_cons_succ] at c4
  have hV := Lib.hid (fvalid_w h)
  have hlt := h.lt
  have hS := h.leS
  have hcn : n ≤ S := by rw [h.cn]; exact cntT_le _ _
  have H := Lib.hid h
  clear h
  go_enter Tryz.func15, Tryz.ntmps15
  go_wp2_with (first
    | (go_at_call 24; refine hV.out.mono ?_; rintro _ w ⟨rfl, rfl⟩)
    | (at_range; refine wpList_irange rfl _ rfl H.out.edges Tryz.underlying3 Tryz.underlying57 rfl ?_; intro w0 cnt0 hI0 hc0 hF0 hs0))
  go_frame
  have HI0 := Lib.hid (And.intro hI0 hF0)
  clear hI0 hF0 c4
  go_loopw [3] (fun v wr => ∃ (dn : List Int) (cnt : Nat), Hid (IRange Tryz.prog 3 .i64 okA wr mb w.heap.size (mapG G (isTree G)) n dn cnt ∧ Fr [] w wr ∧ (∀ q, v.ownBlock = some q → w.heap.size ≤ q) ∧ (∀ q, v.ownBlock = some q → q ≠ w.heap.size)) ∧ dn.length + cnt ≤ n ∧ wr.ownsRow 0 3 1 v (dn.filter (treeG G)).length ((dn.filter (treeG G)).map (Value.int .i64))) (fun _ wr => wr.rangeLeft mb w.heap.size)
  case atStart => exact ⟨[], cnt0, Lib.hid ⟨HI0.out.1, HI0.out.2, (fun q e => by cases e), (fun q e => by cases e)⟩, by simpa using hc0, ⟨rfl, .inl ⟨rfl, rfl⟩⟩⟩
  case round =>
    clear HI0
    obtain ⟨dn, cnt, HR, hle, hown⟩ := hrel
    obtain ⟨a8, c8, rfl⟩ := ownsRow_slice hown
    have hfl := List.length_filter_le (treeG G) dn
    have HO := Lib.hid hown; clear hown
    go_wp2_with (first | (at_next; refine wpList_inext rfl _ rfl Tryz.underlying3 rfl HR.out.1 ?_ ?_) | fail)
    · intro hall
      have hnd := HR.out.1
      obtain ⟨D, left, _, _, _, hD, hn0, hk0, _⟩ := hnd
      have hiff : ∀ x, x ∈ dn.filter (treeG G) ↔ treeG G x = true := by
        intro x
        rw [List.mem_filter]
        refine ⟨fun h => h.2, fun h => ⟨?_, h⟩⟩
        have h' := h
        unfold treeG at h'
        obtain ⟨h0, a, b, y, h1, _⟩ := of_decide_eq_true h'
        have := H.out.gw.slot _ _ h1
        refine hall x ?_ ?_
        · show (decide ((-9223372036854775808 : Int) ≤ x) && decide (x ≤ 9223372036854775807)) = true
          simp; omega
        · unfold mapG; rw [if_pos h0, h1]; rfl
      have hsrt := treeL_sort H.out.gw.slot (hn0.filter _) hiff
      clear hiff hk0 hn0 hD hall
      generalize dn.filter (treeG G) = ms at *
      have HSo := Lib.hid (sort_ints HO.out (by omega))
      have HE := Lib.hid hsrt; clear hsrt
      go_wp2_with fail
      refine HSo.out.mono ?_
      rintro _ w5 ⟨rfl, hown5, hF5⟩
      rw [HE.out] at hown5
      have hlen : ms.length = (treeL S G).length := by
        have := congrArg List.length HE.out
        simpa using this
      rw [hlen] at hown5 ⊢
      have H5 := Lib.hid (And.intro hown5 hF5); clear hown5 hF5
      go_wp2_with fail
      go_ret
      refine ⟨.slice a8 (treeL S G).length c8, rfl, by simpa [encT, Function.comp_def] using H5.out.1, fun q hq => HR.out.2.2.1 q (by cases a8 with | none => cases hq | some a => exact hq), HR.out.2.1.trans H5.out.2 (fun q hq => .inr (HR.out.2.2.1 q (by simpa using hq)))⟩
    · intro x c w1 cnt1 hwx hm hnd hI1 hlt1 hF1 hs1 hen
      obtain ⟨e1, e2, e3, he⟩ := mapG_tree G x
      rw [hm] at he
      simp only [Option.getD_some] at he
      subst he
      have hrlt := HR.out.1.lt.1
      have hw1 : Fr [] w w1 := HR.out.2.1.trans hF1 (fun q hq => .inr (by simp at hq; omega))
      have hown1 := ownsRow_same HO.out (w' := w1) (fun q hq => hF1.keep q (ownsRow_lt HO.out hq) (by simp; exact HR.out.2.2.2 q hq))
      have HX := Lib.hid (And.intro hI1 (And.intro hw1 hnd))
      have HO1 := Lib.hid hown1
      clear hm hnd hI1 hF1 hw1 hown1
      cases htb : treeG G x with
      | false =>
        rw [htb] at hen
        have hfil : (dn ++ [x]).filter (treeG G) = dn.filter (treeG G) := by simp [List.filter_append, htb]
        have HT := Lib.hid hfil; clear htb hfil
        go_wp2_with fail
        go_roundw
        case rel =>
          refine ⟨dn ++ [x], cnt1, Lib.hid ⟨HX.out.1.fr ((Fr.refl [] w1).alloc _) (by simp) (by simp), HX.out.2.1.alloc _, HR.out.2.2⟩, by simp; omega, ?_⟩
          rw [HT.out]; exact HO1.out.alloc _
        case measure => rw [(HX.out.1.fr ((Fr.refl [] w1).alloc _) (by simp) (by simp)).left_eq, HR.out.1.left_eq]; omega
      | true =>
        rw [htb] at hen
        have hfil : (dn ++ [x]).filter (treeG G) = dn.filter (treeG G) ++ [x] := by simp [List.filter_append, htb]
        have HT := Lib.hid hfil; clear htb hfil
        generalize hms : dn.filter (treeG G) = ms at *
        have hown2 : ((w1.alloc (.cells #[.int .i64 e1, .int .i64 e2, .int .i64 e3, .bool true] 64)).alloc (.cells #[.int .i64 x] 3)).ownsRow 0 3 1 (.slice a8 ms.length c8) ms.length (ms.map (Value.int .i64)) := (HO1.out.alloc _).alloc _
        have HO2 := Lib.hid hown2; clear hown2
        go_wp2_with (first | (at_builtin; refine wpList_app1 rfl _ _ 40 rfl 3 (.int .i64 0) 8 Tryz.underlying40 Tryz.info3 rfl (.slice a8 ms.length c8) ms.length _ rfl HO2.out (wr.heap.size + 1) (.int .i64 x) rfl (cell_new1 _ _ _ _ (by simp; omega)) rfl (by omega) (by decide) ?_; intro g' cap' w4 hown4 hgrow4 hg4; have hF4 : Fr (Value.slice a8 ms.length c8).ownBlock.toList w1 w4 := (((Fr.refl _ _).alloc _).alloc _).grown hgrow4 (fun q e => .inl (by simp [e]))) | fail)
        go_roundw
        case rel =>
          have h1 : ∀ q ∈ (Value.slice a8 ms.length c8).ownBlock.toList, w.heap.size ≤ q ∧ q ≠ w.heap.size := fun q hq => by
            have hq : (Value.slice a8 ms.length c8).ownBlock = some q := by simpa using hq
            exact ⟨HR.out.2.2.1 q hq, HR.out.2.2.2 q hq⟩
          have h2 : w.heap.size < g' := by
            rcases hg4 with e | e
            · have := h1 g' (by simp [e]); omega
            · simp at e; omega
          have hI4 := HX.out.1.fr hF4 (fun hm => by have := (h1 _ hm).1; omega) (fun hm => (h1 _ hm).2 rfl)
          refine ⟨dn ++ [x], cnt1, Lib.hid ⟨hI4, HX.out.2.1.trans hF4 (fun q hq => .inr (h1 q hq).1), fun q e => ?_, fun q e => ?_⟩, by simp; omega, ?_⟩
          · simp [Value.ownBlock] at e; omega
          · simp [Value.ownBlock] at e; omega
          · rw [HT.out, List.length_append, List.map_append]; exact hown4
        case measure =>
          have h1 : ∀ q ∈ (Value.slice a8 ms.length c8).ownBlock.toList, w.heap.size ≤ q ∧ q ≠ w.heap.size := fun q hq => by
            have hq : (Value.slice a8 ms.length c8).ownBlock = some q := by simpa using hq
            exact ⟨HR.out.2.2.1 q hq, HR.out.2.2.2 q hq⟩
          have hI4 := HX.out.1.fr hF4 (fun hm => by have := (h1 _ hm).1; omega) (fun hm => (h1 _ hm).2 rfl)
          rw [hI4.left_eq, HR.out.1.left_eq]; omega
end
end Go.Proofs.YthkkelkgfkehlaaGreat
