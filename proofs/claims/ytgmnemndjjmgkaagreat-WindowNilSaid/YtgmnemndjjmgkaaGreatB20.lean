/- forest: its contracts, for the laws. -/
import Derived.Test.YtgmnemndjjmgkaaGreatB8
import Derived.Test.YtgmnemndjjmgkaaGreatB19
import Derived.Test.YtgmnemndjjmgkaaGreatB16
import Derived.Maps.RangeWalk
import Derived.Test.YtgmnemndjjmgkaaGreatB4
import Derived.Shelf.Sort.Plain
import Derived.Shelf.Lay
import Derived.Shelf.Small.Bits
import Derived.Ground.NamesProg
import Derived.Sort.OwnSortedInts
import Derived.Test.YtgmnemndjjmgkaaGreatB1
import Derived.Test.YtgmnemndjjmgkaaGreatB15
set_option linter.unusedSimpArgs false
set_option linter.unusedVariables false
/- forest: Connected, Size, Until, Tree, Len. -/
namespace Go.Proofs.YtgmnemndjjmgkaaGreat
open Go.RowKit Classical
set_option maxRecDepth 10000
set_option maxHeartbeats 1600000
noncomputable def connG (V : Nat) (G : EMap) (a b : Int) : Bool := inV V a && inV V b && decide (Cx G (fun _ => True) a.toNat b.toNat)
noncomputable def sizeG (V : Nat) (G : EMap) (a : Int) : Int := if inV V a then (cxs V G (fun _ => True) a.toNat : Int) else 0
theorem cx_tree {S V : Nat} {G : EMap} (h : GW S V G) (a b : Nat) : Cx G (isTree G) a b ↔ Cx G (fun _ => True) a b :=
  ⟨fun hc => hc.mono fun _ _ _ _ => trivial, fun hc => kru_all h.slot hc⟩
section
variable {w w' : World} {pf pl g ph mb S V n : Nat} {G : EMap} {key : Nat → Int}
theorem fconn_w (h : FB w pf pl g ph mb S V G (isTree G) key n) (a b : Int) :
    Calls Tryz.prog 40 #[fptr pf, .int .i64 a, .int .i64 b] w fun e w' => e = .returned (.bool (connG V G a b)) ∧ FB w' pf pl g ph mb S V G (isTree G) key n ∧ Fr [g] w w' := by
 have HH := Lib.hid (fun (w' : World) (h : FB w' pf pl g ph mb S V G (isTree G) key n) (v : Int) => fhas_w h v)
 have hS := h.leS
 have hV := h.leV
 have H := Lib.hid h
 cases ha : inV V a with
 | false => {
 have e : connG V G a b = false := by simp [connG, ha]
 rw [e]
 clear h e
 go_enter Tryz.func40, Tryz.ntmps40
 go_wp2_with fail
 refine region_cw (fun w' => FB w' pf pl g ph mb S V G (isTree G) key n ∧ Fr [g] w w') (by kernel_rfl) (by kernel_rfl) ⟨H.out.fr0 (Fr.refl [] w).drew, (Fr.refl [g] w).drew⟩ ?_
 iterate 2 (refine cw_pure (by kernel_rfl) (fun KK hK => ?_); go_simp; refine hK.out _ ?_; clear hK KK)
 refine cw_val (by kernel_rfl) (.bool false) (fun w' hw' => ?_) ?_
 {
 go_simp
 refine (HH.out _ hw'.1 a).mono ?_
 rintro _ w2 ⟨rfl, rfl⟩
 exact ⟨by rw [ha], hw'⟩
 }
 (refine cw_pure (by kernel_rfl) (fun KK hK => ?_); go_simp; refine hK.out _ ?_; clear hK KK)
 iterate 3 (refine cw_skip (by kernel_rfl) ?_; go_frame)
 iterate 2 (refine cw_pure (by kernel_rfl) (fun KK hK => ?_); go_simp; refine hK.out _ ?_; clear hK KK)
 iterate 18 (refine cw_skip (by kernel_rfl) ?_; go_frame)
 iterate 2 (refine cw_pure (by kernel_rfl) (fun KK hK => ?_); go_simp; refine hK.out _ ?_; clear hK KK)
 refine cw_nil ?_
 rintro w2 ⟨h1, h2⟩
 have H2 := Lib.hid (And.intro h1 h2); clear h1 h2
 go_wp2
 go_ret
 exact ⟨rfl, H2.out⟩
 }
 | true => {
 cases hb : inV V b with
 | false => {
 have e : connG V G a b = false := by simp [connG, ha, hb]
 rw [e]
 clear h e
 go_enter Tryz.func40, Tryz.ntmps40
 go_wp2_with fail
 refine region_cw (fun w' => FB w' pf pl g ph mb S V G (isTree G) key n ∧ Fr [g] w w') (by kernel_rfl) (by kernel_rfl) ⟨H.out.fr0 (Fr.refl [] w).drew, (Fr.refl [g] w).drew⟩ ?_
 iterate 2 (refine cw_pure (by kernel_rfl) (fun KK hK => ?_); go_simp; refine hK.out _ ?_; clear hK KK)
 refine cw_val (by kernel_rfl) (.bool true) (fun w' hw' => ?_) ?_
 {
 go_simp
 refine (HH.out _ hw'.1 a).mono ?_
 rintro _ w2 ⟨rfl, rfl⟩
 exact ⟨by rw [ha], hw'⟩
 }
 iterate 3 (refine cw_pure (by kernel_rfl) (fun KK hK => ?_); go_simp; refine hK.out _ ?_; clear hK KK)
 refine cw_val (by kernel_rfl) (.bool false) (fun w' hw' => ?_) ?_
 {
 go_simp
 refine (HH.out _ hw'.1 b).mono ?_
 rintro _ w2 ⟨rfl, rfl⟩
 exact ⟨by rw [hb], hw'⟩
 }
 iterate 2 (refine cw_pure (by kernel_rfl) (fun KK hK => ?_); go_simp; refine hK.out _ ?_; clear hK KK)
 iterate 18 (refine cw_skip (by kernel_rfl) ?_; go_frame)
 iterate 2 (refine cw_pure (by kernel_rfl) (fun KK hK => ?_); go_simp; refine hK.out _ ?_; clear hK KK)
 refine cw_nil ?_
 rintro w2 ⟨h1, h2⟩
 have H2 := Lib.hid (And.intro h1 h2); clear h1 h2
 go_wp2
 go_ret
 exact ⟨rfl, H2.out⟩
 }
 | true => {
 obtain ⟨a, rfl, ha'⟩ := inV_nat ha
 obtain ⟨b, rfl, hb'⟩ := inV_nat hb
 have hw1 : IntKind.i64.wrap ((S : Int) + a) = (S : Int) + a := IntWalk.i64_in _ (by omega)
 have hw2 : IntKind.i64.wrap ((S : Int) + b) = (S : Int) + b := IntWalk.i64_in _ (by omega)
 have e : connB (S + V) (TE S G (isTree G)) ((S : Int) + a) ((S : Int) + b) = connG V G a b := by {
 have e1 : connG V G a b = decide (Cx G (fun _ => True) a b) := by simp [connG, ha, hb]
 rw [e1]
 unfold connB
 refine decide_eq_decide.2 ?_
 rw [← cx_tree h.gw, ← te_iff h.gw.slot h.frs]
 unfold ConnI
 rw [show ((S : Int) + a).toNat = S + a by omega, show ((S : Int) + b).toNat = S + b by omega]
 exact ⟨fun h => h.2.2, fun h => ⟨by simp [inV]; omega, by simp [inV]; omega, h⟩⟩
 }
 have HC := Lib.hid (fun (w' : World) (h : FB w' pf pl g ph mb S V G (isTree G) key n ∧ Fr [g] w w') => (show Calls Tryz.prog 83 #[fptr pl, .int .i64 ((S : Int) + a), .int .i64 ((S : Int) + b)] w' fun e w'' => e = .returned (.bool (connG V G a b)) ∧ FB w'' pf pl g ph mb S V G (isTree G) key n ∧ Fr [g] w w'' by
   have hC := connected_d h.1.lct ((S : Int) + a) ((S : Int) + b)
   rw [e] at hC
   exact hC.mono fun e w'' ⟨h1, h2, h3⟩ => ⟨h1, h.1.asked h2 h3, h.2.trans' h3⟩))
 clear h e
 generalize connG V G a b = r at *
 go_enter Tryz.func40, Tryz.ntmps40
 go_wp2_with fail
 refine region_cw (fun w' => FB w' pf pl g ph mb S V G (isTree G) key n ∧ Fr [g] w w') (by kernel_rfl) (by kernel_rfl) ⟨H.out.fr0 (Fr.refl [] w).drew, (Fr.refl [g] w).drew⟩ ?_
 iterate 2 (refine cw_pure (by kernel_rfl) (fun KK hK => ?_); go_simp; refine hK.out _ ?_; clear hK KK)
 refine cw_val (by kernel_rfl) (.bool true) (fun w' hw' => ?_) ?_
 {
 go_simp
 refine (HH.out _ hw'.1 a).mono ?_
 rintro _ w2 ⟨rfl, rfl⟩
 exact ⟨by rw [ha], hw'⟩
 }
 iterate 3 (refine cw_pure (by kernel_rfl) (fun KK hK => ?_); go_simp; refine hK.out _ ?_; clear hK KK)
 refine cw_val (by kernel_rfl) (.bool true) (fun w' hw' => ?_) ?_
 {
 go_simp
 refine (HH.out _ hw'.1 b).mono ?_
 rintro _ w2 ⟨rfl, rfl⟩
 exact ⟨by rw [hb], hw'⟩
 }
 iterate 6 (refine cw_pure (by kernel_rfl) (fun KK hK => ?_); go_simp; refine hK.out _ ?_; clear hK KK)
 refine cw_val (by kernel_rfl) (fptr pl) (fun w' hw' => ?_) ?_
 {
 have c2 := hw'.1.hd.cell 2
 simp only [List.getElem?_cons_zero, List.getElem?_cons_succ] at c2
 go_simp
 }
 iterate 3 (refine cw_pure (by kernel_rfl) (fun KK hK => ?_); go_simp; refine hK.out _ ?_; clear hK KK)
 refine cw_val (by kernel_rfl) (.int .i64 S) (fun w' hw' => ?_) ?_
 {
 have c1 := hw'.1.hd.cell 1
 simp only [List.getElem?_cons_zero, List.getElem?_cons_succ] at c1
 go_simp
 }
 iterate 5 (refine cw_pure (by kernel_rfl) (fun KK hK => ?_); go_simp; refine hK.out _ ?_; clear hK KK)
 refine cw_val (by kernel_rfl) (.int .i64 S) (fun w' hw' => ?_) ?_
 {
 have c1 := hw'.1.hd.cell 1
 simp only [List.getElem?_cons_zero, List.getElem?_cons_succ] at c1
 go_simp
 }
 iterate 2 (refine cw_pure (by kernel_rfl) (fun KK hK => ?_); go_simp; refine hK.out _ ?_; clear hK KK)
 refine cw_val (by kernel_rfl) (.bool r) (fun w' hw' => ?_) ?_
 {
 go_simp
 exact HC.out _ hw'
 }
 iterate 2 (refine cw_pure (by kernel_rfl) (fun KK hK => ?_); go_simp; refine hK.out _ ?_; clear hK KK)
 refine cw_nil ?_
 rintro w2 ⟨h1, h2⟩
 have H2 := Lib.hid (And.intro h1 h2); clear h1 h2
 go_wp2
 go_ret
 exact ⟨rfl, H2.out⟩
 }
 }
theorem fsize_w (h : FB w pf pl g ph mb S V G (isTree G) key n) (a : Int) :
    Calls Tryz.prog 59 #[fptr pf, .int .i64 a] w fun e w' => e = .returned (.int .i64 (sizeG V G a)) ∧ FB w' pf pl g ph mb S V G (isTree G) key n ∧ Fr [g] w w' := by
 have c1 := h.hd.cell 1
 have c2 := h.hd.cell 2
 simp only [List.getElem?_cons_zero, List.getElem?_cons_succ] at c1 c2
 have HA := fhas_w h a
 have hS := h.leS
 have hV := h.leV
 cases ha : inV V a with
 | false => {
 rw [ha] at HA
 have e : sizeG V G a = 0 := by simp [sizeG, ha]
 rw [e]
 have HA := Lib.hid HA
 have H := Lib.hid h
 clear h e
 go_enter Tryz.func59, Tryz.ntmps59
 go_wp2_with fail
 refine HA.out.mono ?_
 rintro _ w1 ⟨rfl, rfl⟩
 go_wp2
 go_ret
 exact ⟨rfl, H.out, Fr.refl _ _⟩
 }
 | true => {
 rw [ha] at HA
 obtain ⟨a, rfl, ha'⟩ := inV_nat ha
 have hw1 : IntKind.i64.wrap ((S : Int) + a) = (S : Int) + a := IntWalk.i64_in _ (by omega)
 have e1 : sizeG V G a = (cxs V G (isTree G) a : Int) := by {
 have : cxs V G (isTree G) a = cxs V G (fun _ => True) a := cntT_congr fun v => cx_tree h.gw a v
 simp [sizeG, ha, this]
 }
 rw [e1]
 have he := csize_te h.gw h.frs ha'
 have hle := csize_le (S + V) (TE S G (isTree G)) (S + a)
 generalize hz : csize (S + V) (TE S G (isTree G)) (S + a) = z at *
 have HE := Lib.hid hz; clear hz
 generalize cxs V G (isTree G) a = y at *
 have HZ := Lib.hid (And.intro he hle)
 have hw2 : IntKind.i64.wrap ((z : Int) + 1) = 2 * (y : Int) := by rw [show (z : Int) + 1 = 2 * (y : Int) by omega]; exact IntWalk.i64_in _ (by omega)
 have hw3 : IntKind.i64.wrap (y : Int) = (y : Int) := IntWalk.i64_in _ (by omega)
 have HA := Lib.hid HA
 have H := Lib.hid h
 have HC := Lib.hid (fun (w' : World) (h : FB w' pf pl g ph mb S V G (isTree G) key n ∧ Fr [g] w w') => (show Calls Tryz.prog 116 #[fptr pl, .int .i64 ((S : Int) + a)] w' fun e w'' => e = .returned (.int .i64 z) ∧ FB w'' pf pl g ph mb S V G (isTree G) key n ∧ Fr [g] w w'' by
   have hC := size_w h.1.lct ((S : Int) + a)
   rw [if_pos (by simp [inV]; omega), show ((S : Int) + a).toNat = S + a by omega, HE.out] at hC
   exact hC.mono fun e w'' ⟨h1, h2, h3⟩ => ⟨h1, h.1.asked h2 h3, h.2.trans' h3⟩))
 clear h e1 he hle c1 c2
 go_enter Tryz.func59, Tryz.ntmps59
 go_wp2_with fail
 refine HA.out.mono ?_
 rintro _ w1 ⟨rfl, rfl⟩
 go_wp2_with fail
 refine region_cw (fun w' => FB w' pf pl g ph mb S V G (isTree G) key n ∧ Fr [g] w1 w') (by kernel_rfl) (by kernel_rfl) ⟨H.out.fr0 (Fr.refl [] w1).drew, (Fr.refl [g] w1).drew⟩ ?_
 iterate 4 (refine cw_pure (by kernel_rfl) (fun KK hK => ?_); go_simp; refine hK.out _ ?_; clear hK KK)
 refine cw_val (by kernel_rfl) (fptr pl) (fun w' hw' => ?_) ?_
 {
 have c2 := hw'.1.hd.cell 2
 simp only [List.getElem?_cons_zero, List.getElem?_cons_succ] at c2
 go_simp
 }
 iterate 3 (refine cw_pure (by kernel_rfl) (fun KK hK => ?_); go_simp; refine hK.out _ ?_; clear hK KK)
 refine cw_val (by kernel_rfl) (.int .i64 S) (fun w' hw' => ?_) ?_
 {
 have c1 := hw'.1.hd.cell 1
 simp only [List.getElem?_cons_zero, List.getElem?_cons_succ] at c1
 go_simp
 }
 iterate 2 (refine cw_pure (by kernel_rfl) (fun KK hK => ?_); go_simp; refine hK.out _ ?_; clear hK KK)
 refine cw_val (by kernel_rfl) (.int .i64 z) (fun w' hw' => ?_) ?_
 {
 go_simp
 exact HC.out _ hw'
 }
 iterate 3 (refine cw_pure (by kernel_rfl) (fun KK hK => ?_); go_simp; refine hK.out _ ?_; clear hK KK)
 refine cw_nil ?_
 rintro w2 ⟨h1, h2⟩
 have H2 := Lib.hid (And.intro h1 h2); clear h1 h2
 go_wp2
 go_ret
 exact ⟨rfl, H2.out⟩
 }
@[go_sem] theorem fld_exp (e1 e2 e3 : Int) (tb : Bool) (w : World) : (Instr.field 128 (.agg #[.int .i64 e1, .int .i64 e2, .int .i64 e3, .bool tb]) 2).run Tryz.prog w = .ok (.int .i64 e3) w := by kernel_rfl
@[go_sem] theorem fld_tree (e1 e2 e3 : Int) (tb : Bool) (w : World) : (Instr.field 128 (.agg #[.int .i64 e1, .int .i64 e2, .int .i64 e3, .bool tb]) 3).run Tryz.prog w = .ok (.bool tb) w := by kernel_rfl
noncomputable def untilB (V : Nat) (G : EMap) (a b : Int) : Bool := decide (a ≠ b) && connG V G a b
noncomputable def untilV (V : Nat) (G : EMap) (a b : Int) : Int := if untilB V G a b then untilI G a.toNat b.toNat else 0
theorem funtil_w (h : FB w pf pl g ph mb S V G (isTree G) key n) (a b : Int) :
    Calls Tryz.prog 39 #[fptr pf, .int .i64 a, .int .i64 b] w fun e w' => e = .returned (.tuple #[.int .i64 (untilV V G a b), .bool (untilB V G a b)]) ∧ FB w' pf pl g ph mb S V G (isTree G) key n ∧ Fr [g] w w' := by
 have HA := fhas_w h a
 have HB := fhas_w h b
 have hS := h.leS
 have hV := h.leV
 have H := Lib.hid h
 cases ha : inV V a with
 | false => {
 have e : untilB V G a b = false := by simp [untilB, connG, ha]
 have e' : untilV V G a b = 0 := by simp [untilV, e]
 rw [e, e']
 rw [ha] at HA
 have HA := Lib.hid HA
 clear h e e' HB
 go_enter Tryz.func39, Tryz.ntmps39
 go_wp2_with fail
 refine HA.out.mono ?_
 rintro _ w1 ⟨rfl, rfl⟩
 go_wp2
 go_ret2
 exact ⟨rfl, H.out, Fr.refl _ _⟩
 }
 | true => {
 rw [ha] at HA
 cases hb : inV V b with
 | false => {
 have e : untilB V G a b = false := by simp [untilB, connG, hb]
 have e' : untilV V G a b = 0 := by simp [untilV, e]
 rw [e, e']
 rw [hb] at HB
 have HA := Lib.hid HA
 have HB := Lib.hid HB
 clear h e e'
 go_enter Tryz.func39, Tryz.ntmps39
 go_wp2_with fail
 refine HA.out.mono ?_
 rintro _ w1 ⟨rfl, rfl⟩
 go_wp2_with fail
 refine HB.out.mono ?_
 rintro _ w1 ⟨rfl, rfl⟩
 go_wp2
 go_ret2
 exact ⟨rfl, H.out, Fr.refl _ _⟩
 }
 | true => {
 rw [hb] at HB
 have HA := Lib.hid HA
 have HB := Lib.hid HB
 obtain ⟨a, rfl, ha'⟩ := inV_nat ha
 obtain ⟨b, rfl, hb'⟩ := inV_nat hb
 by_cases hab : a = b
 {
 subst hab
 have e : untilB V G a a = false := by simp [untilB]
 have e' : untilV V G a a = 0 := by simp [untilV, e]
 rw [e, e']
 clear h e e'
 go_enter Tryz.func39, Tryz.ntmps39
 go_wp2_with fail
 refine HA.out.mono ?_
 rintro _ w1 ⟨rfl, rfl⟩
 go_wp2_with fail
 refine HB.out.mono ?_
 rintro _ w1 ⟨rfl, rfl⟩
 go_wp2
 go_ret2
 exact ⟨rfl, H.out, Fr.refl _ _⟩
 }
 {
 have t1 : ((a : Int) == (b : Int)) = false := by simp; omega
 have hw1 : IntKind.i64.wrap ((S : Int) + a) = (S : Int) + a := IntWalk.i64_in _ (by omega)
 have hw2 : IntKind.i64.wrap ((S : Int) + b) = (S : Int) + b := IntWalk.i64_in _ (by omega)
 have HN := Lib.hid (And.intro h.ne1 (And.intro h.ne2 h.lt))
 have HM := Lib.hid (min_d (show LG w.drew pl g (S + V) (TE S G (isTree G)) key _ from LG.fr h.lct (Fr.refl [] _).drew (by simp) (by simp)) ((S : Int) + a) ((S : Int) + b))
 have e1 := h.hd.cell 1
 have e2 := h.hd.cell 2
 simp only [List.getElem?_cons_zero, List.getElem?_cons_succ] at e1 e2
 clear h
 go_enter Tryz.func39, Tryz.ntmps39
 go_wp2_with fail
 refine HA.out.mono ?_
 rintro _ w1 ⟨rfl, rfl⟩
 go_wp2_with fail
 refine HB.out.mono ?_
 rintro _ w1 ⟨rfl, rfl⟩
 go_wp2
 go_region_held3 (fun w' => w'.cell? ⟨pf, 1, none⟩ = some (.int .i64 S) ∧ w'.cell? ⟨pf, 2, none⟩ = some (fptr pl))
   (first
     | go_keep
     | (have N := HN.out; exact ⟨hF4.cell (by simp_all) (by simp; omega), hF4.cell (by simp_all) (by simp; omega)⟩))
   (first
     | (go_at_call 82; refine HM.out.mono ?_; rintro e w4 ⟨r, ok, rfl, hsay, hL4, hF4⟩))
 have hB4 := H.out.asked hL4 (((Fr.refl [g] w1).drew).trans' hF4)
 have H4 := Lib.hid (And.intro hB4 (((Fr.refl [g] w1).drew).trans' hF4))
 have HS := Lib.hid (And.intro hsay hL4)
 clear hB4 hsay hL4 hF4 HM e1 e2
 cases ok with
 | false => {
 have e : untilB V G a b = false := by {
 rcases HS.out.1 with ⟨_, _, hn⟩ | ⟨e, _⟩
 {
 have hc : ¬ Cx G (fun _ => True) a b := by {
 intro hc
 exact hn ⟨by simp [inV]; omega, by simp [inV]; omega, by
   rw [show ((S : Int) + a).toNat = S + a by omega, show ((S : Int) + b).toNat = S + b by omega]
   exact te_conn H.out.frs ((cx_tree H.out.gw a b).2 hc)⟩
 }
 simp [untilB, connG, hc]
 }
 · cases e
 }
 have e' : untilV V G a b = 0 := by simp [untilV, e]
 have HE := Lib.hid (And.intro e e'); clear e e'
 go_wp2
 go_ret2
 exact ⟨by rw [HE.out.1, HE.out.2]; rfl, H4.out⟩
 }
 | true => {
 obtain ⟨m, ma, mz, y, hr, hms, hgm, htm, hu, hcx⟩ : ∃ (m ma mz : Nat) (y : Int), r = m ∧ m < S ∧ G m = some (ma, mz, y) ∧ isTree G m ∧ IsUntil G a b y ∧ Cx G (fun _ => True) a b := by {
 rcases HS.out.1 with ⟨e, _⟩ | ⟨_, v, u, p, m, e1, e2, h3, h4, hp, hin, hf, hr⟩
 · cases e
 {
 obtain rfl : v = S + a := by omega
 obtain rfl : u = S + b := by omega
 obtain ⟨ma, mz, y, h5, h6, h7, h8⟩ := first_slot H.out.gw H.out.keys hp hab hf hin
 exact ⟨m, ma, mz, y, hr, h5, h6, h7, until_first H.out.gw.slot h6 h8 (te_cut H.out.frs (te_sub H.out.frs (fun _ h => h.1)) hp hf.1 h5), h8.mono fun _ _ _ _ => trivial⟩
 }
 }
 subst hr
 have e : untilB V G a b = true := by simp [untilB, connG, ha, hb, hcx]; omega
 have e' : untilV V G a b = y := by rw [untilV, if_pos e, Int.toNat_natCast, Int.toNat_natCast]; exact untilI_eq hu
 have HE := Lib.hid (And.intro e e')
 have hl4 := H4.out.1.edges.run_get (t := 123) (e := 128) (z := edZ) Tryz.underlying3 Tryz.underlying123 (by kernel_rfl) rfl (wf_nat (s := m) (by omega))
 rw [mapG_nat, hgm] at hl4
 simp only [Option.map_some, Option.getD_some, htm, decide_true, edV] at hl4
 have c4 := H4.out.1.hd.cell 4
 simp only [List.getElem?_cons_zero, List.getElem?_cons_succ] at c4
 clear e e' hu hcx htm hgm
 go_wp2
 go_ret2
 exact ⟨by rw [HE.out.1, HE.out.2]; rfl, H4.out⟩
 }
 }
 }
 }
end
end Go.Proofs.YtgmnemndjjmgkaaGreat

/- forest: Expire. -/
namespace Go.Proofs.YtgmnemndjjmgkaaGreat
open Go.RowKit Classical
set_option maxRecDepth 10000
set_option maxHeartbeats 1600000
section
variable {w w' : World} {pf pl g ph mb S V n : Nat} {G : EMap} {T T' : Nat → Prop} {key : Nat → Int} {l L : List Nat}
theorem mapG_drop {m : Nat} (hT : ∀ t, t ≠ m → (T t ↔ T' t)) : updM (mapG G T) m none = mapG (updG G m none) T' := by
 funext k
 by_cases hk : k = (m : Int)
 · subst hk; rw [updM_same, mapG_nat, updG_same]; rfl
 {
 rw [updM_other hk]
 unfold mapG
 by_cases h0 : 0 ≤ k
 {
 have : k.toNat ≠ m := by omega
 rw [updG_other this]
 simp only [hT _ this]
 }
 · simp only [h0, if_false]
 }
theorem qOf_drop {m : Nat} : updQ (qOf G) m none = qOf (updG G m none) := by
 funext k
 by_cases hk : k = m
 · subst hk; rw [updQ_same]; simp [qOf, updG_same]
 · rw [updQ_other hk]; simp [qOf, updG_other hk]
theorem FB.gone (h : FB w pf pl g ph mb S V G T key n) {m : Nat} {e : Nat × Nat × Int} (hm : G m = some e) (ht : ¬ T m) {X : List Nat} (hf : Fr X w w') (h1 : pf ∉ X) (h2 : pl ∉ X) (h3 : g ∉ X) (hI : IMap Tryz.prog 3 .i64 okA w' mb (mapG (updG G m none) T) (n - 1)) :
    FB w' pf pl g ph mb S V (updG G m none) T key (n - 1) := by
 have hms := h.gw.slot _ _ hm
 have e' : TE S (updG G m none) T = TE S G T := te_congr (fun _ => Iff.rfl) (fun t ht' => by rw [updG_other]; rintro rfl; exact ht ht')
 have hc : cntT S (fun s => (updG G m none s).isSome = true) + 1 = cntT S (fun s => (G s).isSome = true) := cntT_one hms (by simp [hm]) (by simp [updG_same]) (fun x hx => by rw [updG_other hx])
 refine ⟨hf.blk h.hd h1, ?_, hI, h.gw.del m, ⟨fun t c d y h4 h5 => ?_, h.keys.vert⟩, ?_, h.leS, h.leV, h.ne1, h.ne2, h.ne3, h.ne4, h.ne5⟩
 · rw [e']; exact h.lct.fr hf h2 h3
 {
 rw [updG_other (by rintro rfl; exact ht h5)] at h4
 exact h.keys.slot t c d y h4 h5
 }
 · rw [h.cn, ← hc, Nat.add_sub_cancel]
theorem fexp_w (h : FAt w pf S V G L) : Calls Tryz.prog 45 #[fptr pf] w fun e w' => e = .returned (.tuple #[.int .i64 ((fstG G).getD 0 : Nat), .bool (fstG G).isSome]) ∧ ∃ L', FAt w' pf S V (popG G) L' ∧ Fr L w w' ∧ ∀ q ∈ L', q ∈ L ∨ w.heap.size ≤ q := by
  obtain ⟨pl, g, ph, mb, l, key, n, h1, hH, hD, rfl⟩ := h
  have hlt := h1.lt
  have hllt := hH.lt
  have hS := h1.leS
  have hV := h1.leV
  have c3 := h1.hd.cell 3
  simp only [List.getElem?_cons_zero, List.getElem?_cons_succ] at c3
  have HV := Lib.hid (fvalid_w h1)
  have HP := Lib.hid (pop_w hH)
  have H := Lib.hid h1
  have HH := Lib.hid (And.intro hD (And.intro hllt (And.intro hlt hH)))
  clear h1 hH hD hllt
  go_enter Tryz.func45, Tryz.ntmps45
  go_wp2_with fail
  refine HV.out.mono ?_
  rintro _ w ⟨rfl, rfl⟩
  go_wp2_with fail
  refine HP.out.mono ?_
  rintro _ w2 (⟨hn, rfl, hF2⟩ | ⟨hn, i, k, hq, hmin, rfl, l', hH2, hF2, hN2⟩)
  · have hz : ∀ s, G s = none := by
      intro s
      cases hs : G s with
      | none => rfl
      | some e =>
        have := H.out.cn
        exact absurd (show (G s).isSome = true by simp [hs]) (cnt_zero (S := S) (P := fun s => (G s).isSome = true) (by omega) s (H.out.gw.slot s e hs))
    have hfst := fstG_none hz
    have hpop : popG G = G := by unfold popG; rw [hfst]
    have HE := Lib.hid (And.intro hfst (And.intro hpop hF2)); clear hz hfst hpop hF2
    go_wp2
    go_ret2
    refine ⟨by rw [HE.out.1]; rfl, _, ⟨pl, g, ph, mb, l, key, n, ?_, ?_, HH.out.1, rfl⟩, (HE.out.2.2.mono (by simp)).alloc _, fun q hq => .inl hq⟩
    · rw [HE.out.2.1]; exact H.out.fr0 (HE.out.2.2.alloc _)
    · rw [HE.out.2.1]; exact HH.out.2.2.2.fr (HE.out.2.2.alloc _) (by simp)
  · obtain ⟨ma, mz, hg⟩ : ∃ ma mz, G i = some (ma, mz, k) := by
      unfold qOf at hq
      cases hs : G i with
      | none => rw [hs] at hq; cases hq
      | some e => rw [hs] at hq; simp at hq; subst hq; exact ⟨e.1, e.2.1, rfl⟩
    have hall : ∀ t a b z, G t = some (a, b, z) → ¬ bef z t k i := fun t a b z ht hb => hmin t z (by simp [qOf, ht]) hb
    have hfst := fstG_eq (m := i) ⟨ma, mz, k, hg, hall⟩
    have hpop : popG G = updG G i none := by unfold popG; rw [hfst]
    have hdel := del_first hg hall
    have his := H.out.gw.slot _ _ hg
    have hq4 := HH.out.1
    have hx1 : pf ∉ l := fun hm => (hq4 _ hm).1 rfl
    have hx2 : pl ∉ l := fun hm => (hq4 _ hm).2.1 rfl
    have hx3 : g ∉ l := fun hm => (hq4 _ hm).2.2.1 rfl
    have hx4 : mb ∉ l := fun hm => (hq4 _ hm).2.2.2 rfl
    have hF3 : Fr l w (w2.alloc (.cells #[.int .i64 i, .int .i64 k] 136)) := hF2.alloc _
    have hB3 := H.out.fr hF3 hx1 hx2 hx3 hx4
    have hH3 := hH2.fr ((Fr.refl [] w2).alloc (.cells #[.int .i64 i, .int .i64 k] 136)) (by simp)
    have hbx := Blk.new w2 [.int .i64 i, .int .i64 k] 136
    have hsz := hF2.size
    rw [qOf_drop] at hH3
    have c4 := hB3.hd.cell 4
    have x0 := hbx.cell 0
    simp only [List.getElem?_cons_zero, List.getElem?_cons_succ] at c4 x0
    have hl0 := hB3.edges.run_get (t := 123) (e := 128) (z := edZ) Tryz.underlying3 Tryz.underlying123 (by kernel_rfl) rfl (wf_nat (s := i) (by omega))
    rw [mapG_nat, hg] at hl0
    have fin : Hid (∀ (T : Nat → Prop) (w4 w5 : World), (∀ t, T t ↔ isTree (updG G i none) t) → FB w4 pf pl g ph mb S V G T key n → Fr [pf, pl, g, mb] (w2.alloc (.cells #[.int .i64 i, .int .i64 k] 136)) w4 → Fr [mb] w4 w5 → IMap Tryz.prog 3 .i64 okA w5 mb (mapG (updG G i none) T) (n - 1) →
        ∃ L', FAt w5 pf S V (popG G) L' ∧ Fr (pf :: pl :: g :: mb :: l) w w5 ∧ ∀ q ∈ L', q ∈ pf :: pl :: g :: mb :: l ∨ w.heap.size ≤ q) := Lib.hid (fun T w4 w5 hT hB4 hF4 hF5 hI => by
      have hn : ¬ T i := fun h => by obtain ⟨_, _, _, e, _⟩ := (hT i).1 h; rw [updG_same] at e; cases e
      have hB5 := (hB4.gone hg hn hF5 (by simp; exact hB4.ne3) (by simp; exact hB4.ne4) (by simp; exact hB4.ne5) hI).congrT hT
      have hF35 : Fr [pf, pl, g, mb] (w2.alloc (.cells #[.int .i64 i, .int .i64 k] 136)) w5 := hF4.trans' (hF5.mono (fun q hq => .inl (by simp at hq ⊢; exact .inr (.inr (.inr hq)))))
      have hd : ∀ q ∈ l', q ≠ pf ∧ q ≠ pl ∧ q ≠ g ∧ q ≠ mb := by
        intro q hq
        rcases hN2 _ hq with e | e
        · exact hq4 _ e
        · have := HH.out.2.2.1; omega
      rw [hpop]
      refine ⟨_, ⟨pl, g, ph, mb, l', key, n - 1, hB5, hH3.fr hF35 (fun q hq hm => by have := hd q hq; simp at hm; omega), hd, rfl⟩, (hF3.mono (fun q hq => .inl (by simp [hq]))).trans' (hF35.mono (fun q hq => .inl (by simp at hq ⊢; omega))), fun q hq => ?_⟩
      simp only [List.mem_cons] at hq ⊢
      rcases hq with e | e | e | e | e
      · exact .inl (.inl e)
      · exact .inl (.inr (.inl e))
      · exact .inl (.inr (.inr (.inl e)))
      · exact .inl (.inr (.inr (.inr (.inl e))))
      · exact (hN2 _ e).imp (fun e => .inr (.inr (.inr (.inr e)))) id)
    have del : Hid (∀ (T : Nat → Prop) (w4 : World), FB w4 pf pl g ph mb S V G T key n → ∃ w5, (Builtin.delete_ #[123, 3] 0 #[.map (some mb), .int .i64 i]).run Tryz.prog w4 = .ok (.tuple #[]) w5 ∧ IMap Tryz.prog 3 .i64 okA w5 mb (mapG (updG G i none) T) (n - 1) ∧ Fr [mb] w4 w5) := Lib.hid (fun T w4 hB4 => by
      obtain ⟨w5, hr, hI, hF⟩ := hB4.edges.del (t := 123) (e := 128) Tryz.underlying3 Tryz.underlying123 (wf_nat (s := i) (by omega)) 0
      rw [mapG_nat, hg, mapG_drop (fun _ _ => Iff.rfl)] at hI
      exact ⟨w5, hr, hI, hF⟩)
    have HE := Lib.hid (And.intro hfst (And.intro hdel (And.intro hB3 (And.intro hbx hsz))))
    have HF3 := Lib.hid hF3
    have HH3 := Lib.hid hH3
    have HG := Lib.hid hg
    have HLo := Lib.hid (fun (w' : World) (h : FB w' pf pl g ph mb S V G (isTree G) key n) (ht : isTree G i) => loosen_w h hg ht)
    clear hfst hpop hdel hB3 hbx hF3 hH3 hH2 hF2 hN2 hq hmin hall hx1 hx2 hx3 hx4 hq4 c3 hg
    by_cases ht : isTree G i
    · have HT := Lib.hid ht; clear ht
      have HL := Lib.hid (fun (nq : Nat) => (show (Instr.lookup 123 (.map (some mb)) (.int .i64 i) false).run Tryz.prog ((w2.alloc (.cells #[.int .i64 i, .int .i64 k] 136)).drewN nq) = .ok (.agg #[.int .i64 ma, .int .i64 mz, .int .i64 k, .bool true]) ((w2.alloc (.cells #[.int .i64 i, .int .i64 k] 136)).drewN nq) by
        have := (HE.out.2.2.1.fr0 ((Fr.refl [] _).drewN nq)).edges.run_get (t := 123) (e := 128) (z := edZ) Tryz.underlying3 Tryz.underlying123 (by kernel_rfl) rfl (wf_nat (s := i) (by omega))
        rw [mapG_nat, HG.out] at this
        have ht := HT.out
        simpa only [Option.map_some, Option.getD_some, ht, decide_true, decide_false, edV] using this))
      clear hl0
      go_wp2_with fail
      refine region_cw (fun w' => ∃ nq, w' = (w2.alloc (.cells #[.int .i64 i, .int .i64 k] 136)).drewN nq) (by kernel_rfl) (by kernel_rfl) ⟨1, rfl⟩ ?_
      iterate 3 (refine cw_pure (by kernel_rfl) (fun KK hK => ?_); go_simp; refine hK.out _ ?_; clear hK KK)
      refine cw_val (by kernel_rfl) (.map (some mb)) (fun w' hw' => ?_) ?_
      · obtain ⟨nq, rfl⟩ := hw'
        go_simp
      iterate 1 (refine cw_pure (by kernel_rfl) (fun KK hK => ?_); go_simp; refine hK.out _ ?_; clear hK KK)
      refine cw_val (by kernel_rfl) (.int .i64 i) (fun w' hw' => ?_) ?_
      · obtain ⟨nq, rfl⟩ := hw'
        go_simp
      refine cw_val (by kernel_rfl) (.agg #[.int .i64 ma, .int .i64 mz, .int .i64 k, .bool true]) (fun w' hw' => ?_) ?_
      · obtain ⟨nq, rfl⟩ := hw'
        have hl := HL.out nq
        go_simp
      iterate 1 (refine cw_pure (by kernel_rfl) (fun KK hK => ?_); go_simp; refine hK.out _ ?_; clear hK KK)
      refine cw_nil ?_
      rintro w4 ⟨nq, rfl⟩
      go_wp2_with fail
      refine (HLo.out _ (HE.out.2.2.1.fr0 ((Fr.refl [] _).drewN nq)) HT.out).mono ?_
      rintro _ w4 ⟨rfl, hB4, hF4'⟩
      have hF4 : Fr [pf, pl, g, mb] (w2.alloc (.cells #[.int .i64 i, .int .i64 k] 136)) w4 := ((Fr.refl _ _).drewN nq).trans' hF4'
      have hpf4 := hB4.hd
      have hbx4 := hF4.blk HE.out.2.2.2.1 (by have N := HH.out.2.2.1; have hsz := HE.out.2.2.2.2; simp; omega)
      clear hF4' c4 x0
      go_wp2_with fail
      have HX := Lib.hid (And.intro hB4 (And.intro hF4 (And.intro hpf4 hbx4)))
      have x0 := hbx4.cell 0
      have c4 := hpf4.cell 4
      simp only [List.getElem?_cons_zero, List.getElem?_cons_succ] at x0 c4
      clear hB4 hF4 hpf4 hbx4
      refine region_one 6 (fun w' => IMap Tryz.prog 3 .i64 okA w' mb (mapG (updG G i none) (fun t => isTree G t ∧ t ≠ i)) (n - 1) ∧ Fr [mb] w4 w') (by kernel_rfl) (by kernel_rfl) (by kernel_rfl) ?_
      iterate 6 (refine gWalk_pre (by decide) (fun K hK => ?_); go_simp; refine hK _ ?_; clear hK K)
      refine gWalk_write rfl (.tuple #[]) (fun w' hw' => ?_) ?_
      · obtain ⟨nq, rfl⟩ := hw'
        obtain ⟨w6, hrun, hI6, hF6⟩ := del.out _ _ (HX.out.1.fr0 ((Fr.refl [] _).drewN nq))
        go_simp
        first
          | exact ⟨hI6, (((Fr.refl [mb] w4).drewN nq)).trans' hF6⟩
          | exact (((Fr.refl [mb] w4).drewN nq)).trans' hF6
      refine gWalk_nil ?_
      rintro w6 ⟨hI6, hF6⟩
      have N := HH.out.2.2.1
      have hsz := HE.out.2.2.2.2
      have hbx6 := hF6.blk HX.out.2.2.2 (by simp; omega)
      have x0 := hbx6.cell 0
      simp only [List.getElem?_cons_zero] at x0
      have HI6 := Lib.hid (And.intro hI6 hF6)
      clear hI6 hF6 hbx6 c4
      go_wp2
      go_ret2
      exact ⟨by rw [HE.out.1]; rfl, fin.out _ _ _ (fun t => (HE.out.2.1 t).symm) HX.out.1 HX.out.2.1 HI6.out.2 HI6.out.1⟩
    · have HT := Lib.hid ht; clear ht
      have HL := Lib.hid (fun (nq : Nat) => (show (Instr.lookup 123 (.map (some mb)) (.int .i64 i) false).run Tryz.prog ((w2.alloc (.cells #[.int .i64 i, .int .i64 k] 136)).drewN nq) = .ok (.agg #[.int .i64 ma, .int .i64 mz, .int .i64 k, .bool false]) ((w2.alloc (.cells #[.int .i64 i, .int .i64 k] 136)).drewN nq) by
        have := (HE.out.2.2.1.fr0 ((Fr.refl [] _).drewN nq)).edges.run_get (t := 123) (e := 128) (z := edZ) Tryz.underlying3 Tryz.underlying123 (by kernel_rfl) rfl (wf_nat (s := i) (by omega))
        rw [mapG_nat, HG.out] at this
        have ht := HT.out
        simpa only [Option.map_some, Option.getD_some, ht, decide_true, decide_false, edV] using this))
      clear hl0
      go_wp2_with fail
      refine region_cw (fun w' => ∃ nq, w' = (w2.alloc (.cells #[.int .i64 i, .int .i64 k] 136)).drewN nq) (by kernel_rfl) (by kernel_rfl) ⟨1, rfl⟩ ?_
      iterate 3 (refine cw_pure (by kernel_rfl) (fun KK hK => ?_); go_simp; refine hK.out _ ?_; clear hK KK)
      refine cw_val (by kernel_rfl) (.map (some mb)) (fun w' hw' => ?_) ?_
      · obtain ⟨nq, rfl⟩ := hw'
        go_simp
      iterate 1 (refine cw_pure (by kernel_rfl) (fun KK hK => ?_); go_simp; refine hK.out _ ?_; clear hK KK)
      refine cw_val (by kernel_rfl) (.int .i64 i) (fun w' hw' => ?_) ?_
      · obtain ⟨nq, rfl⟩ := hw'
        go_simp
      refine cw_val (by kernel_rfl) (.agg #[.int .i64 ma, .int .i64 mz, .int .i64 k, .bool false]) (fun w' hw' => ?_) ?_
      · obtain ⟨nq, rfl⟩ := hw'
        have hl := HL.out nq
        go_simp
      iterate 1 (refine cw_pure (by kernel_rfl) (fun KK hK => ?_); go_simp; refine hK.out _ ?_; clear hK KK)
      refine cw_nil ?_
      rintro w4 ⟨nq, rfl⟩
      go_wp2_with fail
      have hF4 : Fr [pf, pl, g, mb] (w2.alloc (.cells #[.int .i64 i, .int .i64 k] 136)) ((w2.alloc (.cells #[.int .i64 i, .int .i64 k] 136)).drewN nq) := (Fr.refl _ _).drewN nq
      have hB4 := HE.out.2.2.1.fr0 ((Fr.refl [] _).drewN nq)
      have hbx4 := (Fr.refl [] _).drewN nq |>.blk HE.out.2.2.2.1 (by simp)
      generalize (w2.alloc (.cells #[.int .i64 i, .int .i64 k] 136)).drewN nq = w4 at *
      have hpf4 := hB4.hd
      clear c4 x0
      have HX := Lib.hid (And.intro hB4 (And.intro hF4 (And.intro hpf4 hbx4)))
      have x0 := hbx4.cell 0
      have c4 := hpf4.cell 4
      simp only [List.getElem?_cons_zero, List.getElem?_cons_succ] at x0 c4
      clear hB4 hF4 hpf4 hbx4
      refine region_one 6 (fun w' => IMap Tryz.prog 3 .i64 okA w' mb (mapG (updG G i none) (isTree G)) (n - 1) ∧ Fr [mb] w4 w') (by kernel_rfl) (by kernel_rfl) (by kernel_rfl) ?_
      iterate 6 (refine gWalk_pre (by decide) (fun K hK => ?_); go_simp; refine hK _ ?_; clear hK K)
      refine gWalk_write rfl (.tuple #[]) (fun w' hw' => ?_) ?_
      · obtain ⟨nq, rfl⟩ := hw'
        obtain ⟨w6, hrun, hI6, hF6⟩ := del.out _ _ (HX.out.1.fr0 ((Fr.refl [] _).drewN nq))
        go_simp
        first
          | exact ⟨hI6, (((Fr.refl [mb] w4).drewN nq)).trans' hF6⟩
          | exact (((Fr.refl [mb] w4).drewN nq)).trans' hF6
      refine gWalk_nil ?_
      rintro w6 ⟨hI6, hF6⟩
      have N := HH.out.2.2.1
      have hsz := HE.out.2.2.2.2
      have hbx6 := hF6.blk HX.out.2.2.2 (by simp; omega)
      have x0 := hbx6.cell 0
      simp only [List.getElem?_cons_zero] at x0
      have HI6 := Lib.hid (And.intro hI6 hF6)
      clear hI6 hF6 hbx6 c4
      go_wp2
      go_ret2
      exact ⟨by rw [HE.out.1]; rfl, fin.out _ _ _ (fun t => ((HE.out.2.1 t).trans ⟨fun h => h.1, fun h => ⟨h, by rintro rfl; exact HT.out h⟩⟩).symm) HX.out.1 HX.out.2.1 HI6.out.2 HI6.out.1⟩
end
end Go.Proofs.YtgmnemndjjmgkaaGreat

/- A range over a map with integer keys: the keys that were met, in whatever order. -/
namespace Go.Proofs.YtgmnemndjjmgkaaGreat
open Go.RowKit Go.Maps
def IRange (P : Program) (k : TypeId) (q : IntKind) (ok : Value → Bool) (w : World) (b r : Nat) (m : Int → Option Value) (n : Nat) (done : List Int) (cnt : Nat) : Prop :=
  ∃ (D : DataW Value) (left : Lit → Bool), w.ranges P k (tokR ok) b r n D left cnt ∧ Tidy D ∧ Maps.size D = n ∧
    (∀ a : Int, (Lit.int q a).wf = true → (Maps.has D (.int q a) = (m a).isSome ∧ ∀ v, m a = some v → ok v = true ∧ ∀ z, D.atKey (.int q a) z = .held v)) ∧
    done.Nodup ∧ (∀ x ∈ done, (Lit.int q x).wf = true ∧ (m x).isSome = true) ∧ (∀ x, (Lit.int q x).wf = true → (left (.int q x) = true ↔ (m x).isSome = true ∧ x ∉ done))
section
variable {P : Program} {k t e : TypeId} {q : IntKind} {ok : Value → Bool} {w w' : World} {b r n cnt : Nat} {m : Int → Option Value} {done : List Int}
theorem IRange.fr {S : List Nat} (h : IRange P k q ok w b r m n done cnt) (hf : Fr S w w') (hb : b ∉ S) (hr : r ∉ S) : IRange P k q ok w' b r m n done cnt := by
 obtain ⟨D, left, h1, h2⟩ := h
 refine ⟨D, left, ?_, h2⟩
 have l1 := h1.owns.lt
 have l2 := h1.lt
 obtain ⟨es, clock, since, seen, c0, hb', F, hs, hD, hr', rest⟩ := h1
 exact ⟨es, clock, since, seen, c0, (hf.keep b l1 hb).trans hb', F, hs, hD, (hf.keep r l2 hr).trans hr', rest⟩
theorem IRange.left_eq (h : IRange P k q ok w b r m n done cnt) : w.rangeLeft b r = cnt := by
 obtain ⟨D, left, h1, _⟩ := h; exact h1.left_eq
variable {ops : Array Oper} {rest : List Oper} {o : Oper} {a : Act} {Q : Exit → Act → World → Prop}
theorem wpList_irange (hg : o.guard = none) (mo : Operand) (hop : o.op = Op.range t mo) (h : IMap P k q ok w b m n) (hk : P.underlying k = some (.int q)) (ht : P.underlying t = some (.map k e))
    (hm : a.eval mo = .map (some b)) (hK : ∀ w' cnt, IRange P k q ok w' b w.heap.size m n [] cnt → cnt ≤ n → Fr [] w w' → w'.heap.size = w.heap.size + 1 → wpList P ops Q rest (a.put o.dst (.pointer (some ⟨w.heap.size, 0, none⟩))) w') :
    wpList P ops Q (o :: rest) a w := by
 obtain ⟨D, h1, h2, h3, h4⟩ := h
 refine wpList_range_own w hg mo t hop k e (int_keyed hk) ht (tokR ok) b n D hm h1 fun w' hr hgw hs => ?_
 refine hK w' _ ⟨D, Maps.has D, hr, h2, h3, h4, .nil, (fun x hx => by cases hx), fun x hx => ?_⟩ (by rw [h3]; exact Nat.le_refl _) ((Fr.refl _ _).grown hgw (fun k e => by cases e)) hs
 rw [(h4 x hx).1]; simp
theorem wpList_inext (hg : o.guard = none) (it : Operand) (hop : o.op = Op.next it false) (hk : P.underlying k = some (.int q)) (hit : a.eval it = .pointer (some ⟨r, 0, none⟩)) (h : IRange P k q ok w b r m n done cnt)
    (hDone : (∀ x, (Lit.int q x).wf = true → (m x).isSome = true → x ∈ done) → wpList P ops Q rest (a.put o.dst (.tuple #[.bool false])) w)
    (hMore : ∀ (x : Int) (c : Value) (w' : World) (cnt' : Nat), (Lit.int q x).wf = true → m x = some c → x ∉ done → IRange P k q ok w' b r m n (done ++ [x]) cnt' → cnt' < cnt → Fr [r] w w' → w'.heap.size = w.heap.size →
      (Instr.entry (.pointer (some ⟨r, 0, none⟩))).run P w' = .ok (.tuple #[.int q x, c]) w' → wpList P ops Q rest (a.put o.dst (.tuple #[.bool true, .int q x, c])) w') :
    wpList P ops Q (o :: rest) a w := by
 obtain ⟨D, left, h1, h2, h3, h4, h5, h6, h7⟩ := h
 refine wpList_next_ranges w hg it hop k (int_keyed hk) (tokR ok) (Value.int q) (fun (c : Value) => c) (fun key kl hkey => by obtain ⟨x, rfl, _⟩ := Maps.keyOf_int_inv hk hkey; exact ⟨x, rfl⟩) (fun v y _ => ⟨v, rfl⟩) b r n D left cnt hit h1
   (fun _ hl => hDone fun x hx hs => Classical.byContradiction fun hn => by have := (h7 x hx).2 ⟨hs, hn⟩; rw [hl] at this; cases this) ?_
 intro x c kl y w' cnt' hkey hlk hv hat hrg hlt hgr hsz hen
 obtain ⟨x', ex, rfl, hw⟩ := Maps.keyOf_int_inv hk hkey
 cases ex
 obtain ⟨hsome, hnd⟩ := (h7 x hw).1 hlk
 obtain ⟨u, hu⟩ := Option.isSome_iff_exists.1 hsome
 have hcu : c = u := by {
 have e1 := hat (.held undef)
 rw [((h4 x hw).2 u hu).2] at e1
 unfold tokR at hv
 split at hv
 · cases hv; simpa using e1.symm
 · cases hv
 }
 subst hcu
 refine hMore x c w' cnt' hw hu hnd ⟨D, _, hrg, h2, h3, h4, ?_, fun z hz => ?_, fun z hz => ?_⟩ hlt ((Fr.refl _ _).grown hgr (fun k e => .inl (by simp at e; simp [e]))) hsz hen
 · exact List.nodup_append.2 ⟨h5, by simp, by rintro a ha b hb rfl; simp at hb; subst hb; exact hnd ha⟩
 {
 rcases List.mem_append.1 hz with hz | hz
 · exact h6 z hz
 · simp at hz; subst hz; exact ⟨hw, hsome⟩
 }
 {
 have e : (Lit.int q z).sameKey (.int q x) = decide (z = x) := by simp [Lit.sameKey]
 show (left (.int q z) && !(Lit.int q z).sameKey (.int q x)) = true ↔ _
 rw [e, Bool.and_eq_true, h7 z hz]
 simp only [List.mem_append, List.mem_singleton, not_or, Bool.not_eq_true', decide_eq_false_iff_not, and_assoc]
 }
end
end Go.Proofs.YtgmnemndjjmgkaaGreat

/- slices.Sort at int, of a row of one's own. -/
namespace Go.Proofs.YtgmnemndjjmgkaaGreat
open Go.RowKit Go.Sort
set_option maxRecDepth 10000
set_option maxHeartbeats 800000
end Go.Proofs.YtgmnemndjjmgkaaGreat

/- forest: Edges. -/
namespace Go.Proofs.YtgmnemndjjmgkaaGreat
open Go.RowKit Classical
set_option maxRecDepth 10000
set_option maxHeartbeats 1600000
section
variable {w w' : World} {pf pl g ph mb S V n : Nat} {G : EMap} {key : Nat → Int}
end
end Go.Proofs.YtgmnemndjjmgkaaGreat

/- forest: New. -/
namespace Go.Proofs.YtgmnemndjjmgkaaGreat
open Go.RowKit Classical
set_option maxRecDepth 10000
set_option maxHeartbeats 1600000
def vkey (S v : Nat) : Nat → Int := fun u => if S ≤ u ∧ u < S + v then 9223372036854775807 else 0
theorem vkey_zero (S : Nat) : vkey S 0 = fun _ => 0 := by funext u; unfold vkey; rw [if_neg (by omega)]
theorem vkey_succ {S V v : Nat} (h : v < V) : setKey (S + V) (vkey S v) ((S : Int) + v) 9223372036854775807 = vkey S (v + 1) := by
 funext u
 unfold setKey vkey
 by_cases hu : u = ((S : Int) + v).toNat
 · rw [if_pos ⟨by simp [inV]; omega, hu⟩, if_pos (by omega)]
 {
 rw [if_neg (fun h => hu h.2)]
 by_cases h2 : S ≤ u ∧ u < S + v
 · rw [if_pos h2, if_pos (by omega)]
 · rw [if_neg h2, if_neg (by omega)]
 }
theorem fnew_w (V S : Nat) (w : World) (hV : V ≤ 4096) (hS : S ≤ 16384) :
    Calls Tryz.prog 123 #[.int .i64 V, .int .i64 S] w fun r w' => ∃ pf, r = .returned (.tuple #[fptr pf, .int .i64 0]) ∧ ∃ L, FAt w' pf S V (fun _ => none) L ∧ Fr [] w w' ∧ ∀ q ∈ L, w.heap.size ≤ q := by
 have d1 : decide ((V : Int) < 0) = false := decide_eq_false (by omega)
 have d2 : decide ((V : Int) > 4096) = false := decide_eq_false (by omega)
 have d3 : decide ((S : Int) < 0) = false := decide_eq_false (by omega)
 have d4 : decide ((S : Int) > 16384) = false := decide_eq_false (by omega)
 have d2' : ¬ 4096 < V := by omega
 have d4' : ¬ 16384 < S := by omega
 have hw1 : IntKind.i64.wrap ((S : Int) + V) = ((S + V : Nat) : Int) := by rw [show (S : Int) + V = ((S + V : Nat) : Int) by omega]; exact IntWalk.i64_in _ (by omega)
 have hmk : ∀ W : World, (Instr.makeMap 123 none).run Tryz.prog W = .ok (.map (some W.heap.size)) (W.alloc (.map #[] 0)) := fun W => by kernel_rfl
 have HL := Lib.hid (new_w (S + V) w (by omega))
 have HHn := Lib.hid (fun (w' : World) => hnew_w S w' (by omega))
 go_enter Tryz.func123, Tryz.ntmps123
 go_wp2_with (go_at_call 166; refine HL.out.mono ?_; rintro _ w1 ⟨pl, g, rfl, hL1, hF1, hp1, hg1⟩)
 have H1 := Lib.hid (And.intro hL1 (And.intro hF1 (And.intro hp1 hg1)))
 clear hL1 hF1 hp1 hg1 HL
 go_loopw [35] (fun x wr => ∃ v : Nat, v ≤ V ∧ x = .int .i64 v ∧ Hid (LM wr pl g (S + V) (fun _ _ => False) (vkey S v) ∧ Fr [] w wr)) (fun x _ => V - (intOf x).toNat)
 case atStart => exact ⟨0, Nat.zero_le _, rfl, Lib.hid ⟨by rw [vkey_zero]; exact H1.out.1, H1.out.2.1⟩⟩
 case round =>
  obtain ⟨v, hv, rfl, HR⟩ := hrel
  by_cases hlt : v < V
  {
  have hlt' : (v : Int) < V := by omega
  have SW := set_w HR.out.1 ((S : Int) + v) 9223372036854775807
  rw [vkey_succ hlt] at SW
  have HS := Lib.hid SW; clear SW
  have hw2 : IntKind.i64.wrap ((S : Int) + v) = (S : Int) + v := IntWalk.i64_in _ (by omega)
  have hw3 : IntKind.i64.wrap ((v : Int) + 1) = ((v + 1 : Nat) : Int) := by rw [show (v : Int) + 1 = ((v + 1 : Nat) : Int) by omega]; exact IntWalk.i64_in _ (by omega)
  go_wp2_with (go_at_call 167; refine HS.out.mono ?_; rintro _ w2 ⟨rfl, hL2, hF2⟩)
  go_roundw
  case rel => exact ⟨v + 1, by omega, rfl, Lib.hid ⟨hL2, HR.out.2.trans hF2 (fun q hq => .inr (by simp at hq; subst hq; exact H1.out.2.2.2))⟩⟩
  case measure => simp [intOf]; omega
  }
  {
  obtain rfl : v = V := by omega
  have HN := Lib.hid (HHn.out wr)
  go_wp2_with (go_at_call 165; refine HN.out.mono ?_; rintro _ w3 ⟨ph, rfl, l, hH3, hF3, hN3⟩)
  go_ret2
  have hn : ∀ t, ¬ isTree (fun _ => none) t := by rintro t ⟨_, _, _, e, _⟩; cases e
  have hc0 : cntT S (isTree fun _ => none) = 0 := by rw [cntT_congr (T' := fun _ => False) (fun t => ⟨hn t, False.elim⟩), cntT_none]
  have hb := Blk.new (w3.alloc (.map #[] 0)) [.int .i64 v, .int .i64 S, fptr pl, hptr ph, .map (some w3.heap.size), .int .i64 0] 125
  have hm := IMap.made w3 Tryz.prog 3 .i64 okA
  have hf : Fr [] wr ((w3.alloc (.map #[] 0)).alloc (.cells [.int .i64 v, .int .i64 S, fptr pl, hptr ph, .map (some w3.heap.size), .int .i64 0].toArray 125)) := (hF3.alloc _).alloc _
  have hl := (LG.lts HR.out.1)
  have hsz := hF3.size
  have hsr := HR.out.2.size
  have hw1s := H1.out.2.1.size
  have hf2 : Fr [] w3 ((w3.alloc (.map #[] 0)).alloc (.cells [.int .i64 v, .int .i64 S, fptr pl, hptr ph, .map (some w3.heap.size), .int .i64 0].toArray 125)) := ((Fr.refl _ _).alloc _).alloc _
  refine ⟨w3.heap.size + 1, rfl, _, ⟨pl, g, ph, w3.heap.size, l, vkey S v, 0, ⟨?_, ?_, ?_, GW.no S v, ⟨fun _ _ _ _ h => (by cases h), fun u hu => ?_⟩, ?_, hS, hV, ?_, ?_, ?_, ?_, ?_⟩, ?_, ?_, rfl⟩, HR.out.2.trans hf (by simp), ?_⟩
  · rw [hc0]; simpa using hb
  · rw [te_none]; exact LG.fr HR.out.1 hf (by simp) (by simp)
  {
  have e : mapG (fun _ => none) (isTree fun _ => none) = fun _ => none := by funext k; unfold mapG; split <;> rfl
  rw [e]
  exact (hm.same (Below.heap_alloc _ _ _ (by simp)))
  }
  · unfold vkey; rw [if_pos (by omega)]
  · rw [cntT_congr (T' := fun _ => False) (fun t => by simp), cntT_none]
  · have := hl.1; omega
  · have := hl.2.1; omega
  · omega
  · have := hl.1; omega
  · have := hl.2.1; omega
  · exact hH3.fr hf2 (by simp)
  {
  intro b hb
  have h1 := hN3 b hb
  have h2 := hH3.lt b hb
  have := hl.1
  have := hl.2.1
  omega
  }
  {
  intro q hq
  simp only [List.mem_cons] at hq
  have h1 := H1.out.2.2
  rcases hq with rfl | rfl | rfl | rfl | hq
  · omega
  · exact h1.1
  · exact h1.2
  · omega
  · have := hN3 q hq; omega
  }
  }
end Go.Proofs.YtgmnemndjjmgkaaGreat

namespace Go.Proofs.YtgmnemndjjmgkaaGreat
open Go.RowKit Classical
set_option maxRecDepth 10000
set_option maxHeartbeats 800000
structure FO (w wr : World) (pf S V : Nat) (G : EMap) (L : List Nat) : Prop where
  f : FAt wr pf S V G L
  fr : Fr [] w wr
  new : ∀ q ∈ L, w.heap.size ≤ q
def FM (w wr w' : World) (pf S V : Nat) (G : EMap) (L : List Nat) : Prop := ∃ L', FO w w' pf S V G L' ∧ Fr L wr w' ∧ ∀ q ∈ L', q ∈ L ∨ wr.heap.size ≤ q
section
variable {w wr w' : World} {pf S V : Nat} {G G' : EMap} {L L' : List Nat}
theorem FO.next (h : FO w wr pf S V G L) (h1 : FAt w' pf S V G' L') (h2 : Fr L wr w') (h3 : ∀ q ∈ L', q ∈ L ∨ wr.heap.size ≤ q) : FM w wr w' pf S V G' L :=
  ⟨L', ⟨h1, h.fr.trans h2 (fun q hq => .inr (h.new q hq)), fun q hq => (h3 q hq).elim (h.new q) (fun e => Nat.le_trans h.fr.size e)⟩, h2, h3⟩
theorem FO.keep (h : FO w wr pf S V G L) {X : List Nat} (hf : Fr X wr w') (hx : ∀ b ∈ L, b ∉ X) (hw : ∀ b ∈ X, w.heap.size ≤ b) : FO w w' pf S V G L :=
  ⟨h.f.fr hf hx, h.fr.trans hf (fun q hq => .inr (hw q hq)), h.new⟩
theorem FO.keep0 (h : FO w wr pf S V G L) (hf : Fr [] wr w') : FO w w' pf S V G L := h.keep hf (by simp) (by simp)
theorem FO.self (h : FO w wr pf S V G L) (h2 : Fr [] wr w') : FM w wr w' pf S V G L := ⟨L, h.keep0 h2, h2.mono (by simp), fun _ hq => .inl hq⟩
theorem fo_add (h : FO w wr pf S V G L) (s a b x : Int) (hx : -9223372036854775808 ≤ x ∧ x ≤ 9223372036854775807) :
    Calls Tryz.prog 114 #[fptr pf, .int .i64 s, .int .i64 a, .int .i64 b, .int .i64 x] wr fun e w' => e = .returned (.int .i64 (addCode S V G s a b)) ∧ FM w wr w' pf S V (addG S V G s a b x) L := by
 by_cases h1 : inV S s = true ∧ inV V a = true ∧ inV V b = true
 {
 obtain ⟨s, rfl, hs⟩ := inV_nat h1.1
 obtain ⟨a, rfl, ha⟩ := inV_nat h1.2.1
 obtain ⟨b, rfl, hb⟩ := inV_nat h1.2.2
 by_cases hab : a = b
 {
 have e1 : addCode S V G s a b = 9 := by unfold addCode; rw [if_pos h1, if_pos (by omega)]
 have e2 : addG S V G s a b x = G := by unfold addG; rw [e1, if_neg (by omega)]
 rw [e1, e2]
 obtain ⟨pl, g, ph, mb, l, key, n, hB, _⟩ := id h.f
 refine (fadd_no hB hs ha hb x (.inl hab)).mono ?_
 rintro e w' ⟨rfl, hf⟩
 exact ⟨by rw [if_pos hab], h.self hf⟩
 }
 {
 cases hg : G s with
 | some e => {
 have e1 : addCode S V G s a b = 6 := by unfold addCode; rw [if_pos h1, if_neg (by omega), Int.toNat_natCast, hg]; rfl
 have e2 : addG S V G s a b x = G := by unfold addG; rw [e1, if_neg (by omega)]
 rw [e1, e2]
 obtain ⟨pl, g, ph, mb, l, key, n, hB, _⟩ := id h.f
 refine (fadd_no hB hs ha hb x (.inr ⟨hab, by rw [hg]; rfl⟩)).mono ?_
 rintro e w' ⟨rfl, hf⟩
 exact ⟨by rw [if_neg hab], h.self hf⟩
 }
 | none => {
 have e1 : addCode S V G s a b = 0 := by unfold addCode; rw [if_pos h1, if_neg (by omega), Int.toNat_natCast, hg]; rfl
 have e2 : addG S V G s a b x = updG G s (some (a, b, x)) := by unfold addG; rw [e1, if_pos rfl]; simp
 rw [e1, e2]
 refine (fadd_yes h.f hs ha hb hab hg x hx).mono ?_
 rintro e w' ⟨rfl, L', h2, h3, h4⟩
 exact ⟨rfl, h.next h2 h3 h4⟩
 }
 }
 }
 {
 have e1 : addCode S V G s a b = 3 := by unfold addCode; rw [if_neg h1]
 have e2 : addG S V G s a b x = G := by unfold addG; rw [e1, if_neg (by omega)]
 rw [e1, e2]
 obtain ⟨pl, g, ph, mb, l, key, n, hB, _⟩ := id h.f
 refine (fadd_bad hB s a b x h1).mono ?_
 rintro e w' ⟨rfl, rfl⟩
 exact ⟨rfl, h.self (Fr.refl _ _)⟩
 }
theorem fo_exp (h : FO w wr pf S V G L) : Calls Tryz.prog 45 #[fptr pf] wr fun e w' => e = .returned (.tuple #[.int .i64 ((fstG G).getD 0 : Nat), .bool (fstG G).isSome]) ∧ FM w wr w' pf S V (popG G) L := by
 refine (fexp_w h.f).mono ?_
 rintro e w' ⟨rfl, L', h2, h3, h4⟩
 exact ⟨rfl, h.next h2 h3 h4⟩
theorem fo_ask {pl g ph mb n : Nat} {l : List Nat} {key : Nat → Int} (h : FO w wr pf S V G (pf :: pl :: g :: mb :: l)) (hH : HeapAt wr ph S (qOf G) n l) (hD : ∀ b ∈ l, b ≠ pf ∧ b ≠ pl ∧ b ≠ g ∧ b ≠ mb) (hB : FB w' pf pl g ph mb S V G (isTree G) key n) (hF : Fr [g] wr w') : FM w wr w' pf S V G (pf :: pl :: g :: mb :: l) :=
  h.next ⟨pl, g, ph, mb, l, key, n, hB, hH.fr hF (fun b hb hm => by simp at hm; exact (hD b hb).2.2.1 hm), hD, rfl⟩ (hF.mono (fun q hq => .inl (by simp at hq; simp [hq]))) (fun q hq => .inl hq)
theorem fo_conn (h : FO w wr pf S V G L) (a b : Int) : Calls Tryz.prog 40 #[fptr pf, .int .i64 a, .int .i64 b] wr fun e w' => e = .returned (.bool (connG V G a b)) ∧ FM w wr w' pf S V G L := by
 obtain ⟨pl, g, ph, mb, l, key, n, hB, hH, hD, rfl⟩ := id h.f
 refine (fconn_w hB a b).mono ?_
 rintro e w' ⟨rfl, h2, h3⟩
 exact ⟨rfl, fo_ask h hH hD h2 h3⟩
theorem fo_size (h : FO w wr pf S V G L) (a : Int) : Calls Tryz.prog 59 #[fptr pf, .int .i64 a] wr fun e w' => e = .returned (.int .i64 (sizeG V G a)) ∧ FM w wr w' pf S V G L := by
 obtain ⟨pl, g, ph, mb, l, key, n, hB, hH, hD, rfl⟩ := id h.f
 refine (fsize_w hB a).mono ?_
 rintro e w' ⟨rfl, h2, h3⟩
 exact ⟨rfl, fo_ask h hH hD h2 h3⟩
theorem fo_until (h : FO w wr pf S V G L) (a b : Int) : Calls Tryz.prog 39 #[fptr pf, .int .i64 a, .int .i64 b] wr fun e w' => e = .returned (.tuple #[.int .i64 (untilV V G a b), .bool (untilB V G a b)]) ∧ FM w wr w' pf S V G L := by
 obtain ⟨pl, g, ph, mb, l, key, n, hB, hH, hD, rfl⟩ := id h.f
 refine (funtil_w hB a b).mono ?_
 rintro e w' ⟨rfl, h2, h3⟩
 exact ⟨rfl, fo_ask h hH hD h2 h3⟩
noncomputable def compG (V : Nat) (G : EMap) : Nat := cntT V (Lead G fun _ => True)
theorem comp_tree (hG : GW S V G) : compG V G + cntT S (isTree G) = V := by
 have h1 := lead_tree hG
 have h2 : compG V G = cntT V (Lead G (isTree G)) := by {
 unfold compG
 exact cntT_congr fun v => by unfold Lead; simp only [cx_tree hG]
 }
 omega
theorem fo_count (h : FO w wr pf S V G L) : Calls Tryz.prog 49 #[fptr pf] wr fun e w' => e = .returned (.int .i64 (compG V G)) ∧ FO w w' pf S V G L ∧ Fr [] wr w' := by
 obtain ⟨pl, g, ph, mb, l, key, n, hB, _⟩ := id h.f
 have e1 := comp_tree hB.gw
 refine (fcount_w hB).mono ?_
 rintro e w' ⟨rfl, h3⟩
 refine ⟨?_, h.keep0 h3, h3⟩
 rw [show (V : Int) - cntT S (isTree G) = compG V G by omega]
end
end Go.Proofs.YtgmnemndjjmgkaaGreat
