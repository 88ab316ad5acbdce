/- A window: its contracts by what it shows, for the laws. -/
import Derived.Test.YtgmnemndjjmgkaaGreatB14
import Derived.Test.YtgmnemndjjmgkaaGreatB11
import Derived.Test.YtgmnemndjjmgkaaGreatB1
import Derived.Test.YtgmnemndjjmgkaaGreatB13
import Derived.Test.YtgmnemndjjmgkaaGreatB9
import Derived.Test.YtgmnemndjjmgkaaGreatB5
import Derived.Deep.RegionHeld3
import Derived.Shelf.SlGeneric
import Derived.Ground.SlgnProg
import Derived.Shelf.SlicesE.Clone
import Derived.Ground.SlmcProg
import Derived.Shelf.SlMaps.Clone
import Derived.StillTailTactics
import Derived.Test.YtgmnemndjjmgkaaGreatB12
set_option linter.unusedSimpArgs false
set_option linter.unusedVariables false
/- A window: contracts over the model; Count. -/
namespace Go.Proofs.YtgmnemndjjmgkaaGreat
open Go.RowKit
set_option maxRecDepth 10000
set_option maxHeartbeats 800000
section
variable {w w' : World} {pw : Nat} {W : Wm} {K : List Nat}
theorem WStep.of0 (h : WinAt w pw W K) (hf : Fr [] w w') : WStep w w' pw W K := ⟨K, h.fr0 hf, hf.mono (by simp), fun _ h => .inl h⟩
theorem wat_mv {pc ps px pf nq : Nat} {Ks lx Lf : List Nat} (hok : W.Ok) (h : WMv w w' pw pc ps px pf (W.wp nq) Ks lx Lf) : WStep w w' pw W (winK pw pc Ks lx Lf) := by
 obtain ⟨Lf', cl', hB, hF, hn⟩ := h
 refine ⟨_, ⟨hok, pc, ps, px, pf, nq, Ks, lx, Lf', cl', hB, rfl⟩, hF.mono (fun b hb => .inl (winK_fo hb)), fun q hm => ?_⟩
 simp only [winK, List.mem_cons, List.mem_append] at hm ⊢
 rcases hm with e | e | e | e | e
 · simp [e]
 · simp [e]
 · simp [e]
 · simp [e]
 · exact (hn q e).imp (fun e => by simp [e]) id
theorem wat_now (h : WinAt w pw W K) : Calls Tryz.prog 16 #[wptr pw] w fun e w' => e = .returned (.int .i64 W.now) ∧ w' = w := by
 obtain ⟨hok, pc, ps, px, pf, nq, Ks, lx, Lf, cl, hB, rfl⟩ := h
 exact wnow_w hB
theorem wat_until (h : WinAt w pw W K) (u v : Nat) (hu : u < 18446744073709551616) (hv : v < 18446744073709551616) :
    Calls Tryz.prog 14 #[wptr pw, .int .u64 u, .int .u64 v] w fun e w' => e = .returned (.tuple #[.int .i64 (wuntV (W.wp 0) u v), .bool (wuntB (W.wp 0) u v), .int .i64 (endsC W.s u v)]) ∧ WStep w w' pw W K := by
 obtain ⟨hok, pc, ps, px, pf, nq, Ks, lx, Lf, cl, hB, rfl⟩ := h
 exact (wuntil_w hB u v hu hv).mono fun _ _ h => ⟨h.1, wat_mv hok h.2⟩
noncomputable def compsW (W : Wm) : Int := (compG W.V W.G : Int) - (W.V - W.s.M.L.length)
theorem wat_count (h : WinAt w pw W K) : Calls Tryz.prog 18 #[wptr pw] w fun e w' => e = .returned (.tuple #[.int .i64 W.s.L.length, .int .i64 W.s.M.L.length, .int .i64 (compsW W)]) ∧ Fr [] w w' := by
 obtain ⟨hok, pc, ps, px, pf, nq, Ks, lx, Lf, cl, hB, rfl⟩ := h
 have hvl : W.s.M.L.length ≤ W.V ∧ W.V ≤ 4096 := by {
 have h1 := hok.ok.md.cnt; have h2 := hok.ok.md.ar.hb; have h3 := hok.ok.ms; have h4 := hok.hV; have h5 := hok.ok.leV
 have h6 : W.s.M.ar.slots = W.s.M.slots := rfl
 have h7 : W.s.M.ar.begun = W.s.M.given := rfl
 omega
 }
 have hcl : compG W.V W.G ≤ W.V := by unfold compG cntT; exact Nat.le_trans (List.length_filter_le _ _) (by simp)
 have HV := Lib.hid (wvalid_w hB)
 have HSV := Lib.hid (st_verts hB.st)
 have HSL := Lib.hid (fun (w' : World) (hf : Fr [] w w') => st_len (hB.st.fr0 hf))
 have HFC := Lib.hid (fun (w' : World) (hf : Fr [] w w') => fa_count (hB.fo.fr hf (by simp)))
 have c2 := hB.hd.cell 2; have c5 := hB.hd.cell 5; have c7 := hB.hd.cell 7
 simp only [List.getElem?_cons_zero, List.getElem?_cons_succ] at c2 c5 c7
 have HC := Lib.hid (fun (w' : World) (hf : Fr [] w w') => And.intro (hf.cell c5 (by simp)) (hf.cell c7 (by simp)))
 clear hB
 unfold compsW
 have e1 : (W.wp nq).s = W.s := rfl
 have e2 : (W.wp nq).V = W.V := rfl
 have e3 : (W.wp nq).G = W.G := rfl
 rw [e1] at HSV HSL
 rw [e2, e3] at HFC
 rw [e2] at c2
 clear e1 e2 e3
 generalize compG W.V W.G = cg at *
 generalize W.s.M.L.length = vl at *
 generalize W.s.L.length = el at *
 generalize W.V = V at *
 have hwr : IntKind.i64.wrap ((cg : Int) - (V - vl)) = (cg : Int) - (V - vl) := by simp [IntKind.wrap, IntKind.bits, IntKind.signed]; omega
 go_enter Tryz.func18, Tryz.ntmps18
 go_wp2_with fail
 refine HV.out.mono ?_
 rintro _ w ⟨rfl, rfl⟩
 go_wp2_with fail
 refine HSV.out.mono ?_
 rintro _ w ⟨rfl, rfl⟩
 go_wp2_with fail
 go_region_held3 (fun w' => w'.cell? ⟨pw, 5, none⟩ = some (sptr ps) ∧ w'.cell? ⟨pw, 7, none⟩ = some (fptr pf))
   (first
     | with_reducible exact HC.out _ HF2.out
     | with_reducible exact HC.out _ (Fr.refl [] w).drew)
   (first
     | (go_at_call 48; with_reducible refine Calls.mono (HSL.out _ ((Fr.refl [] w).drew)) ?_; rintro r w2 ⟨rfl, rfl⟩)
     | (go_at_call 48; with_reducible refine Calls.mono (HSL.out _ HF2.out) ?_; rintro r w3 ⟨rfl, rfl⟩)
     | (go_at_call 49; with_reducible refine Calls.mono (HFC.out _ ((Fr.refl [] w).drew)) ?_; rintro r w2 ⟨rfl, hF2⟩; have HF2 := Lib.hid (Fr.trans' (Fr.refl [] w).drew hF2)))
 all_goals
  go_wp2
  go_ret3
  exact ⟨rfl, HF2.out⟩
end
end Go.Proofs.YtgmnemndjjmgkaaGreat
namespace Go.Proofs.YtgmnemndjjmgkaaGreat
open Go.RowKit Classical
set_option maxRecDepth 10000
set_option maxHeartbeats 800000
theorem Cx.inv {G : EMap} {U : Nat → Prop} (C : Nat → Prop) (h : ∀ s a b x, U s → G s = some (a, b, x) → (C a ↔ C b)) {p q : Nat} (hc : Cx G U p q) : C p ↔ C q := by
 induction hc with
 | refl => exact Iff.rfl
 | step s x _ h1 h2 ih => {
 rcases h2 with h2 | h2
 · exact ih.trans (h _ _ _ _ h1 h2)
 · exact ih.trans (h _ _ _ _ h1 h2).symm
 }
def exG : EMap := fun t => if t = 0 then some (0, 1, 10) else if t = 1 then some (1, 2, 14) else if t = 2 then some (0, 2, 16) else none
theorem exG_cases {s a b : Nat} {x : Int} (h : exG s = some (a, b, x)) : (s = 0 ∧ a = 0 ∧ b = 1 ∧ x = 10) ∨ (s = 1 ∧ a = 1 ∧ b = 2 ∧ x = 14) ∨ (s = 2 ∧ a = 0 ∧ b = 2 ∧ x = 16) := by
 unfold exG at h
 by_cases h0 : s = 0
 · rw [if_pos h0] at h; simp at h; omega
 {
 rw [if_neg h0] at h
 by_cases h1 : s = 1
 · rw [if_pos h1] at h; simp at h; omega
 {
 rw [if_neg h1] at h
 by_cases h2 : s = 2
 · rw [if_pos h2] at h; simp at h; omega
 · rw [if_neg h2] at h; cases h
 }
 }
theorem ex0 : exG 0 = some (0, 1, 10) := rfl
theorem ex1 : exG 1 = some (1, 2, 14) := rfl
theorem ex2 : exG 2 = some (0, 2, 16) := rfl
theorem exT0 : ¬ isTree exG 0 := by
 rintro ⟨a, b, x, h, hn⟩
 rw [ex0] at h; simp at h; obtain ⟨rfl, rfl, rfl⟩ := h
 refine hn ((Cx.edge (s := 2) ⟨0, 2, 16, ex2, .inl (by omega)⟩ ex2).trans (Cx.edge' (s := 1) ⟨1, 2, 14, ex1, .inl (by omega)⟩ ex1))
theorem exT1 : isTree exG 1 := by
 refine ⟨1, 2, 14, ex1, fun hc => ?_⟩
 have := Cx.inv (fun v => v = 0 ∨ v = 2) (fun s a b x hU hg => by
   obtain ⟨a', b', y, h1, h2⟩ := hU
   have := exG_cases hg
   have := exG_cases h1
   unfold bef at h2
   omega) hc
 omega
theorem exT2 : isTree exG 2 := by
 refine ⟨0, 2, 16, ex2, fun hc => ?_⟩
 have := Cx.inv (fun v => v = 0) (fun s a b x hU hg => by
   obtain ⟨a', b', y, h1, h2⟩ := hU
   have := exG_cases hg
   have := exG_cases h1
   unfold bef at h2
   omega) hc
 omega
theorem exT3 {s : Nat} (h : 3 ≤ s) : ¬ isTree exG s := by
 rintro ⟨a, b, x, h1, _⟩
 have := exG_cases h1
 omega
theorem exGW : GW 5 4 exG := by
 refine ⟨fun s e h => ?_, fun s a b x h => ?_, fun s a b x h => ?_⟩
 {
 obtain ⟨a, b, x⟩ := e
 have := exG_cases h; omega
 }
 · have := exG_cases h; omega
 · have := exG_cases h; omega
theorem exCount : compG 4 exG = 2 := by
 have h := comp_tree exGW
 have h2 : cntT 5 (isTree exG) = 2 := by {
 unfold cntT
 rw [show List.range 5 = [0, 1, 2, 3, 4] from rfl]
 simp [exT0, exT1, exT2, exT3 (s := 3) (by omega), exT3 (s := 4) (by omega)]
 }
 omega
theorem ex02 : Cx exG (fun _ => True) 0 2 := Cx.edge (s := 2) trivial ex2
def exS1 : Sm := (Sm.new 4 3 0).ins 1 2 5 0 10
def exS2 : Sm := exS1.ins 2 3 7 4 14
def exS3 : Sm := exS2.ins 1 3 9 6 16
def exQ1 : Nat → Option Int := fun j => if j = 0 then some 10 else none
def exQ2 : Nat → Option Int := fun j => if j = 1 then some 14 else exQ1 j
def exQ3 : Nat → Option Int := fun j => if j = 2 then some 16 else exQ2 j
def exG1 : EMap := fun j => if j = 0 then some (0, 1, 10) else none
def exG2 : EMap := fun j => if j = 1 then some (1, 2, 14) else exG1 j
def exG3 : EMap := fun j => if j = 2 then some (0, 2, 16) else exG2 j
def exW (now : Int) (s : Sm) (Q : Nat → Option Int) (G : EMap) : Wm := { m := 10, E := 3, V := 4, D := 0, now := now, s := s, Q := Q, G := G, gone := 0 }
theorem exG3_eq : exG3 = exG := by
 funext t
 unfold exG3 exG2 exG1 exG
 by_cases h2 : t = 2
 · subst h2; rfl
 {
 by_cases h1 : t = 1
 · subst h1; rfl
 {
 by_cases h0 : t = 0
 · subst h0; rfl
 · simp [h0, h1, h2]
 }
 }
theorem ex_put (now t x : Int) (s : Sm) (Q : Nat → Option Int) (G : EMap) (u v : Nat) (wt : Int) (a b k : Nat) (hk : s.slot = k) (hx : t + 10 = x) :
    ((exW now s Q G).tick t [] Q).put u v wt a b = exW t (s.ins u v wt t x) (fun j => if j = k then some x else Q j) (fun j => if j = k then some (a, b, x) else G j) := by
 subst hk hx
 simp [exW, Wm.tick, Wm.put, Sm.rems]
theorem ex_none {Q : Nat → Option Int} {to : Int} (h : ∀ i x, Q i = some x → to < x) {ds : List Nat} {Q' : Nat → Option Int} (hm : Mins to Q ds Q') : ds = [] ∧ Q' = Q := hm.uniq (.done _ h)
theorem exQ1_lt : ∀ i x, exQ1 i = some x → (4 : Int) < x := by
 intro i x h; unfold exQ1 at h; split at h <;> simp at h; omega
theorem exQ2_lt : ∀ i x, exQ2 i = some x → (6 : Int) < x := by
 intro i x h; unfold exQ2 exQ1 at h; split at h
 · simp at h; omega
 · split at h <;> simp at h; omega
theorem exQ3_cases {i : Nat} {x : Int} (h : exQ3 i = some x) : (i = 2 ∧ x = 16) ∨ (i = 1 ∧ x = 14) ∨ (i = 0 ∧ x = 10) := by
 unfold exQ3 exQ2 exQ1 at h
 split at h
 · simp at h; omega
 {
 split at h
 · simp at h; omega
 · split at h <;> simp at h; omega
 }
theorem exQ3_due {ds : List Nat} {Q' : Nat → Option Int} (hm : Mins 10 exQ3 ds Q') : ds = [0] := by
 refine (hm.uniq (.more exQ3 0 10 [] _ rfl (by omega) (fun j y h => ?_) (.done _ fun i x h => ?_))).1
 · have := exQ3_cases h; omega
 {
 have h' : (if i = 0 then none else exQ3 i) = some x := h
 split at h'
 · cases h'
 · have := exQ3_cases h'; omega
 }
theorem ex_add {w : World} {pw : Nat} {K : List Nat} {now t x : Int} {s : Sm} {Q : Nat → Option Int} {G : EMap} (h : WinAt w pw (exW now s Q G) K) (u v : Nat) (hu : u < 16) (hv : v < 16) (hne : u ≠ v) (wt : Int) (ht0 : 0 ≤ t) (ht1 : t ≤ 1000) (ht : now ≤ t) (hl : s.last < 100) (hq : ∀ i y, Q i = some y → t < y) (hc : s.chk u v = 0) (a b k : Nat)
    (hk : s.slot = k) (hx : t + 10 = x) (ha : (s.ins u v wt t x).M.find u = some a) (hb : (s.ins u v wt t x).M.find v = some b) :
    Calls Tryz.prog 21 #[wptr pw, recA u v wt t] w fun e w' => e = .returned (.int .i64 0) ∧ WStep w w' pw (exW t (s.ins u v wt t x) (fun j => if j = k then some x else Q j) (fun j => if j = k then some (a, b, x) else G j)) K := by
 refine (wat_add h u v (by omega) (by omega) hne wt t (by omega) (by omega) (by unfold chkT; rw [if_neg (by show ¬ t < now; omega)]; unfold sumC; exact if_pos (by show t + 10 ≤ _; omega)) (by show s.last < _; omega)).mono ?_
 rintro _ w' ⟨c, rfl, ds, Q', hm, h1⟩
 obtain ⟨rfl, rfl⟩ := ex_none (Q := Q) hq hm
 rcases h1 with ⟨_, h1, _⟩ | ⟨rfl, _, a', b', ha', hb', hs⟩
 · exact absurd hc h1
 {
 subst hx
 have e1 : a' = a := Option.some.inj (ha'.symm.trans ha)
 have e2 : b' = b := Option.some.inj (hb'.symm.trans hb)
 subst e1 e2
 rw [ex_put now t _ s Q' G u v wt a' b' k hk rfl] at hs
 exact ⟨rfl, hs⟩
 }
theorem ex_untilB (G : EMap) (s : Sm) (Q : Nat → Option Int) (now r : Int) (u v a b : Nat) (ha : s.M.find u = some a) (hb : s.M.find v = some b) (hal : a < 4) (hbl : b < 4) (hne : a ≠ b) (hc : Cx G (fun _ => True) a b) (hr : IsUntil G a b r) :
    wuntB ((exW now s Q G).wp 0) u v = true ∧ wuntV ((exW now s Q G).wp 0) u v = r ∧ endsC s u v = 0 := by
 have h0 : endsC s u v = 0 := by unfold endsC; rw [if_pos (by simp [ha, hb])]
 have hi : endsI s u v = a := by unfold endsI; rw [if_pos (by simp [ha, hb]), ha]; rfl
 have hj : endsI s v u = b := by unfold endsI; rw [if_pos (by simp [ha, hb]), hb]; rfl
 have hB : untilB 4 G a b = true := by {
 have : Cx G (fun _ => True) (a : Int).toNat (b : Int).toNat := hc
 unfold untilB connG
 rw [decide_eq_true this, decide_eq_true (show (a : Int) ≠ b by omega)]
 simp [inV]; omega
 }
 refine ⟨?_, ?_, h0⟩
 {
 unfold wuntB
 rw [show ((exW now s Q G).wp 0).s = s from rfl, if_pos h0, hi, hj]
 exact hB
 }
 {
 unfold wuntV
 rw [show ((exW now s Q G).wp 0).s = s from rfl, if_pos h0, hi, hj]
 show untilV 4 G a b = r
 unfold untilV
 rw [if_pos hB]
 exact untilI_eq hr
 }
theorem exG2_cases {s a b : Nat} {x : Int} (h : exG2 s = some (a, b, x)) : (s = 0 ∧ a = 0 ∧ b = 1 ∧ x = 10) ∨ (s = 1 ∧ a = 1 ∧ b = 2 ∧ x = 14) := by
 unfold exG2 exG1 at h
 split at h
 · simp at h; omega
 · split at h <;> simp at h; omega
theorem ex_until2 : wuntB ((exW 4 exS2 exQ2 exG2).wp 0) 1 3 = true ∧ wuntV ((exW 4 exS2 exQ2 exG2).wp 0) 1 3 = 10 ∧ endsC exS2 1 3 = 0 := by
 have h0 : exG2 0 = some (0, 1, 10) := rfl
 have h1 : exG2 1 = some (1, 2, 14) := rfl
 refine ex_untilB exG2 exS2 exQ2 4 10 1 3 0 2 (by decide) (by decide) (by omega) (by omega) (by omega) ((Cx.edge (s := 0) trivial h0).trans (Cx.edge (s := 1) trivial h1)) ⟨(Cx.edge (s := 0) ⟨0, 1, 10, h0, by omega⟩ h0).trans (Cx.edge (s := 1) ⟨1, 2, 14, h1, by omega⟩ h1), fun hc => ?_⟩
 have := Cx.inv (fun v => v = 0) (fun s a b x hU hg => by
   obtain ⟨a', b', y, h1, h2⟩ := hU
   have := exG2_cases hg
   have := exG2_cases h1
   omega) hc
 omega
theorem ex_until3 : wuntB ((exW 6 exS3 exQ3 exG3).wp 0) 1 3 = true ∧ wuntV ((exW 6 exS3 exQ3 exG3).wp 0) 1 3 = 16 ∧ endsC exS3 1 3 = 0 := by
 rw [exG3_eq]
 refine ex_untilB exG exS3 exQ3 6 16 1 3 0 2 (by decide) (by decide) (by omega) (by omega) (by omega) ex02 ⟨Cx.edge (s := 2) ⟨0, 2, 16, ex2, by omega⟩ ex2, fun hc => ?_⟩
 have := Cx.inv (fun v => v = 0) (fun s a b x hU hg => by
   obtain ⟨a', b', y, h1, h2⟩ := hU
   have := exG_cases hg
   have := exG_cases h1
   omega) hc
 omega
theorem ex_comps : compsW (exW 6 exS3 exQ3 exG3) = 1 ∧ exS3.L.length = 3 ∧ exS3.M.L.length = 3 := by
 have h1 : exS3.M.L.length = 3 := by decide
 refine ⟨?_, by decide, h1⟩
 have h2 : compsW (exW 6 exS3 exQ3 exG3) = (compG 4 exG3 : Int) - (4 - exS3.M.L.length) := rfl
 rw [h2, exG3_eq, exCount, h1]
 rfl
theorem ex_no9 {ds : List Nat} {Q' : Nat → Option Int} (hm : Mins 9 exQ3 ds Q') : (exS3.rems ds).chk 4 5 = 12 := by
 obtain ⟨rfl, _⟩ := ex_none (fun i x h => by have := exQ3_cases h; omega) hm
 decide
theorem ex_no10 {ds : List Nat} {Q' : Nat → Option Int} (hm : Mins 10 exQ3 ds Q') : (exS3.rems ds).chk 4 5 = 11 := by
 rw [exQ3_due hm]
 decide
theorem ex_add_no {w : World} {pw : Nat} {K : List Nat} {t : Int} (h : WinAt w pw (exW 6 exS3 exQ3 exG3) K) (ht : 6 ≤ t) (ht1 : t ≤ 1000) (c : Nat) (hc0 : c ≠ 0) (hc : ∀ {ds Q'}, Mins t exQ3 ds Q' → (exS3.rems ds).chk 4 5 = c) :
    Calls Tryz.prog 21 #[wptr pw, recA 4 5 1 t] w fun e w' => e = .returned (.int .i64 c) ∧ WStep w w' pw (exW 6 exS3 exQ3 exG3) K := by
 refine (wat_add h 4 5 (by omega) (by omega) (by omega) 1 t (by omega) (by omega) (by unfold chkT; rw [if_neg (by show ¬ t < 6; omega)]; unfold sumC; exact if_pos (by show t + 10 ≤ _; omega)) (by show exS3.last < _; decide)).mono ?_
 rintro _ w' ⟨c', rfl, ds, Q', hm, h1⟩
 have hk := hc hm
 rcases h1 with ⟨_, _, h1, hF⟩ | ⟨_, h1, _⟩
 {
 rw [show (exW 6 exS3 exQ3 exG3).s = exS3 from rfl, hk] at h1
 rw [h1]
 exact ⟨rfl, WStep.of0 h hF⟩
 }
 {
 rw [show (exW 6 exS3 exQ3 exG3).s = exS3 from rfl, hk] at h1
 exact absurd h1 hc0
 }
end Go.Proofs.YtgmnemndjjmgkaaGreat
namespace Go.Proofs.YtgmnemndjjmgkaaGreat
open Go.RowKit
set_option maxRecDepth 10000
set_option maxHeartbeats 800000
def WW (w0 wr : World) (pw : Nat) (W : Wm) : Prop := ∃ K, WinAt wr pw W K ∧ Fr [] w0 wr ∧ ∀ q ∈ K, w0.heap.size ≤ q
section
variable {w0 wr w' : World} {pw : Nat} {W W' : Wm} {K : List Nat}
theorem WW.ok (h : WW w0 wr pw W) : W.Ok := by obtain ⟨K, h, _⟩ := h; exact h.1
theorem WW.fr (h : WW w0 wr pw W) : Fr [] w0 wr := by obtain ⟨K, _, h, _⟩ := h; exact h
theorem WW.step (h2 : Fr [] w0 wr) (h3 : ∀ q ∈ K, w0.heap.size ≤ q) (hs : WStep wr w' pw W' K) : WW w0 w' pw W' := by
 obtain ⟨K', k1, k2, k3⟩ := hs
 have := h2.size
 exact ⟨K', k1, h2.trans k2 (fun b hb => .inr (h3 b hb)), fun q hq => (k3 q hq).elim (h3 q) (fun e => by omega)⟩
theorem WW.fr0 (h : WW w0 wr pw W) (hf : Fr [] wr w') : WW w0 w' pw W := by
 obtain ⟨K, h1, h2, h3⟩ := h
 exact ⟨K, h1.fr0 hf, h2.trans' hf, h3⟩
theorem ww_new (m D : Int) (E V : Nat) (hF : Fr [] w0 wr) (h1 : 1 ≤ m) (h1' : m ≤ 9223372036854775807) (h2 : 1 ≤ E) (h3 : E ≤ 16384) (h4 : 2 ≤ V) (h5 : V ≤ 4096) (h6 : 0 ≤ D) (h7 : D ≤ 16384) :
    Calls Tryz.prog 29 #[.agg #[.int .i64 m, .int .i64 E, .int .i64 V, .int .i64 D]] wr fun e w' => ∃ pw, e = .returned (.tuple #[wptr pw, .int .i64 0]) ∧ WW w0 w' pw (Wm.new m E V D 0) :=
  (wnew_w m D E V wr h1 h1' h2 h3 h4 h5 h6 h7).mono fun _ _ ⟨pw, h, K, k1, k2, k3⟩ => ⟨pw, h, K, k1, hF.trans' k2, fun q hq => Nat.le_trans hF.size (k3 q hq)⟩
theorem ww_now (h : WW w0 wr pw W) : Calls Tryz.prog 16 #[wptr pw] wr fun e w' => e = .returned (.int .i64 W.now) ∧ w' = wr := by
 obtain ⟨K, h1, h2, h3⟩ := h; exact wat_now h1
theorem ww_until (h : WW w0 wr pw W) (u v : Nat) (hu : u < 18446744073709551616) (hv : v < 18446744073709551616) :
    Calls Tryz.prog 14 #[wptr pw, .int .u64 u, .int .u64 v] wr fun e w' => e = .returned (.tuple #[.int .i64 (wuntV (W.wp 0) u v), .bool (wuntB (W.wp 0) u v), .int .i64 (endsC W.s u v)]) ∧ WW w0 w' pw W := by
 obtain ⟨K, h1, h2, h3⟩ := h
 exact (wat_until h1 u v hu hv).mono fun _ _ k => ⟨k.1, WW.step h2 h3 k.2⟩
theorem ww_count (h : WW w0 wr pw W) : Calls Tryz.prog 18 #[wptr pw] wr fun e w' => e = .returned (.tuple #[.int .i64 W.s.L.length, .int .i64 W.s.M.L.length, .int .i64 (compsW W)]) ∧ WW w0 w' pw W := by
 have hh := h
 obtain ⟨K, h1, h2, h3⟩ := h
 exact (wat_count h1).mono fun _ _ k => ⟨k.1, hh.fr0 k.2⟩
theorem ww_tick (h : WW w0 wr pw W) (to : Int) (h1 : -9223372036854775808 ≤ to) (h2 : to ≤ 9223372036854775807) (hc : chkT W.m W.now to = 0) :
    Calls Tryz.prog 17 #[wptr pw, .int .i64 to] wr fun e w' => e = .returned (.int .i64 0) ∧ ∃ ds Q', Mins to W.Q ds Q' ∧ WW w0 w' pw (W.tick to ds Q') := by
 obtain ⟨K, k1, k2, k3⟩ := h
 exact (wat_tick k1 to h1 h2 hc).mono fun _ _ ⟨k, ds, Q', hm, hs⟩ => ⟨k, ds, Q', hm, WW.step k2 k3 hs⟩
def AddW (w0 w' : World) (pw : Nat) (W : Wm) (u v : Nat) (wt t : Int) (c : Nat) : Prop :=
  ∃ ds Q', Mins t W.Q ds Q' ∧ ((c ≠ 0 ∧ W.s.chk u v ≠ 0 ∧ c = (W.s.rems ds).chk u v ∧ WW w0 w' pw W) ∨ (c = 0 ∧ (W.s.rems ds).chk u v = 0 ∧ ∃ a b, ((W.s.rems ds).ins u v wt t (t + W.m)).M.find u = some a ∧ ((W.s.rems ds).ins u v wt t (t + W.m)).M.find v = some b ∧ WW w0 w' pw ((W.tick t ds Q').put u v wt a b)))
theorem ww_add (h : WW w0 wr pw W) (u v : Nat) (hu : u < 18446744073709551616) (hv : v < 18446744073709551616) (hne : u ≠ v) (wt t : Int) (ht1 : -9223372036854775808 ≤ t) (ht2 : t ≤ 9223372036854775807) (hc : chkT W.m W.now t = 0) (hl : W.s.last < 9223372036854775807) :
    Calls Tryz.prog 21 #[wptr pw, recA u v wt t] wr fun e w' => ∃ c : Nat, e = .returned (.int .i64 c) ∧ AddW w0 w' pw W u v wt t c := by
 obtain ⟨K, k1, k2, k3⟩ := h
 refine (wat_add k1 u v hu hv hne wt t ht1 ht2 hc hl).mono fun _ w' ⟨c, hr, ds, Q', hm, hs⟩ => ⟨c, hr, ds, Q', hm, ?_⟩
 rcases hs with ⟨a1, a2, a3, a4⟩ | ⟨a1, a2, a, b, a3, a4, a5⟩
 · exact .inl ⟨a1, a2, a3, ⟨K, k1.fr0 a4, k2.trans' a4, k3⟩⟩
 · exact .inr ⟨a1, a2, a, b, a3, a4, WW.step k2 k3 a5⟩
end
theorem small_w (w : World) : Calls Tryz.prog 30 #[] w fun e w' => e = .returned (.agg #[.int .i64 10, .int .i64 3, .int .i64 4, .int .i64 0]) ∧ Fr [] w w' := by
 have hb := Blk.new w [.int .i64 10, .int .i64 3, .int .i64 4, .int .i64 0] 55
 have r0 := hb.cell 0; have r1 := hb.cell 1; have r2 := hb.cell 2; have r3 := hb.cell 3
 simp only [List.getElem?_cons_zero, List.getElem?_cons_succ] at r0 r1 r2 r3
 go_enter Tryz.func30, Tryz.ntmps30
 go_wp2
 exact bodyPost_ret (v := .agg #[.int .i64 10, .int .i64 3, .int .i64 4, .int .i64 0]) (by simp [results, Tryz.results30, go_sem, r0, r1, r2, r3]) rfl ⟨rfl, (Fr.refl _ _).alloc _⟩
theorem works37_w (w : World) : Calls Tryz.prog 12 #[] w fun e w' => e = .returned (.bool true) ∧ Fr [] w w' := by
 have HS := Lib.hid (small_w w)
 have HN := Lib.hid (fun (w' : World) (hf : Fr [] w w') => ww_new (w0 := w) (wr := w') 10 0 3 4 hf (by omega) (by omega) (by omega) (by omega) (by omega) (by omega) (by omega) (by omega))
 go_enter Tryz.func12, Tryz.ntmps12
 go_wp2_with fail
 refine HS.out.mono ?_
 rintro _ w1 ⟨rfl, hF1⟩
 have HN1 := Lib.hid (HN.out w1 hF1)
 clear HS HN hF1
 go_wp2_with fail
 refine HN1.out.mono ?_
 rintro _ w1 ⟨pw, rfl, hW⟩
 have hW0 : WW w w1 pw (exW 0 (Sm.new 4 3 0) (fun _ => none) (fun _ => none)) := hW
 have A1 : Calls Tryz.prog 21 #[wptr pw, recA 1 2 5 0] w1 fun e w' => e = .returned (.int .i64 0) ∧ WW w w' pw (exW 0 exS1 exQ1 exG1) := by {
 obtain ⟨K, k1, k2, k3⟩ := hW0
 exact (ex_add k1 1 2 (by omega) (by omega) (by omega) 5 (by omega) (by omega) (by omega) (by decide) (fun _ _ h => (by cases h)) (by decide) 0 1 0 (by decide) rfl (by decide) (by decide)).mono fun _ _ k => ⟨k.1, WW.step k2 k3 k.2⟩
 }
 have A1 := Lib.hid A1
 clear hW hW0 HN1
 go_wp2_with fail
 refine A1.out.mono ?_
 rintro _ w2 ⟨rfl, hW⟩
 have A2 : Calls Tryz.prog 21 #[wptr pw, recA 2 3 7 4] w2 fun e w' => e = .returned (.int .i64 0) ∧ WW w w' pw (exW 4 exS2 exQ2 exG2) := by {
 obtain ⟨K, k1, k2, k3⟩ := hW
 exact (ex_add k1 2 3 (by omega) (by omega) (by omega) 7 (by omega) (by omega) (by omega) (by decide) exQ1_lt (by decide) 1 2 1 (by decide) rfl (by decide) (by decide)).mono fun _ _ k => ⟨k.1, WW.step k2 k3 k.2⟩
 }
 have A2 := Lib.hid A2
 clear hW A1
 go_wp2_with fail
 refine A2.out.mono ?_
 rintro _ w3 ⟨rfl, hW⟩
 have U2 := ww_until hW 1 3 (by omega) (by omega)
 rw [ex_until2.1, ex_until2.2.1, show (exW 4 exS2 exQ2 exG2).s = exS2 from rfl, ex_until2.2.2] at U2
 have U2 := Lib.hid U2
 clear hW A2
 go_wp2_with fail
 refine U2.out.mono ?_
 rintro _ w4 ⟨rfl, hW⟩
 have A3 : Calls Tryz.prog 21 #[wptr pw, recA 1 3 9 6] w4 fun e w' => e = .returned (.int .i64 0) ∧ WW w w' pw (exW 6 exS3 exQ3 exG3) := by {
 obtain ⟨K, k1, k2, k3⟩ := hW
 exact (ex_add k1 1 3 (by omega) (by omega) (by omega) 9 (by omega) (by omega) (by omega) (by decide) exQ2_lt (by decide) 0 2 2 (by decide) rfl (by decide) (by decide)).mono fun _ _ k => ⟨k.1, WW.step k2 k3 k.2⟩
 }
 have A3 := Lib.hid A3
 clear hW U2
 go_wp2_with fail
 refine A3.out.mono ?_
 rintro _ w5 ⟨rfl, hW⟩
 have U3 := ww_until hW 1 3 (by omega) (by omega)
 rw [ex_until3.1, ex_until3.2.1, show (exW 6 exS3 exQ3 exG3).s = exS3 from rfl, ex_until3.2.2] at U3
 have U3 := Lib.hid U3
 clear hW A3
 go_wp2_with fail
 refine U3.out.mono ?_
 rintro _ w6 ⟨rfl, hW⟩
 have A4 : Calls Tryz.prog 21 #[wptr pw, recA 4 5 1 9] w6 fun e w' => e = .returned (.int .i64 12) ∧ WW w w' pw (exW 6 exS3 exQ3 exG3) := by {
 obtain ⟨K, k1, k2, k3⟩ := hW
 exact (ex_add_no k1 (by omega) (by omega) 12 (by omega) ex_no9).mono fun _ _ k => ⟨k.1, WW.step k2 k3 k.2⟩
 }
 have A4 := Lib.hid A4
 clear hW U3
 go_wp2_with fail
 refine A4.out.mono ?_
 rintro _ w7 ⟨rfl, hW⟩
 have A5 : Calls Tryz.prog 21 #[wptr pw, recA 4 5 1 10] w7 fun e w' => e = .returned (.int .i64 11) ∧ WW w w' pw (exW 6 exS3 exQ3 exG3) := by {
 obtain ⟨K, k1, k2, k3⟩ := hW
 exact (ex_add_no k1 (by omega) (by omega) 11 (by omega) ex_no10).mono fun _ _ k => ⟨k.1, WW.step k2 k3 k.2⟩
 }
 have A5 := Lib.hid A5
 clear hW A4
 go_wp2_with fail
 refine A5.out.mono ?_
 rintro _ w8 ⟨rfl, hW⟩
 have C := ww_count hW
 rw [ex_comps.1, show (exW 6 exS3 exQ3 exG3).s = exS3 from rfl, ex_comps.2.1, ex_comps.2.2] at C
 have C := Lib.hid C
 clear hW A5
 go_wp2_with fail
 refine C.out.mono ?_
 rintro _ w9 ⟨rfl, hW⟩
 have N := ww_now hW
 rw [show (exW 6 exS3 exQ3 exG3).now = 6 from rfl] at N
 have N := Lib.hid N
 have HF := Lib.hid hW.fr
 clear hW C
 go_wp2_with fail
 refine N.out.mono ?_
 rintro _ w9 ⟨rfl, rfl⟩
 clear N
 go_wp2
 go_ret
 exact ⟨rfl, HF.out⟩
set_option maxHeartbeats 1600000
theorem flat_move37 : Flat Tryz.prog 71 [.i .u8, .i .u8, .i .u8, .i .i8] := by
 refine Flat.struct Tryz.underlying71 (by kernel_rfl) (fun j k hj => ?_)
 have hi : Flat Tryz.prog 5 [.i .u8] := Flat.int Tryz.underlying5 (by kernel_rfl)
 have hb : Flat Tryz.prog 69 [.i .i8] := Flat.int Tryz.underlying69 (by kernel_rfl)
 match j, hj with
 | 0, hj => exact ⟨0, _, _, rfl, hi, by decide, hj⟩
 | 1, hj => exact ⟨1, _, _, rfl, hi, by decide, hj⟩
 | 2, hj => exact ⟨2, _, _, rfl, hi, by decide, hj⟩
 | 3, hj => exact ⟨3, _, _, rfl, hb, by decide, hj⟩
 | j + 4, hj => simp at hj
def MovesW (w : World) (a : Option Addr) (len : Nat) (z : Nat → Nat × Nat × Nat × Int) : Prop :=
  len ≤ 9223372036854775807 ∧ ∀ i, i < len → ∃ b off, a = some ⟨b, off, none⟩ ∧ b < w.heap.size ∧ w.cell? ⟨b, off + i * 4, none⟩ = some (.int .u8 (z i).1) ∧ w.cell? ⟨b, off + i * 4 + 1, none⟩ = some (.int .u8 (z i).2.1) ∧
    w.cell? ⟨b, off + i * 4 + 2, none⟩ = some (.int .u8 (z i).2.2.1) ∧ w.cell? ⟨b, off + i * 4 + 3, none⟩ = some (.int .i8 (z i).2.2.2) ∧ (z i).1 < 256 ∧ (z i).2.1 < 256 ∧ (z i).2.2.1 < 256 ∧ -128 ≤ (z i).2.2.2 ∧ (z i).2.2.2 ≤ 127
theorem u8_wf {a : Int} (h : (Lit.int .u8 a).wf = true) : ∃ n : Nat, a = n ∧ n < 256 := by
 have h : (decide ((0 : Int) ≤ a) && decide (a ≤ 255)) = true := h
 simp only [Bool.and_eq_true, decide_eq_true_eq] at h
 exact ⟨a.toNat, by omega, by omega⟩
theorem i8_wf {a : Int} (h : (Lit.int .i8 a).wf = true) : -128 ≤ a ∧ a ≤ 127 := by
 have h : (decide ((-128 : Int) ≤ a) && decide (a ≤ 127)) = true := h
 simp only [Bool.and_eq_true, decide_eq_true_eq] at h
 exact h
theorem open_moves37 {H : Type} {enc : TypeId × Value → H} {W : World} {a : Option Addr} {len cap : Nat} {d : DataW H} {p : List MemPlace}
    (h : DataW.Trod enc Tryz.prog W 0 (fun _ => true) true 22 (.slice a len cap) d p) : ∃ z, MovesW W a len z := by
 obtain ⟨z, hz⟩ := open_flat Tryz.underlying22 flat_move37 (by decide) h
 have key : ∀ i, ∃ u : Nat × Nat × Nat × Int, i < len → z i 0 = .int .u8 u.1 ∧ z i 1 = .int .u8 u.2.1 ∧ z i 2 = .int .u8 u.2.2.1 ∧ z i 3 = .int .i8 u.2.2.2 ∧ u.1 < 256 ∧ u.2.1 < 256 ∧ u.2.2.1 < 256 ∧ -128 ≤ u.2.2.2 ∧ u.2.2.2 ≤ 127 := by {
 intro i
 by_cases hi : i < len
 {
 obtain ⟨b, off, rfl, _, h1⟩ := hz.2 i hi
 obtain ⟨n0, e0, w0⟩ := (h1 0 _ rfl).2
 obtain ⟨n1, e1, w1⟩ := (h1 1 _ rfl).2
 obtain ⟨n2, e2, w2⟩ := (h1 2 _ rfl).2
 obtain ⟨n3, e3, w3⟩ := (h1 3 _ rfl).2
 obtain ⟨m0, rfl, k0⟩ := u8_wf w0
 obtain ⟨m1, rfl, k1⟩ := u8_wf w1
 obtain ⟨m2, rfl, k2⟩ := u8_wf w2
 have k3 := i8_wf w3
 exact ⟨(m0, m1, m2, n3), fun _ => ⟨e0, e1, e2, e3, k0, k1, k2, k3.1, k3.2⟩⟩
 }
 · exact ⟨(0, 0, 0, 0), fun h => absurd h hi⟩
 }
 obtain ⟨F, hF⟩ := Classical.axiomOfChoice key
 refine ⟨F, hz.1, fun i hi => ?_⟩
 obtain ⟨b, off, rfl, hb, h1⟩ := hz.2 i hi
 obtain ⟨e0, e1, e2, e3, e4⟩ := hF i hi
 refine ⟨b, off, rfl, hb, ?_, ?_, ?_, ?_, e4⟩
 · rw [← e0]; exact (h1 0 _ rfl).1
 · rw [← e1]; exact (h1 1 _ rfl).1
 · rw [← e2]; exact (h1 2 _ rfl).1
 · rw [← e3]; exact (h1 3 _ rfl).1
structure Bg (W : Wm) (k : Nat) : Prop where
  m : W.m = 20
  E : W.E = 40
  V : W.V = 12
  D : W.D = 0
  now : W.now ≤ 3 * k
  id : ∀ e ∈ W.s.L, e.u < 12 ∧ e.v < 12
  last : W.s.last ≤ k
theorem Bg.new : Bg (Wm.new 20 40 12 0 0) 0 := ⟨rfl, rfl, rfl, rfl, by decide, fun e h => (by cases h), Nat.le_refl _⟩
theorem Bg.mono {W : Wm} {k j : Nat} (h : Bg W k) (hj : k ≤ j) : Bg W j := ⟨h.m, h.E, h.V, h.D, by have := h.now; omega, h.id, Nat.le_trans h.last hj⟩
theorem Bg.tick {W : Wm} {k : Nat} (h : Bg W k) {to : Int} (ht : to ≤ 3 * (k + 1 : Nat)) (ds : List Nat) (Q' : Nat → Option Int) : Bg (W.tick to ds Q') (k + 1) :=
  ⟨h.m, h.E, h.V, h.D, ht, fun e he => h.id e (rems_sub ds he), by
 show (W.s.rems ds).last ≤ _
 rw [(rems_keep W.s ds).2.2]; have := h.last; omega⟩
theorem Bg.put {W : Wm} {k : Nat} (h : Bg W k) {to : Int} (ht : to ≤ 3 * (k + 1 : Nat)) (ds : List Nat) (Q' : Nat → Option Int) {u v : Nat} (hu : u < 12) (hv : v < 12) (wt : Int) (a b : Nat) : Bg ((W.tick to ds Q').put u v wt a b) (k + 1) := by
 have h1 := h.tick ht ds Q'
 refine ⟨h.m, h.E, h.V, h.D, ht, fun e he => ?_, ?_⟩
 {
 have he' : e ∈ (W.s.rems ds).L ++ [(W.s.rems ds).edge u v wt to (to + W.m)] := he
 rw [List.mem_append, List.mem_singleton] at he'
 rcases he' with he' | rfl
 · exact h1.id e he'
 · exact ⟨hu, hv⟩
 }
 {
 show (W.s.rems ds).last + 1 ≤ _
 rw [(rems_keep W.s ds).2.2]; have := h.last; omega
 }
theorem chk_12 {s : Sm} (h : s.Ok) (hV : s.V = 12) (hid : ∀ e ∈ s.L, e.u < 12 ∧ e.v < 12) {u v : Nat} (hu : u < 12) (hv : v < 12) (hne : u ≠ v) : s.chk u v = 0 ∨ s.chk u v = 12 := by
 have hl : s.M.L.length + s.more u v ≤ 12 := by {
 have h1 : s.M.L.length + s.more u v = (withUV s.M u v).length := by rw [withUV_len]; rfl
 rw [h1]
 have := nodup_sub_len (m := List.range 12) (withUV_nodup h.md hne) (fun x hx => by
   rw [List.mem_range]
   rcases (withUV_mem h.md).1 hx with hx | rfl | rfl
   · obtain ⟨k, hk⟩ := List.exists_mem_of_ne_nil _ ((h.vert x).1 hx)
     obtain ⟨e, he, hat, _⟩ := mem_incL.1 hk
     have := hid e he
     simp only [Lv.at, Bool.or_eq_true, beq_iff_eq] at hat
     omega
   · exact hu
   · exact hv)
 simpa using this
 }
 unfold Sm.chk
 rw [if_neg hne]
 by_cases hE : s.E ≤ s.A.used
 · rw [if_pos hE]; exact .inr rfl
 · rw [if_neg hE, if_neg (by omega)]; exact .inl rfl
theorem begun_w (W : World) (a : Option Addr) (len cap : Nat) (z : Nat → Nat × Nat × Nat × Int) (hz : MovesW W a len z) (hlen : len ≤ 100) :
    Calls Tryz.prog 13 #[.slice a len cap] W fun e w' => ∃ pw X, e = .returned (wptr pw) ∧ WW W w' pw X ∧ Bg X len := by
 have HN := Lib.hid (ww_new (w0 := W) (wr := W) 20 0 40 12 (Fr.refl [] W) (by omega) (by omega) (by omega) (by omega) (by omega) (by omega) (by omega) (by omega))
 have HZ := Lib.hid hz; clear hz
 go_enter Tryz.func13, Tryz.ntmps13
 go_wp2_with fail
 refine HN.out.mono ?_
 rintro _ w1 ⟨pw, rfl, hS1⟩
 have HS1 := Lib.hid hS1; clear hS1 HN
 go_wp2_with fail
 go_loopw [5] (fun c wr => ∃ (k : Nat), k ≤ len ∧ c = .int .i64 k ∧ Hid (∃ X, WW W wr pw X ∧ Bg X k)) (fun c _ => len - (intOf c).toNat)
 case atStart => exact ⟨0, Nat.zero_le _, rfl, Lib.hid ⟨_, HS1.out, Bg.new⟩⟩
 case round =>
  obtain ⟨k, hk, rfl, HR⟩ := hrel
  clear HS1
  rename World => wr
  by_cases hkl : k < len
  {
  have hki : (k : Int) < len := by omega
  obtain ⟨X, hX, hB⟩ := HR.out
  obtain ⟨b, off, rfl, hb, m0, m1, m2, m3, l0, l1, l2, l3, l4⟩ := HZ.out.2 k hkl
  generalize (z k).1 = by_ at *
  generalize (z k).2.1 = mu at *
  generalize (z k).2.2.1 = mvv at *
  generalize (z k).2.2.2 = ms at *
  have hFW := hX.fr
  have n0 := hFW.cell m0 (by simp); have n1 := hFW.cell m1 (by simp); have n2 := hFW.cell m2 (by simp); have n3 := hFW.cell m3 (by simp)
  have HCe := Lib.hid (show ∀ w', Fr [] wr w' → w'.cell? ⟨b, off + k * 4, none⟩ = some (.int .u8 by_) ∧ w'.cell? ⟨b, off + k * 4 + 1, none⟩ = some (.int .u8 mu) ∧ w'.cell? ⟨b, off + k * 4 + 2, none⟩ = some (.int .u8 mvv) ∧ w'.cell? ⟨b, off + k * 4 + 3, none⟩ = some (.int .i8 ms) from fun w' hf => ⟨hf.cell n0 (by simp), hf.cell n1 (by simp), hf.cell n2 (by simp), hf.cell n3 (by simp)⟩)
  clear hFW m0 m1 m2 m3 n1 n2 n3
  have hn0 := hX.ok.n0
  have hnow := hB.now
  have hbw : IntKind.i64.wrap ((by_ : Int).tmod 4) = ((by_ % 4 : Nat) : Int) := by rw [Int.tmod_eq_emod_of_nonneg (by omega)]; simp [IntKind.wrap, IntKind.bits, IntKind.signed]; omega
  have hb4 : ((by_ : Int) % 4) = ((by_ % 4 : Nat) : Int) := by omega
  have hb3 : by_ % 4 < 4 := Nat.mod_lt _ (by omega)
  generalize by_ % 4 = dt at *
  obtain ⟨now, hnw⟩ : ∃ now, now = X.now := ⟨_, rfl⟩
  have hWn : Calls Tryz.prog 16 #[wptr pw] wr.drew fun e w' => e = .returned (.int .i64 now) ∧ w' = wr.drew := by rw [hnw]; exact ww_now (hX.fr0 (Fr.refl [] wr).drew)
  have HNow := Lib.hid hWn
  rw [← hnw] at hn0 hnow
  have HX := Lib.hid (And.intro hX (And.intro hB hnw))
  clear hX hB hnw hWn
  go_wp2_with fail
  go_region_held3 (fun w' => w'.cell? ⟨b, off + k * 4, none⟩ = some (.int .u8 by_))
    (first
      | with_reducible exact And.left (HCe.out _ (Fr.refl [] wr).drew)
      | go_keep)
    (first
      | (go_at_call 16; with_reducible refine Calls.mono HNow.out ?_; rintro _ w2 ⟨rfl, rfl⟩))
  rename_i hHH
  clear hHH
  obtain ⟨_, n1, n2, n3⟩ := HCe.out _ (Fr.refl [] wr).drew
  have hu12 : ((mu : Int) % 12) = ((mu % 12 : Nat) : Int) := by omega
  have hv12 : ((mvv : Int) % 12) = ((mvv % 12 : Nat) : Int) := by omega
  have hlu : mu % 12 < 12 := Nat.mod_lt _ (by omega)
  have hlv : mvv % 12 < 12 := Nat.mod_lt _ (by omega)
  have hwu : IntKind.u64.wrap ((mu : Int).tmod 12) = ((mu % 12 : Nat) : Int) := by rw [Int.tmod_eq_emod_of_nonneg (by omega)]; simp [IntKind.wrap, IntKind.bits, IntKind.signed]; omega
  have hwv : IntKind.u64.wrap ((mvv : Int).tmod 12) = ((mvv % 12 : Nat) : Int) := by rw [Int.tmod_eq_emod_of_nonneg (by omega)]; simp [IntKind.wrap, IntKind.bits, IntKind.signed]; omega
  generalize mu % 12 = u at *
  generalize mvv % 12 = v at *
  clear n0 HNow hbw hb4
  obtain ⟨t, ht⟩ : ∃ t, t = now + dt := ⟨_, rfl⟩
  rw [← ht]
  have hX2 := HX.out.1.fr0 (Fr.refl [] wr).drew
  clear HCe
  generalize wr.drew = w2 at *
  have HX2 := Lib.hid hX2
  clear hX2
  have Ht := Lib.hid (And.intro hn0 (And.intro hnow (And.intro hb3 ht)))
  have ht1 : 0 ≤ t := by omega
  have ht2 : t ≤ 3 * ((k + 1 : Nat) : Int) := by omega
  clear ht hnow hn0 hb3
  rw [show IntKind.i64.wrap t = t by simp [IntKind.wrap, IntKind.bits, IntKind.signed]; omega]
  go_wp2_with fail
  go_quiet (fail)
  have n3' := ((Fr.refl [] w2).drewN nq).cell n3 (by simp)
  have hX3 := HX2.out.fr0 ((Fr.refl [] w2).drewN nq)
  clear n1 n2 n3 hu12 hv12 hwu hwv HX2
  generalize w2.drewN nq = w3 at *
  have hct : chkT X.m X.now t = 0 := by {
  have h1 := Ht.out; have h2 := HX.out.2.2; have h3 := HX.out.2.1.m
  unfold chkT
  rw [if_neg (by omega)]
  unfold sumC
  exact if_pos (by omega)
  }
  have hok := hX3.ok
  obtain ⟨q1, q2⟩ := chkT_ok hct
  by_cases huv : u = v
  {
  subst huv
  have HT := Lib.hid (ww_tick hX3 t (by omega) (by omega) hct)
  clear hX3 n3' hct hok q1 q2
  go_wp2_with fail
  refine HT.out.mono ?_
  rintro _ w4 ⟨rfl, ds, Q', hm, hX4⟩
  have HX4 := Lib.hid hX4
  clear hm hX4 HT
  go_wp2_with fail
  go_roundw
  case rel => exact ⟨k + 1, by omega, by go_num, Lib.hid ⟨_, HX4.out, HX.out.2.1.tick ht2 ds Q'⟩⟩
  case measure => simp [intOf]; omega
  }
  {
  have HA := Lib.hid (ww_add hX3 u v (by omega) (by omega) huv ms t (by omega) (by omega) hct (by have := HX.out.2.1.last; omega))
  have HK := Lib.hid (And.intro hok (And.intro q1 q2))
  have hws : IntKind.i64.wrap ms = ms := by simp [IntKind.wrap, IntKind.bits, IntKind.signed]; omega
  have d1 : ((u : Int) == v) = false := by simp; omega
  have Huv := Lib.hid huv
  clear hX3 hct hok q1 q2 huv
  go_wp2_with fail
  refine HA.out.mono ?_
  rintro _ w4 ⟨c, rfl, ds, Q', hm, hres⟩
  have hc : c = 0 ∨ c = 12 := by {
  rcases hres with ⟨_, _, h1, _⟩ | ⟨h1, _⟩
  {
  have k1 := (Wm.tick_ok HK.out.1 HK.out.2.1 HK.out.2.2 hm).1
  have := chk_12 k1.ok (k1.hV.trans HX.out.2.1.V) (fun e he => HX.out.2.1.id e (rems_sub ds he)) hlu hlv Huv.out
  rw [h1]; exact this
  }
  · exact .inl h1
  }
  have hnew : ∃ Y, WW W w4 pw Y ∧ Bg Y (k + 1) := by {
  rcases hres with ⟨_, _, _, h1⟩ | ⟨_, _, a, b, _, _, h1⟩
  · exact ⟨X, h1, HX.out.2.1.mono (Nat.le_succ _)⟩
  · exact ⟨_, h1, HX.out.2.1.put ht2 ds Q' hlu hlv ms a b⟩
  }
  have HNew := Lib.hid hnew
  clear hm hres hnew HA n3' hws d1
  rcases hc with rfl | rfl
  all_goals
   go_wp2_with fail
   go_roundw
   case rel => exact ⟨k + 1, by omega, by go_num, HNew⟩
   case measure => simp [intOf]; omega
  }
  }
  {
  obtain rfl : k = len := by omega
  obtain ⟨X, hX⟩ := HR.out
  have HX := Lib.hid hX
  clear hX HR
  go_wp2
  go_ret
  exact ⟨pw, X, rfl, HX.out⟩
  }
end Go.Proofs.YtgmnemndjjmgkaaGreat
namespace Go.Proofs.YtgmnemndjjmgkaaGreat
open Go.RowKit
set_option maxRecDepth 10000
structure Wm.Later (W1 W2 : Wm) : Prop where
  G : ∀ i a b x, W2.G i = some (a, b, x) ↔ W1.G i = some (a, b, x) ∧ W2.now < x
  find : ∀ u j, W2.s.M.find u = some j → W1.s.M.find u = some j
theorem atLeast_beyond (G : EMap) (r : Int) : AtLeast G r = Beyond G (r - 1) := by
 funext t
 exact propext ⟨fun ⟨a, b, x, h1, h2⟩ => ⟨a, b, x, h1, by omega⟩, fun ⟨a, b, x, h1, h2⟩ => ⟨a, b, x, h1, by omega⟩⟩
theorem Cx.first {G : EMap} {U : Nat → Prop} {a b : Nat} (h : Cx G U a b) (hne : a ≠ b) : (∃ s c x, U s ∧ (G s = some (c, b, x) ∨ G s = some (b, c, x))) := by
 cases h with
 | refl => exact absurd rfl hne
 | step s x h1 h2 h3 => exact ⟨s, _, x, h2, h3⟩
end Go.Proofs.YtgmnemndjjmgkaaGreat
namespace Go.Proofs.YtgmnemndjjmgkaaGreat
open Go.RowKit Classical
set_option maxRecDepth 10000
set_option maxHeartbeats 800000
set_option maxHeartbeats 1600000
section
variable {S V : Nat} {z : Nat → Int × Int × Int} {P P' : Nat → Prop} {i : Nat}
end
end Go.Proofs.YtgmnemndjjmgkaaGreat
namespace Go.Proofs.YtgmnemndjjmgkaaGreat
open Classical
section
variable (use : Nat → Bool) (A B : Nat → Nat)
variable {use A B} {len n : Nat} {f : Nat → Bool}
end
end Go.Proofs.YtgmnemndjjmgkaaGreat
namespace Go.Proofs.YtgmnemndjjmgkaaGreat
open Go.RowKit Classical
set_option maxRecDepth 10000
set_option maxHeartbeats 1600000
set_option maxHeartbeats 800000
end Go.Proofs.YtgmnemndjjmgkaaGreat
namespace Go.Proofs.YtgmnemndjjmgkaaGreat
open Classical
section
variable {S V : Nat} {z : Nat → Int × Int × Int} {P : Nat → Prop} {D : Nat → Prop} {t m k : Nat}
end
end Go.Proofs.YtgmnemndjjmgkaaGreat
namespace Go.Proofs.YtgmnemndjjmgkaaGreat
open Go.RowKit Classical
set_option maxRecDepth 10000
set_option maxHeartbeats 1600000
section
variable {W wr w' : World} {pf S V tb m : Nat} {G G' : EMap} {f : Nat → Bool} {L : List Nat}
end
section
variable {S V : Nat} {z : Nat → Int × Int × Int} {P : Nat → Prop} {a b : Nat} {T : Int}
end
theorem until_ex {G : EMap} {S V : Nat} (hG : GW S V G) {a b : Nat} (hab : a ≠ b) (h : Cx G (fun _ => True) a b) : ∃ T, IsUntil G a b T := by
 have key : ∀ (k : Nat) (U : Nat → Prop), cntT S U ≤ k → (∀ t, U t → ∃ e, G t = some e) → Upw G U → Cx G U a b → ∃ T, IsUntil G a b T := by {
 intro k
 induction k with
 | zero => {
 intro U hk hU _ hc
 exfalso
 have h0 : ∀ s, ¬ U s := fun s hs => by obtain ⟨e, he⟩ := hU s hs; exact cnt_zero (by omega) s (hG.slot s e he) hs
 cases hc with
 | refl => exact hab rfl
 | step s x _ h1 _ => exact h0 s h1
 }
 | succ k ih => {
 intro U hk hU hup hc
 by_cases hex : ∃ s, U s
 {
 obtain ⟨s, c, d, x, hs, hgs, hall⟩ := first_ex hG.slot (k + 1) U hk hU hex
 by_cases hb : Cx G (Beyond G x) a b
 {
 -- what is beyond x is fewer
 have hd := cntT_drop (T := U) (hG.slot s _ hgs) hs
 have hsub : ∀ t, Beyond G x t ∧ U t → U t ∧ t ≠ s := fun t ⟨⟨_, _, y, h1, h2⟩, h3⟩ => ⟨h3, by rintro rfl; rw [hgs] at h1; simp at h1; omega⟩
 refine ih (fun t => Beyond G x t ∧ U t) (by have := cnt_le_of S hsub; omega) (fun t ht => hU t ht.2) ?_ ?_
 {
 rintro t c' d' y u ⟨⟨_, _, y', h1, h2⟩, h3⟩ h4 h5
 refine ⟨?_, hup t c' d' y u h3 h4 h5⟩
 rw [h4] at h1; simp only [Option.some.injEq, Prod.mk.injEq] at h1
 obtain ⟨_, _, v, h6, h7⟩ := h5
 exact ⟨_, _, v, h6, by unfold bef at h7; omega⟩
 }
 {
 exact hb.mono fun t f ht hg => ⟨ht, by
   obtain ⟨_, _, y, h1, h2⟩ := ht
   by_cases e : t = s
   · rw [e]; exact hs
   · exact hup s c d x t hs hgs ⟨_, _, y, h1, by unfold bef; omega⟩⟩
 }
 }
 {
 refine ⟨x, hc.mono fun t f ht hg => ?_, hb⟩
 by_cases e : t = s
 · subst e; exact ⟨_, _, _, hgs, Int.le_refl _⟩
 {
 obtain ⟨_, _, y, h1, h2⟩ := hall t ht e
 exact ⟨_, _, y, h1, by unfold bef at h2; omega⟩
 }
 }
 }
 {
 exfalso
 cases hc with
 | refl => exact hab rfl
 | step s x _ h1 _ => exact hex ⟨s, h1⟩
 }
 }
 }
 refine key _ (fun t => ∃ e, G t = some e) (Nat.le_refl _) (fun t h => h) (fun _ _ _ _ _ _ _ ⟨_, _, _, h, _⟩ => ⟨_, h⟩) (h.mono fun t f _ hg => ⟨f, hg⟩)
theorem until_exB {G : EMap} {S V : Nat} (hG : GW S V G) {x y : Int} (h : untilB V G x y = true) : ∃ T, IsUntil G x.toNat y.toNat T := by
 unfold untilB connG at h
 simp only [Bool.and_eq_true, decide_eq_true_eq] at h
 obtain ⟨h1, ⟨h2, h3⟩, h4⟩ := h
 obtain ⟨a, rfl, _⟩ := inV_nat h2
 obtain ⟨b, rfl, _⟩ := inV_nat h3
 exact until_ex hG (by omega) h4
set_option maxHeartbeats 800000
section
variable {W w wr : World} {pw : Nat} {X Y : Wm}
theorem ends_01 (s : Sm) (u v : Nat) : endsC s u v = 0 ∨ endsC s u v = 13 := by
 unfold endsC; by_cases h : (s.M.find u).isSome = true ∧ (s.M.find v).isSome = true
 · exact .inl (if_pos h)
 · exact .inr (if_neg h)
theorem ends_find {s : Sm} {u v : Nat} (h : endsC s u v = 0) : ∃ a b, s.M.find u = some a ∧ s.M.find v = some b ∧ endsI s u v = a ∧ endsI s v u = b := by
 unfold endsC at h
 by_cases h1 : (s.M.find u).isSome = true ∧ (s.M.find v).isSome = true
 {
 obtain ⟨a, ha⟩ := Option.isSome_iff_exists.1 h1.1
 obtain ⟨b, hb⟩ := Option.isSome_iff_exists.1 h1.2
 refine ⟨a, b, ha, hb, ?_, ?_⟩
 · unfold endsI; rw [if_pos h1, ha]; rfl
 · unfold endsI; rw [if_pos ⟨h1.2, h1.1⟩, hb]; rfl
 }
 · rw [if_neg h1] at h; cases h
theorem find_lt {s : Sm} (h : s.Ok) {V u a : Nat} (hV : s.V = V) (hu : s.M.find u = some a) : inV V a = true := by
 have := Sm.idx_lt h hu
 simp [inV]; omega
theorem conn_find (hok : X.Ok) {u v a b : Nat} (hu : X.s.M.find u = some a) (hv : X.s.M.find v = some b) : endsC X.s u v = 0 ∧ wconnB (X.wp 0) u v = decide (Cx X.G (fun _ => True) a b) := by
 have h0 : endsC X.s u v = 0 := by unfold endsC; rw [if_pos (by simp [hu, hv])]
 have hi : endsI X.s u v = a := by unfold endsI; rw [if_pos (by simp [hu, hv]), hu]; rfl
 have hj : endsI X.s v u = b := by unfold endsI; rw [if_pos (by simp [hu, hv]), hv]; rfl
 refine ⟨h0, ?_⟩
 unfold wconnB
 rw [show (X.wp 0).s = X.s from rfl, if_pos h0, hi, hj]
 show connG X.V X.G a b = _
 unfold connG
 rw [find_lt hok.ok hok.hV hu, find_lt hok.ok hok.hV hv]
 simp
theorem until_cases (hok : X.Ok) (hg : GW X.E X.V X.G) (u v : Nat) :
    (wuntB (X.wp 0) u v = false ∧ wuntV (X.wp 0) u v = 0 ∧ ((endsC X.s u v = 13 ∧ wconnB (X.wp 0) u v = false) ∨ (endsC X.s u v = 0 ∧ wconnB (X.wp 0) u v = false) ∨ (endsC X.s u v = 0 ∧ wconnB (X.wp 0) u v = true ∧ u = v))) ∨
    (wuntB (X.wp 0) u v = true ∧ endsC X.s u v = 0 ∧ wconnB (X.wp 0) u v = true ∧ u ≠ v ∧ ∃ a b, X.s.M.find u = some a ∧ X.s.M.find v = some b ∧ a ≠ b ∧ IsUntil X.G a b (wuntV (X.wp 0) u v)) := by
 rcases ends_01 X.s u v with h0 | h0
 {
 obtain ⟨a, b, hu, hv, hi, hj⟩ := ends_find h0
 obtain ⟨_, hc⟩ := conn_find hok hu hv
 have hB : wuntB (X.wp 0) u v = (decide (a ≠ b) && decide (Cx X.G (fun _ => True) a b)) := by {
 unfold wuntB
 rw [show (X.wp 0).s = X.s from rfl, if_pos h0, hi, hj]
 show untilB X.V X.G a b = _
 unfold untilB connG
 rw [find_lt hok.ok hok.hV hu, find_lt hok.ok hok.hV hv]
 simp [Int.natCast_inj]
 }
 have hV : wuntV (X.wp 0) u v = if wuntB (X.wp 0) u v = true then untilI X.G a b else 0 := by {
 unfold wuntV wuntB
 rw [show (X.wp 0).s = X.s from rfl, if_pos h0, if_pos h0, hi, hj]
 rfl
 }
 by_cases hcx : Cx X.G (fun _ => True) a b
 {
 rw [decide_eq_true hcx] at hc hB
 by_cases hab : a = b
 {
 have huv : u = v := find_inj hok.ok.md hu (by rw [hab]; exact hv)
 have hB' : wuntB (X.wp 0) u v = false := by rw [hB]; simp [hab]
 exact .inl ⟨hB', by rw [hV, hB']; rfl, .inr (.inr ⟨h0, hc, huv⟩)⟩
 }
 {
 have hB' : wuntB (X.wp 0) u v = true := by rw [hB]; simp [hab]
 refine .inr ⟨hB', h0, hc, fun e => hab (Option.some.inj (hu.symm.trans (by rw [e]; exact hv))), a, b, hu, hv, hab, ?_⟩
 rw [hV, if_pos hB']
 have hB2 : untilB X.V X.G a b = true := by {
 have h1 := hB'
 unfold wuntB at h1
 rw [show (X.wp 0).s = X.s from rfl, if_pos h0, hi, hj] at h1
 exact h1
 }
 obtain ⟨r, hr⟩ := until_exB hg hB2
 rw [show untilI X.G a b = r from untilI_eq hr]
 exact hr
 }
 }
 {
 rw [decide_eq_false hcx] at hc hB
 have hB' : wuntB (X.wp 0) u v = false := by rw [hB]; simp
 exact .inl ⟨hB', by rw [hV, hB']; rfl, .inr (.inl ⟨h0, hc⟩)⟩
 }
 }
 {
 refine .inl ⟨?_, ?_, .inl ⟨h0, ?_⟩⟩
 · unfold wuntB; rw [show (X.wp 0).s = X.s from rfl, if_neg (by omega)]
 · unfold wuntV; rw [show (X.wp 0).s = X.s from rfl, if_neg (by omega)]
 · unfold wconnB; rw [show (X.wp 0).s = X.s from rfl, if_neg (by omega)]
 }
end
end Go.Proofs.YtgmnemndjjmgkaaGreat
namespace Go.Proofs.YtgmnemndjjmgkaaGreat
open Go.RowKit Classical
set_option maxRecDepth 10000
inductive Rl (L : List Lv) (f : Int) : Nat → Nat → Prop
  | refl (u : Nat) : Rl L f u u
  | step {a b c : Nat} (e : Lv) : Rl L f a b → e ∈ L → f ≤ e.x → (e.u = b ∧ e.v = c ∨ e.u = c ∧ e.v = b) → Rl L f a c
section
variable {L L' : List Lv} {f g : Int} {a b c : Nat}
theorem Rl.trans (h : Rl L f a b) (h' : Rl L f b c) : Rl L f a c := by
 induction h' with
 | refl => exact h
 | step e _ h1 h2 h3 ih => exact .step e ih h1 h2 h3
theorem Rl.edge {e : Lv} (he : e ∈ L) (hx : f ≤ e.x) : Rl L f e.u e.v := .step e (.refl _) he hx (.inl ⟨rfl, rfl⟩)
theorem Rl.edge' {e : Lv} (he : e ∈ L) (hx : f ≤ e.x) : Rl L f e.v e.u := .step e (.refl _) he hx (.inr ⟨rfl, rfl⟩)
theorem Rl.symm (h : Rl L f a b) : Rl L f b a := by
 induction h with
 | refl => exact .refl _
 | step e _ h1 h2 h3 ih => {
 rcases h3 with ⟨rfl, rfl⟩ | ⟨rfl, rfl⟩
 · exact (Rl.edge' h1 h2).trans ih
 · exact (Rl.edge h1 h2).trans ih
 }
theorem Rl.mono (h : Rl L f a b) (hm : ∀ e ∈ L, f ≤ e.x → ∃ d ∈ L', d.u = e.u ∧ d.v = e.v ∧ g ≤ d.x) : Rl L' g a b := by
 induction h with
 | refl => exact .refl _
 | step e _ h1 h2 h3 ih => {
 obtain ⟨d, hd, e1, e2, hx⟩ := hm e h1 h2
 exact .step d ih hd hx (by rw [e1, e2]; exact h3)
 }
theorem Rl.less (h : Rl L f a b) (hg : g ≤ f) : Rl L g a b := h.mono fun e he hx => ⟨e, he, rfl, rfl, by omega⟩
end
def inL (L : List Lv) (u : Nat) : Prop := ∃ e ∈ L, e.at u = true
def allT : Int := -9223372036854775808
def core (e : Lv) : Lv := { e with slot := 0 }
theorem inL_core {L : List Lv} {u : Nat} : inL (L.map core) u ↔ inL L u := by
 unfold inL
 constructor
 {
 rintro ⟨e, he, h⟩
 obtain ⟨d, hd, rfl⟩ := List.mem_map.1 he
 exact ⟨d, hd, h⟩
 }
 {
 rintro ⟨e, he, h⟩
 exact ⟨core e, List.mem_map.2 ⟨e, he, rfl⟩, h⟩
 }
theorem rl_core {L : List Lv} {f : Int} {a b : Nat} : Rl (L.map core) f a b ↔ Rl L f a b := by
 constructor
 {
 intro h
 refine h.mono fun e he hx => ?_
 obtain ⟨d, hd, rfl⟩ := List.mem_map.1 he
 exact ⟨d, hd, rfl, rfl, hx⟩
 }
 {
 intro h
 exact h.mono fun e he hx => ⟨core e, List.mem_map.2 ⟨e, he, rfl⟩, rfl, rfl, hx⟩
 }
noncomputable def ncl (R : Nat → Nat → Prop) : List Nat → Nat
  | [] => 0
  | a :: r => ncl R r + if ∃ b ∈ r, R a b then 0 else 1
section
variable {R R' : Nat → Nat → Prop} {l m : List Nat}
theorem ncl_perm (hs : ∀ a b, R a b → R b a) (ht : ∀ a b c, R a b → R b c → R a c) (h : l.Perm m) : ncl R l = ncl R m := by
 induction h with
 | nil => rfl
 | cons a h ih => {
 have e : (∃ b ∈ _, R a b) ↔ ∃ b ∈ _, R a b := ⟨fun ⟨b, hb, hr⟩ => ⟨b, h.mem_iff.1 hb, hr⟩, fun ⟨b, hb, hr⟩ => ⟨b, h.mem_iff.2 hb, hr⟩⟩
 simp only [ncl, ih, e]
 }
 | swap a b r => {
 simp only [ncl, List.mem_cons, exists_eq_or_imp]
 by_cases hab : R a b
 {
 have hba := hs _ _ hab
 have e : (∃ c, c ∈ r ∧ R a c) ↔ ∃ c, c ∈ r ∧ R b c := ⟨fun ⟨c, hc, h⟩ => ⟨c, hc, ht _ _ _ hba h⟩, fun ⟨c, hc, h⟩ => ⟨c, hc, ht _ _ _ hab h⟩⟩
 simp only [hab, hba, e, true_or, if_true]
 }
 {
 have hba : ¬ R b a := fun h => hab (hs _ _ h)
 simp only [hab, hba, false_or]
 omega
 }
 }
 | trans _ _ ih1 ih2 => rw [ih1, ih2]
theorem ncl_map (f : Nat → Nat) (l : List Nat) : ncl R (l.map f) = ncl (fun a b => R (f a) (f b)) l := by
 induction l with
 | nil => rfl
 | cons a r ih => {
 have e : (∃ b ∈ r.map f, R (f a) b) ↔ ∃ b ∈ r, R (f a) (f b) := by {
 constructor
 {
 rintro ⟨b, hb, hr⟩
 obtain ⟨c, hc, rfl⟩ := List.mem_map.1 hb
 exact ⟨c, hc, hr⟩
 }
 · rintro ⟨c, hc, hr⟩; exact ⟨f c, List.mem_map.2 ⟨c, hc, rfl⟩, hr⟩
 }
 simp only [List.map_cons, ncl, ih, e]
 }
theorem ncl_congr (h : ∀ a ∈ l, ∀ b ∈ l, R a b ↔ R' a b) : ncl R l = ncl R' l := by
 induction l with
 | nil => rfl
 | cons a r ih => {
 have e : (∃ b ∈ r, R a b) ↔ ∃ b ∈ r, R' a b := ⟨fun ⟨b, hb, hr⟩ => ⟨b, hb, (h a (by simp) b (by simp [hb])).1 hr⟩, fun ⟨b, hb, hr⟩ => ⟨b, hb, (h a (by simp) b (by simp [hb])).2 hr⟩⟩
 simp only [ncl, ih fun a ha b hb => h a (by simp [ha]) b (by simp [hb]), e]
 }
theorem ncl_snoc (hs : ∀ a b, R a b → R b a) (ht : ∀ a b c, R a b → R b c → R a c) (l : List Nat) (a : Nat) : ncl R (l ++ [a]) = ncl R l + if ∃ b ∈ l, R a b then 0 else 1 := by
 rw [ncl_perm hs ht (List.perm_append_comm (l₁ := l) (l₂ := [a]))]
 rfl
theorem ncl_alone (h : ∀ a ∈ l, ∀ b, R a b → a = b) (hn : (l ++ m).Nodup) : ncl R (l ++ m) = l.length + ncl R m := by
 induction l with
 | nil => simp
 | cons a r ih => {
 rw [List.cons_append] at hn ⊢
 have hn' := List.nodup_cons.1 hn
 have e : ¬ ∃ b ∈ r ++ m, R a b := fun ⟨b, hb, hr⟩ => hn'.1 ((h a (by simp) b hr) ▸ hb)
 simp only [ncl, if_neg e, ih (fun b hb => h b (by simp [hb])) hn'.2, List.length_cons]
 omega
 }
end
section
variable {W : Wm} {f : Int} {a b u v : Nat}
theorem cx_rl (h : W.Ok) (hc : Cx W.G (AtLeast W.G f) a b) (hu : W.s.M.find u = some a) : ∃ v, W.s.M.find v = some b ∧ Rl W.s.L f u v := by
 induction hc with
 | refl => exact ⟨u, hu, .refl _⟩
 | step s x _ h1 h2 ih => {
 obtain ⟨v, hv, hr⟩ := ih
 obtain ⟨p, q, y, hy, hfy⟩ := h1
 rcases h2 with h2 | h2
 {
 rw [h2] at hy
 simp only [Option.some.injEq, Prod.mk.injEq] at hy
 obtain ⟨e, he, hs, e1, e2, ex⟩ := (h.lk.g _ _ _ _).1 h2
 exact ⟨e.v, e2, .step e hr he (by omega) (.inl ⟨find_inj h.ok.md e1 hv, rfl⟩)⟩
 }
 {
 rw [h2] at hy
 simp only [Option.some.injEq, Prod.mk.injEq] at hy
 obtain ⟨e, he, hs, e1, e2, ex⟩ := (h.lk.g _ _ _ _).1 h2
 exact ⟨e.u, e1, .step e hr he (by omega) (.inr ⟨rfl, find_inj h.ok.md e2 hv⟩)⟩
 }
 }
theorem rl_cx (h : W.Ok) (hc : Rl W.s.L f u v) (hu : W.s.M.find u = some a) : ∃ b, W.s.M.find v = some b ∧ Cx W.G (AtLeast W.G f) a b := by
 induction hc with
 | refl => exact ⟨a, hu, .refl _⟩
 | step e _ h1 h2 h3 ih => {
 obtain ⟨b, hb, hc⟩ := ih
 obtain ⟨p, hp⟩ := Option.isSome_iff_exists.1 (vert_mem h.ok h1 (x := e.u) (by simp [Lv.at]))
 obtain ⟨q, hq⟩ := Option.isSome_iff_exists.1 (vert_mem h.ok h1 (x := e.v) (by simp [Lv.at]))
 have hg : W.G e.slot = some (p, q, e.x) := (h.lk.g _ _ _ _).2 ⟨e, h1, rfl, hp, hq, rfl⟩
 rcases h3 with ⟨e1, e2⟩ | ⟨e1, e2⟩
 {
 have : b = p := by rw [← e1, hp] at hb; exact (Option.some.inj hb).symm
 subst this
 exact ⟨q, by rw [← e2]; exact hq, .step e.slot e.x hc ⟨_, _, _, hg, h2⟩ (.inl hg)⟩
 }
 {
 have : b = q := by rw [← e2, hq] at hb; exact (Option.some.inj hb).symm
 subst this
 exact ⟨p, by rw [← e1]; exact hp, .step e.slot e.x hc ⟨_, _, _, hg, h2⟩ (.inr hg)⟩
 }
 }
theorem cx_iff (h : W.Ok) (hu : W.s.M.find u = some a) (hv : W.s.M.find v = some b) : Cx W.G (AtLeast W.G f) a b ↔ Rl W.s.L f u v := by
 constructor
 {
 intro hc
 obtain ⟨v', hv', hr⟩ := cx_rl h hc hu
 rw [find_inj h.ok.md hv hv']; exact hr
 }
 {
 intro hr
 obtain ⟨b', hb', hc⟩ := rl_cx h hr hu
 rw [hv] at hb'
 rw [Option.some.inj hb']; exact hc
 }
theorem cx_all (h : W.Ok) (a b : Nat) : Cx W.G (fun _ => True) a b ↔ Cx W.G (AtLeast W.G allT) a b := by
 constructor
 {
 refine fun hc => hc.mono fun t e _ he => ?_
 obtain ⟨p, q, x⟩ := e
 refine ⟨p, q, x, he, ?_⟩
 obtain ⟨d, hd, _, _, _, hx⟩ := (h.lk.g _ _ _ _).1 he
 have h1 := (h.x d hd).2.2.2
 have h2 := h.n0
 unfold allT; omega
 }
 · exact fun hc => hc.mono fun _ _ _ _ => trivial
theorem cxT_iff (h : W.Ok) (hu : W.s.M.find u = some a) (hv : W.s.M.find v = some b) : Cx W.G (fun _ => True) a b ↔ Rl W.s.L allT u v := by
 rw [cx_all h, cx_iff h hu hv]
theorem until_iff (h : W.Ok) {r : Int} (hu : W.s.M.find u = some a) (hv : W.s.M.find v = some b) : IsUntil W.G a b r ↔ (Rl W.s.L r u v ∧ ¬ Rl W.s.L (r + 1) u v) := by
 have e : Beyond W.G r = AtLeast W.G (r + 1) := by rw [atLeast_beyond]; congr 1; omega
 unfold IsUntil
 rw [e, cx_iff h hu hv, cx_iff h hu hv]
theorem find_inL (h : W.Ok) (u : Nat) : (W.s.M.find u).isSome = true ↔ inL W.s.L u := by
 rw [h.ok.vert]
 constructor
 {
 intro hn
 obtain ⟨k, hk⟩ := List.exists_mem_of_ne_nil _ hn
 obtain ⟨e, he, hat, _⟩ := mem_incL.1 hk
 exact ⟨e, he, hat⟩
 }
 {
 rintro ⟨e, he, hat⟩
 exact List.ne_nil_of_mem (mem_incL.2 ⟨e, he, hat, rfl⟩)
 }
end
def insN (x : Nat) : List Nat → List Nat
  | [] => [x]
  | a :: r => if x = a then a :: r else if x < a then x :: a :: r else a :: insN x r
theorem insN_mem {x y : Nat} {l : List Nat} : y ∈ insN x l ↔ y = x ∨ y ∈ l := by
 induction l with
 | nil => simp [insN]
 | cons a r ih => {
 unfold insN
 by_cases h1 : x = a
 {
 rw [if_pos h1, List.mem_cons]
 constructor
 · exact fun h => .inr h
 {
 rintro (rfl | h)
 · exact .inl h1
 · exact h
 }
 }
 {
 rw [if_neg h1]
 by_cases h2 : x < a
 · rw [if_pos h2, List.mem_cons]
 {
 rw [if_neg h2, List.mem_cons, List.mem_cons, ih]
 constructor
 {
 rintro (h | h | h)
 · exact .inr (.inl h)
 · exact .inl h
 · exact .inr (.inr h)
 }
 {
 rintro (h | h | h)
 · exact .inr (.inl h)
 · exact .inl h
 · exact .inr (.inr h)
 }
 }
 }
 }
theorem insN_lt {x : Nat} {l : List Nat} (h : l.Pairwise (· < ·)) : (insN x l).Pairwise (· < ·) := by
 induction l with
 | nil => simp [insN]
 | cons a r ih => {
 have h' := List.pairwise_cons.1 h
 unfold insN
 by_cases h1 : x = a
 · rw [if_pos h1]; exact h
 {
 rw [if_neg h1]
 by_cases h2 : x < a
 {
 rw [if_pos h2]
 refine List.pairwise_cons.2 ⟨fun y hy => ?_, h⟩
 rcases List.mem_cons.1 hy with rfl | hy
 · exact h2
 · have := h'.1 y hy; omega
 }
 {
 rw [if_neg h2]
 refine List.pairwise_cons.2 ⟨fun y hy => ?_, ih h'.2⟩
 rcases insN_mem.1 hy with rfl | hy
 · omega
 · exact h'.1 y hy
 }
 }
 }
theorem lt_ext {l m : List Nat} (hl : l.Pairwise (· < ·)) (hm : m.Pairwise (· < ·)) (h : ∀ x, x ∈ l ↔ x ∈ m) : l = m := by
 refine List.Perm.eq_of_pairwise (le := fun x y : Nat => x < y) (fun a b _ _ h1 h2 => by omega) hl hm ?_
 rw [List.perm_ext_iff_of_nodup (hl.imp fun h => Nat.ne_of_lt h) (hm.imp fun h => Nat.ne_of_lt h)]
 exact h
def idsL (L : List Lv) : List Nat := L.foldl (fun o e => insN e.v (insN e.u o)) []
theorem idsF (L : List Lv) : ∀ o : List Nat, o.Pairwise (· < ·) → (L.foldl (fun o e => insN e.v (insN e.u o)) o).Pairwise (· < ·) ∧ ∀ x, x ∈ L.foldl (fun o e => insN e.v (insN e.u o)) o ↔ x ∈ o ∨ inL L x := by
 induction L with
 | nil => intro o ho; exact ⟨ho, fun x => by simp [inL]⟩
 | cons e r ih => {
 intro o ho
 obtain ⟨h1, h2⟩ := ih _ (insN_lt (x := e.v) (insN_lt (x := e.u) ho))
 refine ⟨h1, fun x => ?_⟩
 rw [List.foldl_cons, h2, insN_mem, insN_mem]
 unfold inL
 simp only [List.mem_cons, exists_eq_or_imp, Lv.at, Bool.or_eq_true, beq_iff_eq]
 constructor
 {
 rintro ((h | h | h) | h)
 · exact .inr (.inl (.inr h.symm))
 · exact .inr (.inl (.inl h.symm))
 · exact .inl h
 · exact .inr (.inr h)
 }
 {
 rintro (h | (h | h) | h)
 · exact .inl (.inr (.inr h))
 · exact .inl (.inr (.inl h.symm))
 · exact .inl (.inl h.symm)
 · exact .inr h
 }
 }
theorem idsL_lt (L : List Lv) : (idsL L).Pairwise (· < ·) := (idsF L [] .nil).1
theorem idsL_mem {L : List Lv} {x : Nat} : x ∈ idsL L ↔ inL L x := by
 have h := (idsF L [] .nil).2 x
 unfold idsL
 rw [h]
 simp
theorem idsL_nodup (L : List Lv) : (idsL L).Nodup := (idsL_lt L).imp fun h => Nat.ne_of_lt h
theorem idsL_core (L : List Lv) : idsL (L.map core) = idsL L :=
  lt_ext (idsL_lt _) (idsL_lt _) fun x => by rw [idsL_mem, idsL_mem, inL_core]
section
variable {W : Wm}
theorem Wm.Ok.ids_eq (h : W.Ok) : W.s.ids = idsL W.s.L := by
 refine lt_ext (sortN_lt h.ok.md.ids) (idsL_lt _) fun x => ?_
 rw [show W.s.ids = sortN (W.s.M.L.map (·.1)) from rfl, sortN_mem, mem_ids_find h.ok.md, find_inL h, idsL_mem]
theorem Wm.Ok.ids_len (h : W.Ok) : W.s.M.L.length = (idsL W.s.L).length := by rw [← h.ids_eq, Sm.ids_len]
theorem Wm.Ok.ids_perm (h : W.Ok) : (W.s.M.L.map (·.1)).Perm (idsL W.s.L) := by
 rw [← h.ids_eq]; exact (sortN_perm _).symm
theorem Wm.Ok.idx (h : W.Ok) {u a : Nat} (hu : W.s.M.find u = some a) : a < W.V := by
 have := Sm.idx_lt h.ok hu
 rw [h.hV] at this
 exact this
theorem cnt_ids (h : W.Ok) {T P : Nat → Prop} (hT : ∀ i, T i ↔ ∃ u, W.s.M.find u = some i ∧ P u) : cntT W.V T = ((idsL W.s.L).filter fun u => decide (P u)).length := by
 have h1 : ((List.range W.V).filter fun i => decide (T i)).Perm ((W.s.M.L.filter fun p => decide (P p.1)).map (·.2)) := by {
 rw [List.perm_ext_iff_of_nodup (List.nodup_range.filter _) ((List.Sublist.map _ List.filter_sublist).nodup h.ok.md.idx)]
 intro i
 simp only [List.mem_filter, List.mem_range, decide_eq_true_eq, List.mem_map]
 constructor
 {
 rintro ⟨_, ht⟩
 obtain ⟨u, hu, hp⟩ := (hT i).1 ht
 exact ⟨(u, i), ⟨Md.find_mem hu, hp⟩, rfl⟩
 }
 {
 rintro ⟨⟨u, j⟩, ⟨hm, hp⟩, rfl⟩
 have hu := (Md.find_iff h.ok.md).2 hm
 exact ⟨h.idx hu, (hT _).2 ⟨u, hu, hp⟩⟩
 }
 }
 unfold cntT
 rw [h1.length_eq, List.length_map]
 have h2 := (h.ids_perm.filter fun u => decide (P u)).length_eq
 rw [← h2, List.filter_map, List.length_map]
 rfl
theorem size_ids (h : W.Ok) {u a : Nat} (hu : W.s.M.find u = some a) : cxs W.V W.G (fun _ => True) a = ((idsL W.s.L).filter fun v => decide (Rl W.s.L allT u v)).length := by
 refine cnt_ids h fun i => ?_
 rw [cx_all h]
 constructor
 · exact fun hc => cx_rl h hc hu
 {
 rintro ⟨v, hv, hr⟩
 exact (cx_iff h hu hv).2 hr
 }
theorem lead_ncl (G : EMap) (T : Nat → Prop) (n : Nat) : cntT n (Lead G T) = ncl (Cx G T) (List.range n) := by
 induction n with
 | zero => rfl
 | succ n ih => {
 rw [List.range_succ, ncl_snoc (fun _ _ h => h.symm) (fun _ _ _ h1 h2 => h1.trans h2), ← ih]
 unfold cntT
 rw [List.range_succ, List.filter_append, List.length_append]
 congr 1
 by_cases hl : Lead G T n
 {
 have : ¬ ∃ b ∈ List.range n, Cx G T n b := fun ⟨b, hb, hc⟩ => hl b (List.mem_range.1 hb) hc
 rw [if_neg this]
 simp [hl]
 }
 {
 have : ∃ b ∈ List.range n, Cx G T n b := by {
 apply Classical.byContradiction
 intro hn
 exact hl fun b hb hc => hn ⟨b, List.mem_range.2 hb, hc⟩
 }
 rw [if_pos this]
 simp [hl]
 }
 }
theorem comps_ids (h : W.Ok) : compG W.V W.G + W.s.M.L.length = W.V + ncl (Rl W.s.L allT) (idsL W.s.L) := by
 unfold compG
 rw [lead_ncl]
 have hp : (List.range W.V).Perm (((List.range W.V).filter fun i => decide (i ∉ W.s.M.L.map (·.2))) ++ W.s.M.L.map (·.2)) := by {
 rw [List.perm_ext_iff_of_nodup List.nodup_range]
 {
 intro i
 simp only [List.mem_append, List.mem_filter, List.mem_range, decide_eq_true_eq]
 constructor
 {
 intro hi
 by_cases hm : i ∈ W.s.M.L.map (·.2)
 · exact .inr hm
 · exact .inl ⟨hi, hm⟩
 }
 {
 rintro (hi | hm)
 · exact hi.1
 {
 obtain ⟨⟨u, j⟩, hm2, rfl⟩ := List.mem_map.1 hm
 exact h.idx ((Md.find_iff h.ok.md).2 hm2)
 }
 }
 }
 {
 rw [List.nodup_append]
 refine ⟨List.nodup_range.filter _, h.ok.md.idx, fun a ha b hb e => ?_⟩
 subst e
 exact (of_decide_eq_true (List.mem_filter.1 ha).2) hb
 }
 }
 have hlen := hp.length_eq
 rw [List.length_range, List.length_append, List.length_map] at hlen
 rw [ncl_perm (fun _ _ h => h.symm) (fun _ _ _ h1 h2 => h1.trans h2) hp, ncl_alone]
 {
 have e1 : W.s.M.L.map (·.2) = (W.s.M.L.map (·.1)).map fun u => (W.s.M.find u).getD 0 := by {
 rw [List.map_map]
 refine List.map_congr_left fun p hm => ?_
 show p.2 = (W.s.M.find p.1).getD 0
 rw [(Md.find_iff h.ok.md).2 (show (p.1, p.2) ∈ _ from hm)]; rfl
 }
 have e2 : ncl (Cx W.G fun _ => True) (W.s.M.L.map (·.2)) = ncl (Rl W.s.L allT) (idsL W.s.L) := by {
 rw [e1, ncl_map, ← ncl_perm (fun _ _ h => h.symm) (fun _ _ _ h1 h2 => h1.trans h2) h.ids_perm]
 refine ncl_congr fun a ha b hb => ?_
 obtain ⟨i, hi⟩ := Option.isSome_iff_exists.1 ((mem_ids_find h.ok.md).1 ha)
 obtain ⟨j, hj⟩ := Option.isSome_iff_exists.1 ((mem_ids_find h.ok.md).1 hb)
 rw [hi, hj]
 exact cxT_iff h hi hj
 }
 rw [e2]
 omega
 }
 {
 intro a ha b hc
 apply Classical.byContradiction
 intro hne
 have hn : a ∉ W.s.M.L.map (·.2) := of_decide_eq_true (List.mem_filter.1 ha).2
 obtain ⟨s, c, x, _, hs⟩ := hc.symm.first (Ne.symm hne)
 rcases hs with hs | hs
 {
 obtain ⟨e, he, _, e1, e2, _⟩ := (h.lk.g _ _ _ _).1 hs
 exact hn (List.mem_map.2 ⟨_, Md.find_mem e2, rfl⟩)
 }
 {
 obtain ⟨e, he, _, e1, e2, _⟩ := (h.lk.g _ _ _ _).1 hs
 exact hn (List.mem_map.2 ⟨_, Md.find_mem e1, rfl⟩)
 }
 }
 · exact hp.nodup_iff.1 List.nodup_range
end
noncomputable def connI (L : List Lv) (u v : Nat) : Bool := decide (inL L u ∧ inL L v ∧ Rl L allT u v)
noncomputable def codeI (L : List Lv) (u v : Nat) : Int := if inL L u ∧ inL L v then 0 else 13
noncomputable def sizeI (L : List Lv) (u : Nat) : Nat := if inL L u then ((idsL L).filter fun v => decide (Rl L allT u v)).length else 0
noncomputable def compI (L : List Lv) : Nat := ncl (Rl L allT) (idsL L)
noncomputable def untB (L : List Lv) (u v : Nat) : Bool := decide (inL L u ∧ inL L v ∧ u ≠ v ∧ Rl L allT u v)
def IsUnt (L : List Lv) (u v : Nat) (r : Int) : Prop := Rl L r u v ∧ ¬ Rl L (r + 1) u v
theorem isUnt_one {L : List Lv} {u v : Nat} {r r' : Int} (h : IsUnt L u v r) (h' : IsUnt L u v r') : r = r' := by
 have key : ∀ {r r' : Int}, IsUnt L u v r → IsUnt L u v r' → ¬ r < r' := fun h h' hlt => h.2 (h'.1.less (by omega))
 have := key h h'
 have := key h' h
 omega
noncomputable def untR (L : List Lv) (u v : Nat) : Int := if h : untB L u v = true ∧ ∃ r, IsUnt L u v r then Classical.choose h.2 else 0
theorem untR_eq {L : List Lv} {u v : Nat} {r : Int} (hb : untB L u v = true) (h : IsUnt L u v r) : untR L u v = r := by
 have hx : untB L u v = true ∧ ∃ r, IsUnt L u v r := ⟨hb, r, h⟩
 unfold untR; rw [dif_pos hx]
 exact isUnt_one (Classical.choose_spec hx.2) h
theorem untR_no {L : List Lv} {u v : Nat} (hb : untB L u v = false) : untR L u v = 0 := by
 unfold untR; rw [dif_neg fun h => by rw [hb] at h; cases h.1]
section
variable (L : List Lv) (u v : Nat)
theorem connI_core : connI (L.map core) u v = connI L u v := by unfold connI; simp only [inL_core, rl_core]
theorem codeI_core : codeI (L.map core) u v = codeI L u v := by unfold codeI; simp only [inL_core]
theorem sizeI_core : sizeI (L.map core) u = sizeI L u := by unfold sizeI; simp only [inL_core, rl_core, idsL_core]
theorem compI_core : compI (L.map core) = compI L := by
 unfold compI; rw [idsL_core]
 exact ncl_congr fun a _ b _ => rl_core
theorem untB_core : untB (L.map core) u v = untB L u v := by unfold untB; simp only [inL_core, rl_core]
theorem untR_core : untR (L.map core) u v = untR L u v := by unfold untR IsUnt; simp only [untB_core, rl_core]
end
structure Ob where
  m : Int
  E : Nat
  V : Nat
  D : Int
  now : Int
  L : List Lv
  last : Nat
  gone : Nat
def Wm.ob (X : Wm) : Ob := ⟨X.m, X.E, X.V, X.D, X.now, X.s.L.map core, X.s.last, X.gone⟩
namespace Ob
def left (o : Ob) (to : Int) : List Lv := o.L.filter fun e => decide (to < e.x)
def tick (o : Ob) (to : Int) : Ob := { o with now := to, L := o.left to, gone := o.gone + (o.L.length - (o.left to).length) }
def put (o : Ob) (u v : Nat) (wt : Int) : Ob := { o with L := o.L ++ [⟨0, o.last + 1, u, v, wt, o.now, o.now + o.m⟩], last := o.last + 1 }
def idsUV (L : List Lv) (u v : Nat) : List Nat := insN v (insN u (idsL L))
def addC (o : Ob) (u v : Nat) (t : Int) : Nat :=
  if u = v then 9 else if t < o.now then 10 else if 9223372036854775807 < t + o.m ∨ 9223372036854775807 ≤ o.last then 7 else if o.E ≤ (o.left t).length then 12 else if o.V < (idsUV (o.left t) u v).length then 11 else 0
def add (o : Ob) (u v : Nat) (wt t : Int) : Ob := if o.addC u v t = 0 then (o.tick t).put u v wt else o
def tickS (o : Ob) (to : Int) : Ob := if chkT o.m o.now to = 0 then o.tick to else o
def new (m : Int) (E V : Nat) (D : Int) (g : Nat) : Ob := ⟨m, E, V, D, 0, [], g, g⟩
structure Ok (o : Ob) : Prop where
  x : ∀ e ∈ o.L, e.x = e.t + o.m ∧ 0 ≤ e.t ∧ e.t ≤ o.now ∧ o.now < e.x
  mono : o.L.Pairwise fun a b => a.t ≤ b.t
  num : ∀ i (h : i < o.L.length), (o.L[i]).seq = o.gone + i + 1
  last : o.last = o.gone + o.L.length
  max : o.last ≤ 9223372036854775807
  m1 : 1 ≤ o.m
  m2 : o.m ≤ 9223372036854775807
  n0 : 0 ≤ o.now
  n1 : o.now + o.m ≤ 9223372036854775807
  ne : ∀ e ∈ o.L, e.u ≠ e.v
  u64 : ∀ e ∈ o.L, e.u < 18446744073709551616 ∧ e.v < 18446744073709551616
  leE : o.L.length ≤ o.E
  leV : (idsL o.L).length ≤ o.V
  mE : o.E ≤ 16384
  mV : o.V ≤ 4096
  sl : ∀ e ∈ o.L, e.slot = 0
end Ob
section
variable {X : Wm}
theorem ob_len (X : Wm) : X.ob.L.length = X.s.L.length := List.length_map _
theorem Wm.Ok.lenE (h : X.Ok) : X.s.L.length ≤ X.E := by
 have h1 := Sm.len_used h.ok
 have h2 := h.ok.ar.hb
 have h3 := h.ok.sl
 have h4 := h.hE
 unfold Ar.used at h1
 omega
theorem Wm.Ok.lenV (h : X.Ok) : (idsL X.s.L).length ≤ X.V := by
 rw [← h.ids_len]
 have h1 := h.ok.md.cnt; have h2 := h.ok.md.ar.hb; have h3 := h.ok.ms; have h4 := h.hV
 have h6 : X.s.M.ar.slots = X.s.M.slots := rfl
 have h7 : X.s.M.ar.begun = X.s.M.given := rfl
 omega
theorem Wm.Ok.ob (h : X.Ok) : X.ob.Ok := by
 have hm : ∀ e ∈ X.ob.L, ∃ d ∈ X.s.L, core d = e := fun e he => List.mem_map.1 he
 refine ⟨fun e he => ?_, ?_, fun i hi => ?_, ?_, h.max, h.m1, h.m2, h.n0, h.n1, fun e he => ?_, fun e he => ?_, ?_, ?_, ?_, ?_, fun e he => ?_⟩
 {
 obtain ⟨d, hd, rfl⟩ := hm e he
 exact h.x d hd
 }
 · exact List.pairwise_map.2 h.mono
 {
 have hi' : i < X.s.L.length := by rw [← ob_len]; exact hi
 have e : X.ob.L[i]'hi = core (X.s.L[i]'hi') := List.getElem_map ..
 rw [e]
 exact h.num i hi'
 }
 · rw [ob_len]; exact h.last
 {
 obtain ⟨d, hd, rfl⟩ := hm e he
 exact h.ok.ne d hd
 }
 {
 obtain ⟨d, hd, rfl⟩ := hm e he
 exact h.ok.u64 d hd
 }
 · rw [ob_len]; exact h.lenE
 · rw [show X.ob.L = X.s.L.map core from rfl, idsL_core]; exact h.lenV
 · show X.E ≤ _; rw [← h.hE]; exact h.ok.leE
 · show X.V ≤ _; rw [← h.hV]; exact h.ok.leV
 {
 obtain ⟨d, hd, rfl⟩ := hm e he
 rfl
 }
theorem core_filter (L : List Lv) (to : Int) : (L.map core).filter (fun e => decide (to < e.x)) = (L.filter fun e => decide (to < e.x)).map core := by
 rw [List.filter_map]; rfl
theorem ob_tick (h : X.Ok) {to : Int} {ds : List Nat} {Q' : Nat → Option Int} (hm : Mins to X.Q ds Q') : (X.tick to ds Q').ob = X.ob.tick to := by
 obtain ⟨k1, k2, k3, k4⟩ := hm.law h.lk h.ok
 have e1 : ((X.s.rems ds).L.map core) = X.ob.left to := by rw [k2]; exact (core_filter X.s.L to).symm
 have e2 : (X.ob.left to).length = (X.s.rems ds).L.length := by rw [← e1, List.length_map]
 have e3 : X.gone + ds.length = X.gone + (X.ob.L.length - (X.ob.left to).length) := by rw [e2, ob_len]; omega
 have e4 : (X.s.rems ds).last = X.s.last := (rems_keep X.s ds).2.2
 show Ob.mk _ _ _ _ _ ((X.s.rems ds).L.map core) (X.s.rems ds).last (X.gone + ds.length) = _
 rw [e1, e3, e4]
 rfl
theorem ob_put (u v : Nat) (wt : Int) (a b : Nat) : (X.put u v wt a b).ob = X.ob.put u v wt := by
 show Ob.mk _ _ _ _ _ ((X.s.L ++ [X.s.edge u v wt X.now (X.now + X.m)]).map core) (X.s.last + 1) _ = _
 rw [List.map_append]
 rfl
theorem idsUV_len (h : X.s.Ok) (u v : Nat) (hne : u ≠ v) (hi : ∀ x, (X.s.M.find x).isSome = true ↔ inL X.s.L x) : X.s.M.L.length + X.s.more u v = (Ob.idsUV (X.s.L.map core) u v).length := by
 have h1 : X.s.M.L.length + X.s.more u v = (withUV X.s.M u v).length := by rw [withUV_len]; rfl
 rw [h1]
 apply List.Perm.length_eq
 unfold Ob.idsUV
 rw [List.perm_ext_iff_of_nodup (withUV_nodup h.md hne) ((insN_lt (insN_lt (idsL_lt _))).imp fun h => Nat.ne_of_lt h)]
 intro x
 rw [withUV_mem h.md, insN_mem, insN_mem, idsL_mem, inL_core, hi]
 constructor
 {
 rintro (h | h | h)
 · exact .inr (.inr h)
 · exact .inr (.inl h)
 · exact .inl h
 }
 {
 rintro (h | h | h)
 · exact .inr (.inr h)
 · exact .inr (.inl h)
 · exact .inl h
 }
theorem chk_ob (h : X.Ok) (u v : Nat) (hne : u ≠ v) : X.s.chk u v = if X.E ≤ X.ob.L.length then 12 else if X.V < (Ob.idsUV X.ob.L u v).length then 11 else 0 := by
 unfold Sm.chk
 rw [if_neg hne, Sm.len_used h.ok, h.hE, h.hV, idsUV_len h.ok u v hne (find_inL h), ob_len]
 rfl
theorem addC_tick (h : X.Ok) {u v : Nat} {t : Int} (hne : u ≠ v) (hc : chkT X.m X.now t = 0) (hl : X.s.last < 9223372036854775807) {ds : List Nat} {Q' : Nat → Option Int} (hm : Mins t X.Q ds Q') : X.ob.addC u v t = (X.s.rems ds).chk u v := by
 obtain ⟨h1, h2⟩ := chkT_ok hc
 have hk := (Wm.tick_ok h h1 h2 hm).1
 have e := chk_ob hk u v hne
 rw [ob_tick h hm] at e
 show _ = (X.tick t ds Q').s.chk u v
 rw [e]
 unfold Ob.addC
 rw [if_neg hne, if_neg (show ¬ t < X.ob.now from by show ¬ t < X.now; omega), if_neg (show ¬ (9223372036854775807 < t + X.ob.m ∨ 9223372036854775807 ≤ X.ob.last) from by show ¬ (9223372036854775807 < t + X.m ∨ 9223372036854775807 ≤ X.s.last); omega)]
 rfl
end
end Go.Proofs.YtgmnemndjjmgkaaGreat
namespace Go.Proofs.YtgmnemndjjmgkaaGreat
open Go.RowKit
structure Th where
  P : World → List Nat → Prop
  lt : ∀ {w : World} {K : List Nat}, P w K → ∀ q ∈ K, q < w.heap.size
  fr : ∀ {w w' : World} {K S : List Nat}, P w K → Fr S w w' → (∀ q ∈ K, q ∉ S) → P w' K
def Hs (n : Nat) (w : World) : List Th → List Nat → Prop
  | [], K => K = []
  | t :: ts, K => ∃ K1 K2, t.P w K1 ∧ (∀ q ∈ K1, n ≤ q) ∧ Hs n w ts K2 ∧ (∀ q ∈ K1, q ∉ K2) ∧ K = K1 ++ K2
section
variable {n : Nat} {w w' : World} {ts : List Th} {K S : List Nat}
theorem Hs.lt : ∀ {ts : List Th} {K : List Nat}, Hs n w ts K → ∀ q ∈ K, n ≤ q ∧ q < w.heap.size
  | [], K, h => by rw [show K = [] from h]; simp
  | t :: ts, K, h => by
    obtain ⟨K1, K2, h1, h2, h3, _, rfl⟩ := h
    intro q hq
    rcases List.mem_append.1 hq with hq | hq
    · exact ⟨h2 q hq, t.lt h1 q hq⟩
    · exact Hs.lt h3 q hq
theorem Hs.fr (hf : Fr S w w') : ∀ {ts : List Th} {K : List Nat}, Hs n w ts K → (∀ q ∈ K, q ∉ S) → Hs n w' ts K
  | [], _, h, _ => h
  | t :: ts, K, h, hs => by
    obtain ⟨K1, K2, h1, h2, h3, h4, rfl⟩ := h
    exact ⟨K1, K2, t.fr h1 hf (fun q hq => hs q (List.mem_append.2 (.inl hq))), h2, Hs.fr hf h3 (fun q hq => hs q (List.mem_append.2 (.inr hq))), h4, rfl⟩
end
def Wd (W wr : World) (ts : List Th) : Prop := Fr [] W wr ∧ ∃ K, Hs W.heap.size wr ts K
def Stp (w w' : World) (K : List Nat) (t : Th) : Prop := ∃ K', t.P w' K' ∧ Fr K w w' ∧ ∀ q ∈ K', q ∈ K ∨ w.heap.size ≤ q
section
variable {W wr w' : World} {t t' a b c : Th} {ts : List Th} {K : List Nat}
theorem Wd.frm (h : Wd W wr ts) : Fr [] W wr := h.1
theorem Wd.fr0 (h : Wd W wr ts) (hf : Fr [] wr w') : Wd W w' ts := by
 obtain ⟨h1, K, h2⟩ := h
 exact ⟨h1.trans' hf, K, h2.fr hf (by simp)⟩
theorem Wd.drop (h : Wd W wr (t :: ts)) : Wd W wr ts := by
 obtain ⟨h1, K, K1, K2, _, _, h2, _⟩ := h
 exact ⟨h1, K2, h2⟩
theorem Wd.get (h : Wd W wr (t :: ts)) : ∃ K, t.P wr K := by
 obtain ⟨_, K, K1, K2, h, _⟩ := h
 exact ⟨K1, h⟩
theorem Wd.open (h : Wd W wr (t :: ts)) : ∃ K, t.P wr K ∧ ∀ {w' : World} {t' : Th}, Stp wr w' K t' → Wd W w' (t' :: ts) := by
 obtain ⟨h1, K, K1, K2, h2, h3, h4, h5, rfl⟩ := h
 refine ⟨K1, h2, ?_⟩
 rintro w' t' ⟨K', k1, k2, k3⟩
 have hs := h1.size
 have hs2 := k2.size
 refine ⟨h1.trans k2 (fun q hq => .inr (h3 q hq)), K' ++ K2, K', K2, k1, fun q hq => ?_, h4.fr k2 (fun q hq hm => h5 q hm hq), fun q hq hm => ?_, rfl⟩
 {
 rcases k3 q hq with e | e
 · exact h3 q e
 · omega
 }
 {
 rcases k3 q hq with e | e
 · exact h5 q e hm
 · have := h4.lt q hm; omega
 }
theorem Wd.new (h : Wd W wr ts) (hf : Fr [] wr w') (hp : t.P w' K) (hk : ∀ q ∈ K, wr.heap.size ≤ q) : Wd W w' (t :: ts) := by
 obtain ⟨h1, K2, h2⟩ := h
 have hs := h1.size
 refine ⟨h1.trans' hf, K ++ K2, K, K2, hp, fun q hq => ?_, h2.fr hf (by simp), fun q hq hm => ?_, rfl⟩
 · have := hk q hq; omega
 {
 have := hk q hq
 have := h2.lt q hm
 omega
 }
theorem Wd.swap (h : Wd W wr (a :: b :: ts)) : Wd W wr (b :: a :: ts) := by
 obtain ⟨h1, K, K1, K2, h2, h3, ⟨K3, K4, h4, h5, h6, h7, rfl⟩, h8, rfl⟩ := h
 refine ⟨h1, K3 ++ (K1 ++ K4), K3, K1 ++ K4, h4, h5, ⟨K1, K4, h2, h3, h6, fun q hq hm => h8 q hq (List.mem_append.2 (.inr hm)), rfl⟩, fun q hq hm => ?_, rfl⟩
 rcases List.mem_append.1 hm with e | e
 · exact h8 q e (List.mem_append.2 (.inl hq))
 · exact h7 q hq e
theorem Wd.under (h : Wd W wr (t :: ts)) {us : List Th} (hu : ∀ K, Hs W.heap.size wr ts K → ∃ K', Hs W.heap.size wr us K' ∧ ∀ q ∈ K', q ∈ K) : Wd W wr (t :: us) := by
 obtain ⟨h1, K, K1, K2, h2, h3, h4, h5, rfl⟩ := h
 obtain ⟨K', k1, k2⟩ := hu K2 h4
 exact ⟨h1, K1 ++ K', K1, K', h2, h3, k1, fun q hq hm => h5 q hq (k2 q hm), rfl⟩
theorem Wd.drop2 (h : Wd W wr (a :: b :: ts)) : Wd W wr (a :: ts) := h.swap.drop
theorem Hs.swap {n : Nat} (h : Hs n wr (a :: b :: ts) K) : ∃ K', Hs n wr (b :: a :: ts) K' ∧ ∀ q ∈ K', q ∈ K := by
 obtain ⟨K1, K2, h2, h3, ⟨K3, K4, h4, h5, h6, h7, rfl⟩, h8, rfl⟩ := h
 refine ⟨K3 ++ (K1 ++ K4), ⟨K3, K1 ++ K4, h4, h5, ⟨K1, K4, h2, h3, h6, fun q hq hm => h8 q hq (List.mem_append.2 (.inr hm)), rfl⟩, fun q hq hm => ?_, rfl⟩, fun q hq => ?_⟩
 {
 rcases List.mem_append.1 hm with e | e
 · exact h8 q e (List.mem_append.2 (.inl hq))
 · exact h7 q hq e
 }
 {
 simp only [List.mem_append] at hq ⊢
 rcases hq with e | e | e
 · exact .inr (.inl e)
 · exact .inl e
 · exact .inr (.inr e)
 }
theorem Wd.third (h : Wd W wr (a :: b :: c :: ts)) : Wd W wr (c :: a :: b :: ts) := (h.under fun _ hk => Hs.swap hk).swap
theorem Wd.back3 (h : Wd W wr (a :: b :: c :: ts)) : Wd W wr (b :: c :: a :: ts) := h.swap.under fun _ hk => Hs.swap hk
theorem Wd.drop3 (h : Wd W wr (a :: b :: c :: ts)) : Wd W wr (a :: b :: ts) := h.third.drop
end
set_option maxRecDepth 10000
set_option maxHeartbeats 800000
section
variable {w w' : World} {pw pc ps px pf : Nat} {P : Wp} {Ks lx Lf : List Nat} {cl : Nat → Nat}
theorem wadded_w (h : WinB w pw pc ps px pf P Ks lx Lf cl) : Calls Tryz.prog 23 #[wptr pw] w fun e w' => e = .returned (.tuple #[.int .u64 P.added, .int .u64 P.gone]) ∧ Fr [] w w' := by
 have HV := Lib.hid (wvalid_w h)
 have c8 := h.hd.cell 8
 have c9 := h.hd.cell 9
 simp only [List.getElem?_cons_zero, List.getElem?_cons_succ] at c8 c9
 clear h
 go_enter Tryz.func23, Tryz.ntmps23
 go_wp2_with fail
 refine HV.out.mono ?_
 rintro _ w ⟨rfl, rfl⟩
 go_wp2_with fail
 go_quiet (fail)
 go_wp2
 go_ret2
 exact ⟨rfl, (Fr.refl _ _).drewN _⟩
theorem wversion_w (h : WinB w pw pc ps px pf P Ks lx Lf cl) (hs : P.added + P.gone < 18446744073709551616) : Calls Tryz.prog 22 #[wptr pw] w fun e w' => e = .returned (.int .u64 (P.added + P.gone : Nat)) ∧ Fr [] w w' := by
 have HV := Lib.hid (wvalid_w h)
 have c8 := h.hd.cell 8
 have c9 := h.hd.cell 9
 simp only [List.getElem?_cons_zero, List.getElem?_cons_succ] at c8 c9
 have hw : IntKind.u64.wrap ((P.added : Int) + P.gone) = (P.added : Int) + P.gone := by simp [IntKind.wrap, IntKind.bits, IntKind.signed]; omega
 clear h
 go_enter Tryz.func22, Tryz.ntmps22
 go_wp2_with fail
 refine HV.out.mono ?_
 rintro _ w ⟨rfl, rfl⟩
 go_wp2_with fail
 go_quiet (fail)
 go_wp2
 go_ret
 exact ⟨by rw [Int.natCast_add]; rfl, (Fr.refl _ _).drewN _⟩
end
end Go.Proofs.YtgmnemndjjmgkaaGreat
namespace Go.Proofs.YtgmnemndjjmgkaaGreat
open Go.RowKit Classical
set_option maxRecDepth 10000
set_option maxHeartbeats 800000
set_option maxHeartbeats 1600000
end Go.Proofs.YtgmnemndjjmgkaaGreat
namespace Go.Proofs.YtgmnemndjjmgkaaGreat
open Go.RowKit
set_option maxRecDepth 10000
set_option maxHeartbeats 1600000
section
variable {w w' : World} {pw pc ps px pf : Nat} {P : Wp} {Ks lx Lf : List Nat} {cl : Nat → Nat}
theorem wconfig_w (h : WinB w pw pc ps px pf P Ks lx Lf cl) : Calls Tryz.prog 33 #[wptr pw] w fun e w' => e = .returned (.agg #[.int .i64 P.m, .int .i64 P.E, .int .i64 P.V, .int .i64 P.D]) ∧ Fr [] w w' := by
 have h1 := h.fr0 ((Fr.refl [] w).alloc (.cells #[.int .i64 0, .int .i64 0, .int .i64 0, .int .i64 0] 55))
 have HV := Lib.hid (wvalid_w h1)
 have c0 := h1.hd.cell 0; have c1 := h1.hd.cell 1; have c2 := h1.hd.cell 2; have c3 := h1.hd.cell 3
 have hb := Blk.new w [.int .i64 P.m, .int .i64 P.E, .int .i64 P.V, .int .i64 P.D] 55
 have r0 := hb.cell 0; have r1 := hb.cell 1; have r2 := hb.cell 2; have r3 := hb.cell 3
 simp only [List.getElem?_cons_zero, List.getElem?_cons_succ] at c0 c1 c2 c3 r0 r1 r2 r3
 have HF := Lib.hid ((Fr.refl [] w).alloc (.cells #[.int .i64 P.m, .int .i64 P.E, .int .i64 P.V, .int .i64 P.D] 55))
 clear h h1 hb
 go_enter Tryz.func33, Tryz.ntmps33
 go_wp2_with fail
 refine HV.out.mono ?_
 rintro _ _ ⟨rfl, rfl⟩
 go_wp2
 exact bodyPost_ret (v := .agg #[.int .i64 P.m, .int .i64 P.E, .int .i64 P.V, .int .i64 P.D]) (by simp [results, Tryz.results33, go_sem, r0, r1, r2, r3]) rfl ⟨rfl, HF.out⟩
noncomputable def wsizeV (P : Wp) (u : Nat) : Int := if endsC P.s u u = 0 then sizeG P.V P.G (endsI P.s u u) else 0
theorem wsize_w (h : WinB w pw pc ps px pf P Ks lx Lf cl) (u : Nat) (hu : u < 18446744073709551616) :
    Calls Tryz.prog 26 #[wptr pw, .int .u64 u] w fun e w' => e = .returned (.tuple #[.int .i64 (wsizeV P u), .int .i64 (endsC P.s u u)]) ∧ WMv w w' pw pc ps px pf P Ks lx Lf := by
 have HE := Lib.hid (wends_w h u u hu hu)
 have HB := Lib.hid h
 have HC := Lib.hid (fun (w' : World) (hf : Fr [] w w') => fa_size (h.fo.fr hf (by simp)) (endsI P.s u u))
 have c7 := h.hd.cell 7
 simp only [List.getElem?_cons_zero, List.getElem?_cons_succ] at c7
 clear h
 unfold wsizeV
 by_cases hc : endsC P.s u u = 0
 {
 rw [if_pos hc, hc]
 rw [hc] at HE
 generalize sizeG P.V P.G (endsI P.s u u) = tt at *
 generalize endsI P.s u u = a at *
 clear hc
 go_enter Tryz.func26, Tryz.ntmps26
 go_wp2_with fail
 refine HE.out.mono ?_
 rintro _ w1 ⟨rfl, hF1⟩
 have c7 := hF1.cell c7 (by simp)
 have HC1 := Lib.hid (HC.out w1 hF1)
 have HF1 := Lib.hid hF1; clear hF1 HC HE
 go_wp2_with fail
 refine HC1.out.mono ?_
 rintro _ w2 ⟨rfl, hM⟩
 have HM := Lib.hid (HB.out.mv HF1.out hM); clear hM
 go_wp2
 go_ret2
 exact ⟨rfl, HM.out⟩
 }
 {
 rw [if_neg hc]
 generalize endsC P.s u u = cc at *
 generalize endsI P.s u u = a at *
 have d1 : (cc != 0) = true := by simp [hc]
 clear hc HC
 go_enter Tryz.func26, Tryz.ntmps26
 go_wp2_with fail
 refine HE.out.mono ?_
 rintro _ w1 ⟨rfl, hF1⟩
 have HF1 := Lib.hid hF1; clear hF1 HE
 go_wp2
 go_ret2
 exact ⟨rfl, HB.out.mv0 HF1.out⟩
 }
end
structure CpS (w wr : World) (b : Nat) (l : List Value) : Prop where
  hd : Blk wr b 83 l
  fr : Fr [] w wr
  lb : w.heap.size = b
section
variable {w wr w' : World} {b : Nat} {l : List Value}
end
section
variable {w w' : World} {pw pc ps px pf : Nat} {P : Wp} {Ks lx Lf : List Nat} {cl : Nat → Nat}
end
end Go.Proofs.YtgmnemndjjmgkaaGreat
namespace Go.Proofs.YtgmnemndjjmgkaaGreat
open Go.RowKit Classical
set_option maxRecDepth 10000
set_option maxHeartbeats 800000
def thO (p : Nat) (o : Ob) : Th := ⟨fun w K => ∃ X, X.ob = o ∧ WinAt w p X K, fun ⟨_, _, h⟩ => h.lt, fun ⟨X, e, h⟩ hf hs => ⟨X, e, h.fr hf hs⟩⟩
def thV (v : Value) (l : List Lv) : Th := ⟨fun w K => RowV w v l ∧ K = v.ownBlock.toList, fun ⟨h, e⟩ q hq => h.lt (by simpa [e] using hq), fun ⟨h, e⟩ hf hs => ⟨h.fr hf (fun q hq => hs q (by simp [e, hq])), e⟩⟩
def thU (v : Value) (l : List Nat) : Th := ⟨fun w K => RowU w v l ∧ K = v.ownBlock.toList, fun ⟨h, e⟩ q hq => h.lt (by simpa [e] using hq), fun ⟨h, e⟩ hf hs => ⟨h.fr hf (fun q hq => hs q (by simp [e, hq])), e⟩⟩
def thB (b : Nat) (t : TypeId) (l : List Value) : Th := ⟨fun w K => Blk w b t l ∧ K = [b], fun ⟨h, e⟩ q hq => (show q = b by simpa [e] using hq) ▸ h.lt, fun ⟨h, e⟩ hf hs => ⟨hf.blk h (hs b (by simp [e])), e⟩⟩
def Lives (o : Ob) (l : List Lv) : Prop := l.map core = o.L ∧ (l.map (·.slot)).Nodup ∧ ∀ e ∈ l, e.slot < o.E
section
variable {W wr w' : World} {p : Nat} {o : Ob} {ts : List Th}
theorem Wd.rowV {v : Value} {l : List Lv} (h : Wd W wr (thV v l :: ts)) : RowV wr v l := by obtain ⟨K, h, _⟩ := h.get; exact h
theorem Wd.rowU {v : Value} {l : List Nat} (h : Wd W wr (thU v l :: ts)) : RowU wr v l := by obtain ⟨K, h, _⟩ := h.get; exact h
theorem Wd.blk {b : Nat} {t : TypeId} {l : List Value} (h : Wd W wr (thB b t l :: ts)) : Blk wr b t l := by obtain ⟨K, h, _⟩ := h.get; exact h
theorem Wd.ob (h : Wd W wr (thO p o :: ts)) : o.Ok := by
 obtain ⟨K, X, e, hx⟩ := h.get
 exact e ▸ hx.1.ob
theorem stp_of {X : Wm} {K : List Nat} (h : WStep wr w' p X K) : Stp wr w' K (thO p X.ob) := by
 obtain ⟨K', h1, h2, h3⟩ := h
 exact ⟨K', ⟨X, rfl, h1⟩, h2, h3⟩
theorem conn_ob {X : Wm} (h : X.Ok) (u v : Nat) : wconnB (X.wp 0) u v = connI X.ob.L u v ∧ endsC X.s u v = codeI X.ob.L u v := by
 rw [show X.ob.L = X.s.L.map core from rfl, connI_core, codeI_core]
 have e0 : endsC X.s u v = codeI X.s.L u v := by unfold endsC codeI; simp only [find_inL h]
 refine ⟨?_, e0⟩
 unfold connI
 by_cases hc : inL X.s.L u ∧ inL X.s.L v
 {
 have h0 : endsC X.s u v = 0 := by rw [e0]; unfold codeI; exact if_pos hc
 obtain ⟨a, b, ha, hb, _, _⟩ := ends_find h0
 rw [(conn_find h ha hb).2]
 refine decide_eq_decide.2 ?_
 rw [cxT_iff h ha hb]
 exact ⟨fun hr => ⟨hc.1, hc.2, hr⟩, fun hr => hr.2.2⟩
 }
 {
 have h0 : endsC X.s u v ≠ 0 := by rw [e0]; unfold codeI; rw [if_neg hc]; decide
 unfold wconnB
 rw [show (X.wp 0).s = X.s from rfl, if_neg h0]
 exact (decide_eq_false fun hr => hc ⟨hr.1, hr.2.1⟩).symm
 }
theorem size_ob {X : Wm} (h : X.Ok) (u : Nat) : wsizeV (X.wp 0) u = (sizeI X.ob.L u : Nat) := by
 rw [show X.ob.L = X.s.L.map core from rfl, sizeI_core]
 have e0 := (conn_ob h u u).2
 rw [show X.ob.L = X.s.L.map core from rfl, codeI_core] at e0
 unfold wsizeV sizeI
 rw [show (X.wp 0).s = X.s from rfl]
 by_cases hc : inL X.s.L u
 {
 have h0 : endsC X.s u u = 0 := by rw [e0]; unfold codeI; exact if_pos ⟨hc, hc⟩
 obtain ⟨a, b, ha, hb, hi, _⟩ := ends_find h0
 rw [if_pos h0, if_pos hc, hi]
 show sizeG X.V X.G a = _
 unfold sizeG
 rw [find_lt h.ok h.hV ha, if_pos rfl, Int.toNat_natCast, size_ids h ha]
 }
 {
 have h0 : endsC X.s u u ≠ 0 := by rw [e0]; unfold codeI; rw [if_neg (fun h => hc h.1)]; decide
 rw [if_neg h0, if_neg hc]; rfl
 }
theorem comps_ob {X : Wm} (h : X.Ok) : compsW X = (compI X.ob.L : Nat) := by
 rw [show X.ob.L = X.s.L.map core from rfl, compI_core]
 unfold compsW compI
 have := comps_ids h
 omega
theorem until_ob {X : Wm} (h : X.Ok) (hg : GW X.E X.V X.G) (u v : Nat) : wuntB (X.wp 0) u v = untB X.ob.L u v ∧ wuntV (X.wp 0) u v = untR X.ob.L u v := by
 rw [show X.ob.L = X.s.L.map core from rfl, untB_core, untR_core]
 have hcc := conn_ob h u v
 rw [show X.ob.L = X.s.L.map core from rfl, connI_core, codeI_core] at hcc
 rcases until_cases h hg u v with ⟨h1, h2, h3⟩ | ⟨h1, h2, h3, h4, a, b, ha, hb, hab, hr⟩
 {
 have hb : untB X.s.L u v = false := by {
 refine decide_eq_false fun hx => ?_
 have hc : connI X.s.L u v = true := decide_eq_true ⟨hx.1, hx.2.1, hx.2.2.2⟩
 rw [← hcc.1] at hc
 rcases h3 with ⟨_, h3⟩ | ⟨_, h3⟩ | ⟨_, _, h3⟩
 · rw [h3] at hc; cases hc
 · rw [h3] at hc; cases hc
 · exact hx.2.2.1 h3
 }
 exact ⟨h1.trans hb.symm, by rw [h2, untR_no hb]⟩
 }
 {
 have hb' : untB X.s.L u v = true := by {
 rw [hcc.1] at h3
 have hx := of_decide_eq_true h3
 exact decide_eq_true ⟨hx.1, hx.2.1, h4, hx.2.2⟩
 }
 exact ⟨h1.trans hb'.symm, (untR_eq hb' ((until_iff h ha hb).1 hr)).symm⟩
 }
end
section
variable {W wr w' : World} {p : Nat} {o : Ob} {ts : List Th}
theorem td_now (h : Wd W wr (thO p o :: ts)) : Calls Tryz.prog 16 #[wptr p] wr fun e w' => e = .returned (.int .i64 o.now) ∧ w' = wr := by
 obtain ⟨K, X, rfl, h1⟩ := h.get
 exact wat_now h1
theorem td_until (h : Wd W wr (thO p o :: ts)) (u v : Nat) (hu : u < 18446744073709551616) (hv : v < 18446744073709551616) :
    Calls Tryz.prog 14 #[wptr p, .int .u64 u, .int .u64 v] wr fun e w' => e = .returned (.tuple #[.int .i64 (untR o.L u v), .bool (untB o.L u v), .int .i64 (codeI o.L u v)]) ∧ Wd W w' (thO p o :: ts) := by
 obtain ⟨K, ⟨X, rfl, h1⟩, hs⟩ := h.open
 have hg : GW X.E X.V X.G := by obtain ⟨_, pc, ps, px, pf, nq, Ks, lx, Lf, cl, hB, _⟩ := h1; exact hB.fo.gw.1
 obtain ⟨e1, e2⟩ := until_ob h1.1 hg u v
 rw [← e1, ← e2, ← (conn_ob h1.1 u v).2]
 exact (wat_until h1 u v hu hv).mono fun _ _ k => ⟨k.1, hs (stp_of k.2)⟩
theorem td_size (h : Wd W wr (thO p o :: ts)) (u : Nat) (hu : u < 18446744073709551616) :
    Calls Tryz.prog 26 #[wptr p, .int .u64 u] wr fun e w' => e = .returned (.tuple #[.int .i64 (sizeI o.L u : Nat), .int .i64 (codeI o.L u u)]) ∧ Wd W w' (thO p o :: ts) := by
 obtain ⟨K, ⟨X, rfl, h1⟩, hs⟩ := h.open
 rw [← size_ob h1.1 u, ← (conn_ob h1.1 u u).2]
 obtain ⟨hok, pc, ps, px, pf, nq, Ks, lx, Lf, cl, hB, rfl⟩ := h1
 exact (wsize_w hB u hu).mono fun _ _ k => ⟨k.1, hs (stp_of (wat_mv hok k.2))⟩
theorem td_count (h : Wd W wr (thO p o :: ts)) : Calls Tryz.prog 18 #[wptr p] wr fun e w' => e = .returned (.tuple #[.int .i64 o.L.length, .int .i64 (idsL o.L).length, .int .i64 (compI o.L : Nat)]) ∧ Fr [] wr w' := by
 obtain ⟨K, X, rfl, h1⟩ := h.get
 rw [← comps_ob h1.1, ob_len, show X.ob.L = X.s.L.map core from rfl, idsL_core, ← h1.1.ids_len]
 exact wat_count h1
theorem td_added (h : Wd W wr (thO p o :: ts)) : Calls Tryz.prog 23 #[wptr p] wr fun e w' => e = .returned (.tuple #[.int .u64 o.last, .int .u64 o.gone]) ∧ Fr [] wr w' := by
 obtain ⟨K, X, rfl, hok, pc, ps, px, pf, nq, Ks, lx, Lf, cl, hB, rfl⟩ := h.get
 exact wadded_w hB
theorem td_version (h : Wd W wr (thO p o :: ts)) : Calls Tryz.prog 22 #[wptr p] wr fun e w' => e = .returned (.int .u64 (o.last + o.gone : Nat)) ∧ Fr [] wr w' := by
 obtain ⟨K, X, rfl, hok, pc, ps, px, pf, nq, Ks, lx, Lf, cl, hB, rfl⟩ := h.get
 exact wversion_w hB (by have h1 := hok.last; have h2 := hok.max; show X.s.last + X.gone < _; omega)
theorem td_config (h : Wd W wr (thO p o :: ts)) : Calls Tryz.prog 33 #[wptr p] wr fun e w' => e = .returned (.agg #[.int .i64 o.m, .int .i64 o.E, .int .i64 o.V, .int .i64 o.D]) ∧ Fr [] wr w' := by
 obtain ⟨K, X, rfl, hok, pc, ps, px, pf, nq, Ks, lx, Lf, cl, hB, rfl⟩ := h.get
 exact wconfig_w hB
theorem td_live (h : Wd W wr (thO p o :: ts)) : Calls Tryz.prog 19 #[wptr p] wr fun e w' => ∃ v l, e = .returned v ∧ Lives o l ∧ Wd W w' (thV v l :: thO p o :: ts) := by
 obtain ⟨K, X, rfl, hok, pc, ps, px, pf, nq, Ks, lx, Lf, cl, hB, rfl⟩ := h.get
 refine (wlive_w hB).mono ?_
 rintro _ w' ⟨v, rfl, h1, h2, h3⟩
 refine ⟨v, X.s.L, rfl, ⟨rfl, hok.ok.one, fun e he => ?_⟩, h.new h3 ⟨h1, rfl⟩ (fun q hq => h2 q (by simpa using hq))⟩
 have hu := (hok.ok.used e.slot).2 ⟨e, he, rfl⟩
 have h4 := hok.ok.ar.hb; have h5 := hok.ok.sl; have h6 := hok.hE
 have h7 : e.slot < X.s.A.begun := hu.1
 show e.slot < X.E
 omega
theorem td_ids (h : Wd W wr (thO p o :: ts)) : Calls Tryz.prog 24 #[wptr p] wr fun e w' => ∃ v, e = .returned v ∧ Wd W w' (thU v (idsL o.L) :: thO p o :: ts) := by
 obtain ⟨K, X, rfl, hok, pc, ps, px, pf, nq, Ks, lx, Lf, cl, hB, rfl⟩ := h.get
 refine (wids_w hB).mono ?_
 rintro _ w' ⟨v, rfl, h1, h2, h3⟩
 have e : (X.wp nq).s.ids = idsL X.ob.L := by rw [show X.ob.L = X.s.L.map core from rfl, idsL_core]; exact hok.ids_eq
 rw [e] at h1
 exact ⟨v, rfl, h.new h3 ⟨h1, rfl⟩ (fun q hq => h2 q (by simpa using hq))⟩
theorem td_tick (h : Wd W wr (thO p o :: ts)) (to : Int) (h1 : -9223372036854775808 ≤ to) (h2 : to ≤ 9223372036854775807) :
    Calls Tryz.prog 17 #[wptr p, .int .i64 to] wr fun e w' => e = .returned (.int .i64 (chkT o.m o.now to)) ∧ Wd W w' (thO p (o.tickS to) :: ts) := by
 obtain ⟨K, ⟨X, rfl, k1⟩, hs⟩ := h.open
 unfold Ob.tickS
 by_cases hc : chkT X.m X.now to = 0
 {
 rw [show chkT X.ob.m X.ob.now to = 0 from hc, if_pos rfl]
 refine (wat_tick k1 to h1 h2 hc).mono ?_
 rintro _ w' ⟨rfl, ds, Q', hm, k⟩
 have := stp_of k
 rw [ob_tick k1.1 hm] at this
 exact ⟨rfl, hs this⟩
 }
 {
 rw [if_neg (show ¬ chkT X.ob.m X.ob.now to = 0 from hc)]
 refine (wat_tick_no k1 to h1 h2 hc).mono ?_
 rintro _ _ ⟨rfl, rfl⟩
 exact ⟨rfl, h⟩
 }
end
end Go.Proofs.YtgmnemndjjmgkaaGreat
