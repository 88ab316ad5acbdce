/- store: equality of edges; rows of edges, of ids and of slots that are equal. -/
import Derived.Test.YtbegdgnhpklceaaGreatB19
import Derived.Deep.Slices
import Derived.ChangeSame
import Derived.OpenShut
import Derived.Test.YtbegdgnhpklceaaGreatB1
import Derived.Test.YtbegdgnhpklceaaGreatB5
import Derived.Test.YtbegdgnhpklceaaGreatB16
set_option linter.unusedSimpArgs false
set_option linter.unusedVariables false
/- The document's store: Copy. -/
namespace Go.Proofs.YtbegdgnhpklceaaGreat
open Go.RowKit
set_option maxRecDepth 10000
set_option maxHeartbeats 3200000

theorem tmG {b : Act} {d : Nat} {v : Value} (h : b.tmps[d]? = some v) : ∀ h : d < b.tmps.size, b.tmps[d]'h = v := fun hd => by rw [Array.getElem?_eq_getElem hd] at h; exact Option.some.inj h
theorem depG {md : Region.Mode} {o : Oper} {L : Nat → Bool} (h : ∀ j ∈ depsOf md o, L j = true) (j : Nat) (hj : (depsOf md o).contains j = true) : L j = true := h j (by simpa using hj)
def GCp (pr pa pt : Nat) (s : Sm) : Nat → Value → Prop
  | 0, x => x = ptr pr
  | 1, x => x = ptr pr
  | 2, x => x = .pointer (some ⟨pr, 1, none⟩)
  | 3, x => x = .int .i64 s.V
  | 4, x => x = ptr pr
  | 5, x => x = ptr pr
  | 6, x => x = .pointer (some ⟨pr, 2, none⟩)
  | 7, x => x = .int .u64 s.last
  | 8, x => x = ptr pr
  | 10, x => x = ptr pr
  | 11, x => x = ptr pr
  | 12, x => x = .pointer (some ⟨pr, 4, none⟩)
  | 13, x => x = ptr pa
  | 15, x => x = ptr pr
  | 16, x => x = ptr pr
  | 17, x => x = .pointer (some ⟨pr, 5, none⟩)
  | 18, x => x = ptr pt
  | _, _ => True
/-- What is made so far of a copy. -/
def CpI (w0 : World) (pr pa pt : Nat) (s : Sm) (c : List Nat) (n : Nat) (f : Nat → Value) (L : Nat → Bool) (w : World) : Prop :=
  (∀ k, L k = true → GCp pr pa pt s k (f k)) ∧ Fr [] w0 w ∧ ∃ (pa' : Nat) (vU vC vR : Value) (pt' : Nat) (vT vF : Value) (cl : Nat → Nat),
    (L 9 = true → RowV w (f 9) s.L ∧ ∀ q, (f 9).ownBlock = some q → cl q = 1 ∧ w0.heap.size ≤ q) ∧
    (L 14 = true → f 14 = ptr pa' ∧ RArn w pa' vU vC vR s.A c ∧ ∀ q ∈ rAB pa' vU vC vR, cl q = 2 ∧ w0.heap.size ≤ q) ∧
    (L 19 = true → f 19 = ptr pt' ∧ RTab w pt' vT vF s.M ∧ ∀ q ∈ rTB pt' vT vF, cl q = 3 ∧ w0.heap.size ≤ q) ∧
    (L 20 = true → L 9 = true ∧ L 14 = true ∧ L 19 = true ∧ f 20 = .agg #[.bool true, .int .i64 s.V, .int .u64 s.last, f 9, f 14, f 19]) ∧
    (L 21 = true → ∃ p K, f 21 = ptr p ∧ RSt w p s n K ∧ ∀ q ∈ K, w0.heap.size ≤ q) ∧
    (L 22 = true → L 21 = true ∧ f 22 = f 21)
section
variable {w0 w w' : World} {pr pa pt n : Nat} {s : Sm} {c : List Nat} {f : Nat → Value} {L : Nat → Bool} {i : Nat} {v : Value}
theorem CpI.get (h : CpI w0 pr pa pt s c n f L w) (k : Nat) (hk : L k = true) : GCp pr pa pt s k (f k) := h.1 k hk
theorem CpI.gstep (h : CpI w0 pr pa pt s c n f L w) (hG : GCp pr pa pt s i v) : ∀ k, updG L i true k = true → GCp pr pa pt s k (updG f i v k) := fun k hk => by
  by_cases e : k = i
  · subst e; rw [updG_eq]; exact hG
  · rw [updG_ne _ _ e] at hk ⊢; exact h.1 k hk
theorem CpI.start (w : World) : CpI w pr pa pt s c n (fun _ => undef) (fun _ => false) w.drew := by
  refine ⟨fun k hk => ?_, (Fr.refl [] w).drew, 0, undef, undef, undef, 0, undef, undef, fun _ => 0, fun h => ?_, fun h => ?_, fun h => ?_, fun h => ?_, fun h => ?_, fun h => ?_⟩
  · cases hk
  all_goals cases h
theorem CpI.pass (h : CpI w0 pr pa pt s c n f L w) (hG : GCp pr pa pt s i v) (hF : Fr [] w w') (h9 : i ≠ 9) (h14 : i ≠ 14) (h19 : i ≠ 19) (h20 : i ≠ 20) (h21 : i ≠ 21) (h22 : i ≠ 22) : CpI w0 pr pa pt s c n (updG f i v) (updG L i true) w' := by
  obtain ⟨h1, h2, pa', vU, vC, vR, pt', vT, vF, cl, k9, k14, k19, k20, k21, k22⟩ := h
  refine ⟨CpI.gstep ⟨h1, h2, pa', vU, vC, vR, pt', vT, vF, cl, k9, k14, k19, k20, k21, k22⟩ hG, h2.trans' hF, pa', vU, vC, vR, pt', vT, vF, cl, ?_, ?_, ?_, ?_, ?_, ?_⟩ <;> simp only [updG, if_neg (Ne.symm h9), if_neg (Ne.symm h14), if_neg (Ne.symm h19), if_neg (Ne.symm h20), if_neg (Ne.symm h21), if_neg (Ne.symm h22)]
  · exact fun hh => ⟨(k9 hh).1.fr0 hF, (k9 hh).2⟩
  · exact fun hh => ⟨(k14 hh).1, (k14 hh).2.1.fr0 hF, (k14 hh).2.2⟩
  · exact fun hh => ⟨(k19 hh).1, (k19 hh).2.1.fr0 hF, (k19 hh).2.2⟩
  · exact k20
  · intro hh
    obtain ⟨p, K, e, hR, hK⟩ := k21 hh
    exact ⟨p, K, e, hR.fr0 hF, hK⟩
  · exact k22
theorem CpI.list (h : CpI w0 pr pa pt s c n f L w) (hn : L 20 = false) (hF : Fr [] w w') (hr : RowV w' v s.L) (ho : ∀ q, v.ownBlock = some q → w.heap.size ≤ q) : CpI w0 pr pa pt s c n (updG f 9 v) (updG L 9 true) w' := by
  have hg := h.gstep (i := 9) (v := v) trivial
  obtain ⟨h1, h2, pa', vU, vC, vR, pt', vT, vF, cl, k9, k14, k19, k20, k21, k22⟩ := h
  have hs := h2.size
  refine ⟨hg, h2.trans' hF, pa', vU, vC, vR, pt', vT, vF, fun q => if q < w.heap.size then cl q else 1, fun _ => ⟨by rw [updG_eq]; exact hr, fun q hq => ?_⟩, fun hh => ?_, fun hh => ?_, fun hh => ?_, fun hh => ?_, fun hh => ?_⟩
  · rw [updG_eq] at hq
    have := ho q hq
    exact ⟨by show (if q < w.heap.size then cl q else 1) = 1; rw [if_neg (by omega)], by omega⟩
  · rw [updG_ne _ _ (by decide)] at hh ⊢
    exact ⟨(k14 hh).1, (k14 hh).2.1.fr0 hF, fun q hq => ⟨by show (if q < w.heap.size then cl q else 1) = 2; rw [if_pos ((k14 hh).2.1.lt q hq)]; exact ((k14 hh).2.2 q hq).1, ((k14 hh).2.2 q hq).2⟩⟩
  · rw [updG_ne _ _ (by decide)] at hh ⊢
    exact ⟨(k19 hh).1, (k19 hh).2.1.fr0 hF, fun q hq => ⟨by show (if q < w.heap.size then cl q else 1) = 3; rw [if_pos ((k19 hh).2.1.lt q hq)]; exact ((k19 hh).2.2 q hq).1, ((k19 hh).2.2 q hq).2⟩⟩
  · rw [updG_ne _ _ (by decide), hn] at hh; cases hh
  · rw [updG_ne _ _ (by decide)] at hh ⊢
    obtain ⟨p, K, e, hR, hK⟩ := k21 hh
    exact ⟨p, K, e, hR.fr0 hF, hK⟩
  · simp only [updG, show (22 : Nat) ≠ 9 by decide, show (21 : Nat) ≠ 9 by decide, if_false] at hh ⊢
    exact k22 hh
theorem CpI.slots (h : CpI w0 pr pa pt s c n f L w) (hn : L 20 = false) (hF : Fr [] w w') {pa2 : Nat} {vU2 vC2 vR2 : Value} (hr : RArn w' pa2 vU2 vC2 vR2 s.A c) (ho : ∀ q ∈ rAB pa2 vU2 vC2 vR2, w.heap.size ≤ q) : CpI w0 pr pa pt s c n (updG f 14 (ptr pa2)) (updG L 14 true) w' := by
  have hg := h.gstep (i := 14) (v := ptr pa2) trivial
  obtain ⟨h1, h2, pa', vU, vC, vR, pt', vT, vF, cl, k9, k14, k19, k20, k21, k22⟩ := h
  have hs := h2.size
  refine ⟨hg, h2.trans' hF, pa2, vU2, vC2, vR2, pt', vT, vF, fun q => if q < w.heap.size then cl q else 2, fun hh => ?_, fun _ => ⟨updG_eq .., hr, fun q hq => ?_⟩, fun hh => ?_, fun hh => ?_, fun hh => ?_, fun hh => ?_⟩
  · rw [updG_ne _ _ (by decide)] at hh ⊢
    exact ⟨(k9 hh).1.fr0 hF, fun q hq => ⟨by show (if q < w.heap.size then cl q else 2) = 1; rw [if_pos ((k9 hh).1.lt hq)]; exact ((k9 hh).2 q hq).1, ((k9 hh).2 q hq).2⟩⟩
  · have := ho q hq
    exact ⟨by show (if q < w.heap.size then cl q else 2) = 2; rw [if_neg (by omega)], by omega⟩
  · rw [updG_ne _ _ (by decide)] at hh ⊢
    exact ⟨(k19 hh).1, (k19 hh).2.1.fr0 hF, fun q hq => ⟨by show (if q < w.heap.size then cl q else 2) = 3; rw [if_pos ((k19 hh).2.1.lt q hq)]; exact ((k19 hh).2.2 q hq).1, ((k19 hh).2.2 q hq).2⟩⟩
  · rw [updG_ne _ _ (by decide), hn] at hh; cases hh
  · rw [updG_ne _ _ (by decide)] at hh ⊢
    obtain ⟨p, K, e, hR, hK⟩ := k21 hh
    exact ⟨p, K, e, hR.fr0 hF, hK⟩
  · simp only [updG, show (22 : Nat) ≠ 14 by decide, show (21 : Nat) ≠ 14 by decide, if_false] at hh ⊢
    exact k22 hh
theorem CpI.table (h : CpI w0 pr pa pt s c n f L w) (hn : L 20 = false) (hF : Fr [] w w') {pt2 : Nat} {vT2 vF2 : Value} (hr : RTab w' pt2 vT2 vF2 s.M) (ho : ∀ q ∈ rTB pt2 vT2 vF2, w.heap.size ≤ q) : CpI w0 pr pa pt s c n (updG f 19 (ptr pt2)) (updG L 19 true) w' := by
  have hg := h.gstep (i := 19) (v := ptr pt2) trivial
  obtain ⟨h1, h2, pa', vU, vC, vR, pt', vT, vF, cl, k9, k14, k19, k20, k21, k22⟩ := h
  have hs := h2.size
  refine ⟨hg, h2.trans' hF, pa', vU, vC, vR, pt2, vT2, vF2, fun q => if q < w.heap.size then cl q else 3, fun hh => ?_, fun hh => ?_, fun _ => ⟨updG_eq .., hr, fun q hq => ?_⟩, fun hh => ?_, fun hh => ?_, fun hh => ?_⟩
  · rw [updG_ne _ _ (by decide)] at hh ⊢
    exact ⟨(k9 hh).1.fr0 hF, fun q hq => ⟨by show (if q < w.heap.size then cl q else 3) = 1; rw [if_pos ((k9 hh).1.lt hq)]; exact ((k9 hh).2 q hq).1, ((k9 hh).2 q hq).2⟩⟩
  · rw [updG_ne _ _ (by decide)] at hh ⊢
    exact ⟨(k14 hh).1, (k14 hh).2.1.fr0 hF, fun q hq => ⟨by show (if q < w.heap.size then cl q else 3) = 2; rw [if_pos ((k14 hh).2.1.lt q hq)]; exact ((k14 hh).2.2 q hq).1, ((k14 hh).2.2 q hq).2⟩⟩
  · have := ho q hq
    exact ⟨by show (if q < w.heap.size then cl q else 3) = 3; rw [if_neg (by omega)], by omega⟩
  · rw [updG_ne _ _ (by decide), hn] at hh; cases hh
  · rw [updG_ne _ _ (by decide)] at hh ⊢
    obtain ⟨p, K, e, hR, hK⟩ := k21 hh
    exact ⟨p, K, e, hR.fr0 hF, hK⟩
  · simp only [updG, show (22 : Nat) ≠ 19 by decide, show (21 : Nat) ≠ 19 by decide, if_false] at hh ⊢
    exact k22 hh
theorem CpI.build (h : CpI w0 pr pa pt s c n f L w) (h9 : L 9 = true) (h14 : L 14 = true) (h19 : L 19 = true) : CpI w0 pr pa pt s c n (updG f 20 (.agg #[.bool true, .int .i64 s.V, .int .u64 s.last, f 9, f 14, f 19])) (updG L 20 true) w := by
  have hg := h.gstep (i := 20) (v := .agg #[.bool true, .int .i64 s.V, .int .u64 s.last, f 9, f 14, f 19]) trivial
  obtain ⟨h1, h2, pa', vU, vC, vR, pt', vT, vF, cl, k9, k14, k19, k20, k21, k22⟩ := h
  refine ⟨hg, h2, pa', vU, vC, vR, pt', vT, vF, cl, ?_, ?_, ?_, ?_, ?_, ?_⟩
  · rw [updG_ne _ _ (by decide), updG_ne _ _ (by decide)]; exact k9
  · rw [updG_ne _ _ (by decide), updG_ne _ _ (by decide)]; exact k14
  · rw [updG_ne _ _ (by decide), updG_ne _ _ (by decide)]; exact k19
  · intro _
    rw [updG_eq, updG_ne _ _ (by decide), updG_ne _ _ (by decide), updG_ne _ _ (by decide), updG_ne _ _ (by decide), updG_ne _ _ (by decide), updG_ne _ _ (by decide)]
    exact ⟨h9, h14, h19, rfl⟩
  · rw [updG_ne _ _ (by decide), updG_ne _ _ (by decide)]; exact k21
  · rw [updG_ne _ _ (by decide), updG_ne _ _ (by decide), updG_ne _ _ (by decide), updG_ne _ _ (by decide)]; exact k22
theorem CpI.parts (h : CpI w0 pr pa pt s c n f L w) (h20 : L 20 = true) : ∃ a9 c9 pa' pt', f 9 = .slice a9 s.L.length c9 ∧ f 14 = ptr pa' ∧ f 19 = ptr pt' ∧ f 20 = .agg #[.bool true, .int .i64 s.V, .int .u64 s.last, .slice a9 s.L.length c9, ptr pa', ptr pt'] := by
  obtain ⟨h1, h2, pa', vU, vC, vR, pt', vT, vF, cl, k9, k14, k19, k20, k21, k22⟩ := h
  obtain ⟨e9, e14, e19, e20⟩ := k20 h20
  obtain ⟨a9, c9, e⟩ := (k9 e9).1.slice
  exact ⟨a9, c9, pa', pt', e, (k14 e14).1, (k19 e19).1, by rw [e20, e, (k14 e14).1, (k19 e19).1]⟩
theorem CpI.box (h : CpI w0 pr pa pt s c n f L w) (hn : L 22 = false) (h20 : L 20 = true) (hok : s.Ok) (hc : Cnt s.A c n) {a9 : Option Addr} {c9 pa2 pt2 : Nat} (e9 : f 9 = .slice a9 s.L.length c9) (e14 : f 14 = ptr pa2) (e19 : f 19 = ptr pt2) :
    CpI w0 pr pa pt s c n (updG f 21 (ptr w.heap.size)) (updG L 21 true) (w.alloc (.cells #[.bool true, .int .i64 s.V, .int .u64 s.last, .slice a9 s.L.length c9, ptr pa2, ptr pt2] 81)) := by
  have hg := h.gstep (i := 21) (v := ptr w.heap.size) trivial
  obtain ⟨h1, h2, pa', vU, vC, vR, pt', vT, vF, cl, k9, k14, k19, k20, k21, k22⟩ := h
  have hF : Fr [] w (w.alloc (.cells #[.bool true, .int .i64 s.V, .int .u64 s.last, .slice a9 s.L.length c9, ptr pa2, ptr pt2] 81)) := (Fr.refl [] w).alloc _
  have hs := h2.size
  obtain ⟨l9, l14, l19, _⟩ := k20 h20
  have q9 := k9 l9; have q14 := k14 l14; have q19 := k19 l19
  rw [e9] at q9
  obtain rfl : pa2 = pa' := by have := e14.symm.trans q14.1; simpa using this
  obtain rfl : pt2 = pt' := by have := e19.symm.trans q19.1; simpa using this
  have hb := Blk.new w [.bool true, .int .i64 s.V, .int .u64 s.last, .slice a9 s.L.length c9, ptr pa2, ptr pt2] 81
  refine ⟨hg, h2.trans' hF, pa2, vU, vC, vR, pt2, vT, vF, cl, ?_, ?_, ?_, ?_, ?_, ?_⟩
  · rw [updG_ne _ _ (by decide), updG_ne _ _ (by decide), e9]; exact fun _ => ⟨q9.1.fr0 hF, q9.2⟩
  · rw [updG_ne _ _ (by decide), updG_ne _ _ (by decide)]; exact fun _ => ⟨q14.1, q14.2.1.fr0 hF, q14.2.2⟩
  · rw [updG_ne _ _ (by decide), updG_ne _ _ (by decide)]; exact fun _ => ⟨q19.1, q19.2.1.fr0 hF, q19.2.2⟩
  · simp only [updG, show (20 : Nat) ≠ 21 by decide, show (9 : Nat) ≠ 21 by decide, show (14 : Nat) ≠ 21 by decide, show (19 : Nat) ≠ 21 by decide, if_false]; exact k20
  · intro _
    rw [updG_eq]
    refine ⟨w.heap.size, _, rfl, ⟨pa2, pt2, _, vU, vC, vR, vT, vF, c, fun q => if q < w.heap.size then cl q else 0, ⟨hb, q9.1.fr0 hF, q14.2.1.fr0 hF, q19.2.1.fr0 hF, hc, hok, by rw [if_neg (by omega)], fun q hq => ?_, fun q hq => ?_, fun q hq => ?_⟩, rfl⟩, fun q hq => ?_⟩
    · show (if q < w.heap.size then cl q else 0) = 1
      rw [if_pos (q9.1.lt hq)]; exact (q9.2 q hq).1
    · show (if q < w.heap.size then cl q else 0) = 2
      rw [if_pos (q14.2.1.lt q hq)]; exact (q14.2.2 q hq).1
    · show (if q < w.heap.size then cl q else 0) = 3
      rw [if_pos (q19.2.1.lt q hq)]; exact (q19.2.2 q hq).1
    · simp only [rsK, List.mem_cons, List.mem_append, Option.mem_toList] at hq
      rcases hq with rfl | hq | hq | hq
      · exact hs
      · exact (q9.2 q hq).2
      · exact (q14.2.2 q hq).2
      · exact (q19.2.2 q hq).2
  · rw [updG_ne _ _ (by decide), hn]; intro hh; cases hh
theorem CpI.asg (h : CpI w0 pr pa pt s c n f L w) (h21 : L 21 = true) : CpI w0 pr pa pt s c n (updG f 22 (f 21)) (updG L 22 true) w := by
  have hg := h.gstep (i := 22) (v := f 21) trivial
  obtain ⟨h1, h2, pa', vU, vC, vR, pt', vT, vF, cl, k9, k14, k19, k20, k21, k22⟩ := h
  refine ⟨hg, h2, pa', vU, vC, vR, pt', vT, vF, cl, ?_, ?_, ?_, ?_, ?_, ?_⟩
  · rw [updG_ne _ _ (by decide), updG_ne _ _ (by decide)]; exact k9
  · rw [updG_ne _ _ (by decide), updG_ne _ _ (by decide)]; exact k14
  · rw [updG_ne _ _ (by decide), updG_ne _ _ (by decide)]; exact k19
  · simp only [updG, show (20 : Nat) ≠ 22 by decide, show (9 : Nat) ≠ 22 by decide, show (14 : Nat) ≠ 22 by decide, show (19 : Nat) ≠ 22 by decide, if_false]; exact k20
  · rw [updG_ne _ _ (by decide), updG_ne _ _ (by decide)]; exact k21
  · intro _
    rw [updG_eq, updG_ne _ _ (by decide), updG_ne _ _ (by decide)]
    exact ⟨h21, rfl⟩
end
section
variable {w : World} {pr pa pt n : Nat} {vL vU vC vR vT vF : Value} {s : Sm} {c : List Nat} {cl : Nat → Nat}
theorem rs_copy (h : RSB w pr pa pt vL vU vC vR vT vF s c n cl) :
    Calls Tryz.prog 18 #[ptr pr] w fun e w' => ∃ pr' K', e = .returned (ptr pr') ∧ RSt w' pr' s n K' ∧ Fr [] w w' ∧ ∀ q ∈ K', w.heap.size ≤ q := by
  have HV := Lib.hid (rs_valid h)
  have HB := Lib.hid h
  have Hok := Lib.hid (And.intro h.ok h.cn)
  clear h
  go_enter Tryz.func18, Tryz.ntmps18
  go_wp2_with fail
  refine HV.out.mono ?_
  rintro _ w ⟨rfl, rfl⟩
  clear HV
  go_wp2_with fail
  refine region_invB (CpI w pr pa pt s c n) (by kernel_rfl) (by kernel_rfl) (CpI.start w) ?_ ?_
  · refine (fun (H : ∀ a : Act, a.tmps.size = 28 → a.tmps[0]? = some (ptr pr) → ∀ f, StepsB _ _ _ _ f a 0 _) => H _ rfl rfl) fun a hsz t0 f => ?_
    have HN20 : ∀ (L : Nat → Bool) (w1 : World) {k : Nat} (_ : L k = false) (_ : CpI w pr pa pt s c n f L w1) (j : Nat), (k = j) → (j = 9 ∨ j = 14 ∨ j = 19) → L 20 = false := fun L w1 k hk hI j hj hjj => by
      cases h20 : L 20 with
      | false => rfl
      | true =>
        obtain ⟨_, _, _, _, _, _, _, _, _, _, _, _, _, k20, _⟩ := hI
        obtain ⟨l9, l14, l19, _⟩ := k20 h20
        subst hj
        rcases hjj with rfl | rfl | rfl
        · rw [l9] at hk; cases hk
        · rw [l14] at hk; cases hk
        · rw [l19] at hk; cases hk
    have HN22 : ∀ (L : Nat → Bool) (w1 : World) (_ : L 21 = false) (_ : CpI w pr pa pt s c n f L w1), L 22 = false := fun L w1 hk hI => by
      cases h22 : L 22 with
      | false => rfl
      | true =>
        obtain ⟨_, _, _, _, _, _, _, _, _, _, _, _, _, _, _, k22⟩ := hI
        rw [(k22 h22).1] at hk; cases hk
    refine ⟨?_, ?_, ?_, ?_, ?_, ?_, ?_, ?_, ?_, ?_, ?_, ?_, ?_, ?_, ?_, ?_, ?_, ?_, ?_, ?_, ?_, ?_, ?_, trivial⟩
    · intro b hb hf hg
      have hbs : b.tmps.size = 28 := hb.trans hsz
      have T0 := tmG ((hg 0 (by kernel_rfl)).trans t0)
      clear hf hg hb
      refine stepI_plain rfl fun L w1 hd hnL hI => ?_
      go_simp
      exact hI.pass rfl (Fr.refl [] w1) (by decide) (by decide) (by decide) (by decide) (by decide) (by decide)
    · intro b hb hf hg
      have hbs : b.tmps.size = 28 := hb.trans hsz
      have T6 := tmG (hf 0 6 (by decide) (by kernel_rfl) (by rw [hsz]; decide))
      clear hf hg hb
      refine stepI_plain rfl fun L w1 hd hnL hI => ?_
      have e0 : f 0 = ptr pr := hI.get 0 (depG hd 0 (by decide))
      rw [e0] at T6
      go_simp
      exact hI.pass rfl (Fr.refl [] w1) (by decide) (by decide) (by decide) (by decide) (by decide) (by decide)
    · intro b hb hf hg
      have hbs : b.tmps.size = 28 := hb.trans hsz
      have T7 := tmG (hf 1 7 (by decide) (by kernel_rfl) (by rw [hsz]; decide))
      clear hf hg hb
      refine stepI_plain rfl fun L w1 hd hnL hI => ?_
      have e1 : f 1 = ptr pr := hI.get 1 (depG hd 1 (by decide))
      rw [e1] at T7
      go_simp
      exact hI.pass rfl (Fr.refl [] w1) (by decide) (by decide) (by decide) (by decide) (by decide) (by decide)
    · intro b hb hf hg
      have hbs : b.tmps.size = 28 := hb.trans hsz
      have T8 := tmG (hf 2 8 (by decide) (by kernel_rfl) (by rw [hsz]; decide))
      clear hf hg hb
      refine stepI_plain rfl fun L w1 hd hnL hI => ?_
      have e2 : f 2 = .pointer (some ⟨pr, 1, none⟩) := hI.get 2 (depG hd 2 (by decide))
      rw [e2] at T8
      have hc := (HB.out.fr0 hI.2.1).hd.cell 1
      simp only [List.getElem?_cons_zero, List.getElem?_cons_succ] at hc
      go_simp
      exact hI.pass rfl (Fr.refl [] w1) (by decide) (by decide) (by decide) (by decide) (by decide) (by decide)
    · intro b hb hf hg
      have hbs : b.tmps.size = 28 := hb.trans hsz
      have T0 := tmG ((hg 0 (by kernel_rfl)).trans t0)
      clear hf hg hb
      refine stepI_plain rfl fun L w1 hd hnL hI => ?_
      go_simp
      exact hI.pass rfl (Fr.refl [] w1) (by decide) (by decide) (by decide) (by decide) (by decide) (by decide)
    · intro b hb hf hg
      have hbs : b.tmps.size = 28 := hb.trans hsz
      have T10 := tmG (hf 4 10 (by decide) (by kernel_rfl) (by rw [hsz]; decide))
      clear hf hg hb
      refine stepI_plain rfl fun L w1 hd hnL hI => ?_
      have e4 : f 4 = ptr pr := hI.get 4 (depG hd 4 (by decide))
      rw [e4] at T10
      go_simp
      exact hI.pass rfl (Fr.refl [] w1) (by decide) (by decide) (by decide) (by decide) (by decide) (by decide)
    · intro b hb hf hg
      have hbs : b.tmps.size = 28 := hb.trans hsz
      have T11 := tmG (hf 5 11 (by decide) (by kernel_rfl) (by rw [hsz]; decide))
      clear hf hg hb
      refine stepI_plain rfl fun L w1 hd hnL hI => ?_
      have e5 : f 5 = ptr pr := hI.get 5 (depG hd 5 (by decide))
      rw [e5] at T11
      go_simp
      exact hI.pass rfl (Fr.refl [] w1) (by decide) (by decide) (by decide) (by decide) (by decide) (by decide)
    · intro b hb hf hg
      have hbs : b.tmps.size = 28 := hb.trans hsz
      have T12 := tmG (hf 6 12 (by decide) (by kernel_rfl) (by rw [hsz]; decide))
      clear hf hg hb
      refine stepI_plain rfl fun L w1 hd hnL hI => ?_
      have e6 : f 6 = .pointer (some ⟨pr, 2, none⟩) := hI.get 6 (depG hd 6 (by decide))
      rw [e6] at T12
      have hc := (HB.out.fr0 hI.2.1).hd.cell 2
      simp only [List.getElem?_cons_zero, List.getElem?_cons_succ] at hc
      go_simp
      exact hI.pass rfl (Fr.refl [] w1) (by decide) (by decide) (by decide) (by decide) (by decide) (by decide)
    · intro b hb hf hg
      have hbs : b.tmps.size = 28 := hb.trans hsz
      have T0 := tmG ((hg 0 (by kernel_rfl)).trans t0)
      clear hf hg hb
      refine stepI_plain rfl fun L w1 hd hnL hI => ?_
      go_simp
      exact hI.pass rfl (Fr.refl [] w1) (by decide) (by decide) (by decide) (by decide) (by decide) (by decide)
    · intro b hb hf hg
      have hbs : b.tmps.size = 28 := hb.trans hsz
      have T14 := tmG (hf 8 14 (by decide) (by kernel_rfl) (by rw [hsz]; decide))
      clear hf hg hb
      refine stepI_plain rfl fun L w1 hd hnL hI => ?_
      have e8 : f 8 = ptr pr := hI.get 8 (depG hd 8 (by decide))
      rw [e8] at T14
      have HC := Lib.hid (rs_list (HB.out.fr0 hI.2.1))
      go_simp
      refine HC.out.mono ?_
      rintro _ w2 ⟨v', rfl, k1, k2, k3⟩
      exact ⟨_, rfl, hI.list (HN20 L w1 hnL hI 9 rfl (by decide)) k3 k1 k2⟩
    · intro b hb hf hg
      have hbs : b.tmps.size = 28 := hb.trans hsz
      have T0 := tmG ((hg 0 (by kernel_rfl)).trans t0)
      clear hf hg hb
      refine stepI_plain rfl fun L w1 hd hnL hI => ?_
      go_simp
      exact hI.pass rfl (Fr.refl [] w1) (by decide) (by decide) (by decide) (by decide) (by decide) (by decide)
    · intro b hb hf hg
      have hbs : b.tmps.size = 28 := hb.trans hsz
      have T16 := tmG (hf 10 16 (by decide) (by kernel_rfl) (by rw [hsz]; decide))
      clear hf hg hb
      refine stepI_plain rfl fun L w1 hd hnL hI => ?_
      have e10 : f 10 = ptr pr := hI.get 10 (depG hd 10 (by decide))
      rw [e10] at T16
      go_simp
      exact hI.pass rfl (Fr.refl [] w1) (by decide) (by decide) (by decide) (by decide) (by decide) (by decide)
    · intro b hb hf hg
      have hbs : b.tmps.size = 28 := hb.trans hsz
      have T17 := tmG (hf 11 17 (by decide) (by kernel_rfl) (by rw [hsz]; decide))
      clear hf hg hb
      refine stepI_plain rfl fun L w1 hd hnL hI => ?_
      have e11 : f 11 = ptr pr := hI.get 11 (depG hd 11 (by decide))
      rw [e11] at T17
      go_simp
      exact hI.pass rfl (Fr.refl [] w1) (by decide) (by decide) (by decide) (by decide) (by decide) (by decide)
    · intro b hb hf hg
      have hbs : b.tmps.size = 28 := hb.trans hsz
      have T18 := tmG (hf 12 18 (by decide) (by kernel_rfl) (by rw [hsz]; decide))
      clear hf hg hb
      refine stepI_plain rfl fun L w1 hd hnL hI => ?_
      have e12 : f 12 = .pointer (some ⟨pr, 4, none⟩) := hI.get 12 (depG hd 12 (by decide))
      rw [e12] at T18
      have hc := (HB.out.fr0 hI.2.1).hd.cell 4
      simp only [List.getElem?_cons_zero, List.getElem?_cons_succ] at hc
      go_simp
      exact hI.pass rfl (Fr.refl [] w1) (by decide) (by decide) (by decide) (by decide) (by decide) (by decide)
    · intro b hb hf hg
      have hbs : b.tmps.size = 28 := hb.trans hsz
      have T19 := tmG (hf 13 19 (by decide) (by kernel_rfl) (by rw [hsz]; decide))
      clear hf hg hb
      refine stepI_plain rfl fun L w1 hd hnL hI => ?_
      have e13 : f 13 = ptr pa := hI.get 13 (depG hd 13 (by decide))
      rw [e13] at T19
      have HC := Lib.hid (racopy_w (HB.out.fr0 hI.2.1).ar Hok.out.1.ar)
      go_simp
      refine HC.out.mono ?_
      rintro _ w2 ⟨p', vU', vC', vR', rfl, k1, k2, k3⟩
      exact ⟨_, rfl, hI.slots (HN20 L w1 hnL hI 14 rfl (by decide)) k2 k1 k3⟩
    · intro b hb hf hg
      have hbs : b.tmps.size = 28 := hb.trans hsz
      have T0 := tmG ((hg 0 (by kernel_rfl)).trans t0)
      clear hf hg hb
      refine stepI_plain rfl fun L w1 hd hnL hI => ?_
      go_simp
      exact hI.pass rfl (Fr.refl [] w1) (by decide) (by decide) (by decide) (by decide) (by decide) (by decide)
    · intro b hb hf hg
      have hbs : b.tmps.size = 28 := hb.trans hsz
      have T21 := tmG (hf 15 21 (by decide) (by kernel_rfl) (by rw [hsz]; decide))
      clear hf hg hb
      refine stepI_plain rfl fun L w1 hd hnL hI => ?_
      have e15 : f 15 = ptr pr := hI.get 15 (depG hd 15 (by decide))
      rw [e15] at T21
      go_simp
      exact hI.pass rfl (Fr.refl [] w1) (by decide) (by decide) (by decide) (by decide) (by decide) (by decide)
    · intro b hb hf hg
      have hbs : b.tmps.size = 28 := hb.trans hsz
      have T22 := tmG (hf 16 22 (by decide) (by kernel_rfl) (by rw [hsz]; decide))
      clear hf hg hb
      refine stepI_plain rfl fun L w1 hd hnL hI => ?_
      have e16 : f 16 = ptr pr := hI.get 16 (depG hd 16 (by decide))
      rw [e16] at T22
      go_simp
      exact hI.pass rfl (Fr.refl [] w1) (by decide) (by decide) (by decide) (by decide) (by decide) (by decide)
    · intro b hb hf hg
      have hbs : b.tmps.size = 28 := hb.trans hsz
      have T23 := tmG (hf 17 23 (by decide) (by kernel_rfl) (by rw [hsz]; decide))
      clear hf hg hb
      refine stepI_plain rfl fun L w1 hd hnL hI => ?_
      have e17 : f 17 = .pointer (some ⟨pr, 5, none⟩) := hI.get 17 (depG hd 17 (by decide))
      rw [e17] at T23
      have hc := (HB.out.fr0 hI.2.1).hd.cell 5
      simp only [List.getElem?_cons_zero, List.getElem?_cons_succ] at hc
      go_simp
      exact hI.pass rfl (Fr.refl [] w1) (by decide) (by decide) (by decide) (by decide) (by decide) (by decide)
    · intro b hb hf hg
      have hbs : b.tmps.size = 28 := hb.trans hsz
      have T24 := tmG (hf 18 24 (by decide) (by kernel_rfl) (by rw [hsz]; decide))
      clear hf hg hb
      refine stepI_plain rfl fun L w1 hd hnL hI => ?_
      have e18 : f 18 = ptr pt := hI.get 18 (depG hd 18 (by decide))
      rw [e18] at T24
      have HC := Lib.hid (rcopy_w (HB.out.fr0 hI.2.1).tb Hok.out.1.md)
      go_simp
      refine HC.out.mono ?_
      rintro _ w2 ⟨p', vT', vF', rfl, k1, k2, k3⟩
      exact ⟨_, rfl, hI.table (HN20 L w1 hnL hI 19 rfl (by decide)) k2 k1 k3⟩
    · intro b hb hf hg
      have hbs : b.tmps.size = 28 := hb.trans hsz
      have T9 := tmG (hf 3 9 (by decide) (by kernel_rfl) (by rw [hsz]; decide))
      have T13 := tmG (hf 7 13 (by decide) (by kernel_rfl) (by rw [hsz]; decide))
      have T15 := tmG (hf 9 15 (by decide) (by kernel_rfl) (by rw [hsz]; decide))
      have T20 := tmG (hf 14 20 (by decide) (by kernel_rfl) (by rw [hsz]; decide))
      have T25 := tmG (hf 19 25 (by decide) (by kernel_rfl) (by rw [hsz]; decide))
      clear hf hg hb
      refine stepI_plain rfl fun L w1 hd hnL hI => ?_
      have e3 : f 3 = .int .i64 s.V := hI.get 3 (depG hd 3 (by decide))
      rw [e3] at T9
      have e7 : f 7 = .int .u64 s.last := hI.get 7 (depG hd 7 (by decide))
      rw [e7] at T13
      have l9 := depG hd 9 (by decide); have l14 := depG hd 14 (by decide); have l19 := depG hd 19 (by decide)
      have hb := hI.build l9 l14 l19
      have hI2 := hI
      obtain ⟨_, _, pa2, _, _, _, pt2, _, _, _, k9, k14, k19, _⟩ := hI2
      obtain ⟨a9, c9, e9⟩ := (k9 l9).1.slice
      have e14 := (k14 l14).1
      have e19 := (k19 l19).1
      rw [e9] at T15 hb
      rw [e14] at T20 hb
      rw [e19] at T25 hb
      have Hb := Lib.hid hb
      clear hb k9 k14 k19 hI
      go_simp
      exact Hb.out
    · intro b hb hf hg
      have hbs : b.tmps.size = 28 := hb.trans hsz
      have T26 := tmG (hf 20 26 (by decide) (by kernel_rfl) (by rw [hsz]; decide))
      clear hf hg hb
      refine stepI_plain rfl fun L w1 hd hnL hI => ?_
      have l20 := depG hd 20 (by decide)
      obtain ⟨a9, c9, pa2, pt2, e9, e14, e19, e20⟩ := hI.parts l20
      rw [e20] at T26
      have Hb := Lib.hid (hI.box (HN22 L w1 hnL hI) l20 Hok.out.1 Hok.out.2 e9 e14 e19)
      clear e9 e14 e19 e20 hI
      go_simp
      exact Hb.out
    · intro b hb hf hg
      have hbs : b.tmps.size = 28 := hb.trans hsz
      have T27 := tmG (hf 21 27 (by decide) (by kernel_rfl) (by rw [hsz]; decide))
      clear hf hg hb
      refine stepI_plain rfl fun L w1 hd hnL hI => ?_
      have Hb := Lib.hid (hI.asg (depG hd 21 (by decide)))
      go_simp
      exact Hb.out
  · intro f L w1 hL hI
    obtain ⟨_, hF, _, _, _, _, _, _, _, _, _, _, _, _, k21, k22⟩ := hI
    have e22 := (k22 (hL 22 (by simp))).2
    obtain ⟨p, K', e21, hR, hK⟩ := k21 (hL 21 (by simp))
    rw [e21] at e22
    have HR := Lib.hid (And.intro hR (And.intro hF hK))
    simp only [endA, e22]
    clear hL hR hF hK e22 e21 k21 k22
    go_simp
    go_wp2_with fail
    go_ret
    exact ⟨p, K', rfl, HR.out⟩
end
end Go.Proofs.YtbegdgnhpklceaaGreat

/- The document's store that is nil. -/
namespace Go.Proofs.YtbegdgnhpklceaaGreat
open Go.RowKit
set_option maxRecDepth 10000
set_option maxHeartbeats 800000

def Bdr (_w : World) (v : Value) : Prop := v = .pointer none
theorem Bdr.fr0 {w w' : World} {v : Value} (h : Bdr w v) (_hf : Fr [] w w') : Bdr w' v := h
section
variable {w : World} {v : Value}
theorem valid_rn (h : Bdr w v) : Calls Tryz.prog 51 #[v] w fun e w' => e = .returned (.bool false) ∧ w' = w := by
  obtain rfl := h
  go_enter Tryz.func51, Tryz.ntmps51
  go_wp2
  go_ret
  exact ⟨rfl, rfl⟩
theorem len_rn (h : Bdr w v) : Calls Tryz.prog 29 #[v] w fun e w' => e = .returned (.int .i64 0) ∧ w' = w := by
  have HV := Lib.hid (valid_rn h); clear h
  go_enter Tryz.func29, Tryz.ntmps29
  go_wp2_with fail
  refine HV.out.mono ?_
  rintro _ w ⟨rfl, rfl⟩
  go_wp2
  go_ret
  exact ⟨rfl, rfl⟩
theorem incident_rn (h : Bdr w v) (id : Int) : Calls Tryz.prog 27 #[v, .int .u64 id] w fun e w' => e = .returned nilS ∧ w' = w := by
  have HV := Lib.hid (valid_rn h); clear h
  go_enter Tryz.func27, Tryz.ntmps27
  go_wp2_with fail
  go_loopw [5, 6] (fun y z wr => wr = w ∧ y = nilS ∧ z = .int .i64 0) (fun _ _ _ => 0)
  case atStart => exact ⟨rfl, rfl, rfl⟩
  case round =>
    obtain ⟨rfl, rfl, rfl⟩ := hrel
    rename World => wr
    go_wp2_with fail
    refine HV.out.mono ?_
    rintro _ wr ⟨rfl, rfl⟩
    go_wp2
    go_ret
    exact ⟨rfl, rfl⟩
theorem list_rn (h : Bdr w v) : Calls Tryz.prog 34 #[v] w fun e w' => e = .returned nilS ∧ w' = w := by
  have HV := Lib.hid (valid_rn h); clear h
  go_enter Tryz.func34, Tryz.ntmps34
  go_wp2_with fail
  refine HV.out.mono ?_
  rintro _ w ⟨rfl, rfl⟩
  go_wp2
  go_ret
  exact ⟨rfl, rfl⟩
theorem ids_rn (h : Bdr w v) : Calls Tryz.prog 37 #[v] w fun e w' => e = .returned nilS ∧ w' = w := by
  have HV := Lib.hid (valid_rn h); clear h
  go_enter Tryz.func37, Tryz.ntmps37
  go_wp2_with fail
  refine HV.out.mono ?_
  rintro _ w ⟨rfl, rfl⟩
  go_wp2
  go_ret
  exact ⟨rfl, rfl⟩
theorem verts_rn (h : Bdr w v) : Calls Tryz.prog 31 #[v] w fun e w' => e = .returned (.int .i64 0) ∧ w' = w := by
  have HI := Lib.hid (ids_rn h); clear h
  go_enter Tryz.func31, Tryz.ntmps31
  go_wp2_with fail
  refine HI.out.mono ?_
  rintro _ w ⟨rfl, rfl⟩
  go_wp2
  go_ret
  exact ⟨rfl, rfl⟩
theorem copy_rn (h : Bdr w v) : Calls Tryz.prog 18 #[v] w fun e w' => e = .returned (.pointer none) ∧ w' = w := by
  have HV := Lib.hid (valid_rn h); clear h
  go_enter Tryz.func18, Tryz.ntmps18
  go_wp2_with fail
  refine HV.out.mono ?_
  rintro _ w ⟨rfl, rfl⟩
  go_wp2
  go_ret
  exact ⟨rfl, rfl⟩
theorem index_rn (h : Bdr w v) (id : Int) : Calls Tryz.prog 22 #[v, .int .u64 id] w fun e w' => e = .returned (.tuple #[.int .i64 0, .bool false]) ∧ w' = w := by
  have HV := Lib.hid (valid_rn h); clear h
  go_enter Tryz.func22, Tryz.ntmps22
  go_wp2_with fail
  refine HV.out.mono ?_
  rintro _ w ⟨rfl, rfl⟩
  go_wp2
  go_ret2
  exact ⟨rfl, rfl⟩
theorem id_rn (h : Bdr w v) (i : Int) : Calls Tryz.prog 24 #[v, .int .i64 i] w fun e w' => e = .returned (.tuple #[.int .u64 0, .bool false]) ∧ w' = w := by
  have HV := Lib.hid (valid_rn h); clear h
  go_enter Tryz.func24, Tryz.ntmps24
  go_wp2_with fail
  refine HV.out.mono ?_
  rintro _ w ⟨rfl, rfl⟩
  go_wp2
  go_ret2
  exact ⟨rfl, rfl⟩
theorem check_rn (h : Bdr w v) (a b : Nat) (wt t : Int) : Calls Tryz.prog 16 #[v, recA a b wt t] w fun e w' => e = .returned (.int .i64 1) ∧ Fr [] w w' := by
  have hf : Fr [] w (w.alloc (.cells #[.int .u64 a, .int .u64 b, .int .i64 wt, .int .i64 t] 34)) := (Fr.refl [] w).alloc _
  have HV := Lib.hid (valid_rn (h.fr0 hf))
  have HF := Lib.hid hf
  clear h hf
  go_enter Tryz.func16, Tryz.ntmps16
  go_wp2_with fail
  refine HV.out.mono ?_
  rintro _ w1 ⟨rfl, rfl⟩
  go_wp2
  go_ret
  exact ⟨rfl, HF.out⟩
theorem get_rn (h : Bdr w v) (i : Int) : Calls Tryz.prog 20 #[v, .int .i64 i] w fun e w' => e = .returned (.tuple #[lvA Lv.z, .bool false]) ∧ Fr [] w w' := by
  have hf0 : Fr [] w (w.alloc (.cells #[.int .i64 0, .int .u64 0, .int .u64 0, .int .u64 0, .int .i64 0, .int .i64 0, .int .i64 0] 36)) := (Fr.refl [] w).alloc _
  have hbx : Blk (w.alloc (.cells #[.int .i64 0, .int .u64 0, .int .u64 0, .int .u64 0, .int .i64 0, .int .i64 0, .int .i64 0] 36)) w.heap.size 36 [.int .i64 0, .int .u64 0, .int .u64 0, .int .u64 0, .int .i64 0, .int .i64 0, .int .i64 0] := by
    have := Blk.new w [.int .i64 0, .int .u64 0, .int .u64 0, .int .u64 0, .int .i64 0, .int .i64 0, .int .i64 0] 36
    simpa using this
  have HV := Lib.hid (valid_rn (h.fr0 hf0))
  clear h
  go_enter Tryz.func20, Tryz.ntmps20
  go_wp2_with fail
  have HF := Lib.hid hf0; clear hf0
  generalize w.alloc (.cells #[.int .i64 0, .int .u64 0, .int .u64 0, .int .u64 0, .int .i64 0, .int .i64 0, .int .i64 0] 36) = w1 at *
  go_loopw [6] (fun z wr => wr = w1 ∧ z = .int .i64 0) (fun _ _ => 0)
  case atStart => exact ⟨rfl, rfl⟩
  case round =>
  obtain ⟨rfl, rfl⟩ := hrel
  rename World => w1
  go_wp2_with fail
  refine HV.out.mono ?_
  rintro _ w1 ⟨rfl, rfl⟩
  have z := hbx.frozen
  have t0 := hbx.cell 0; have t1 := hbx.cell 1; have t2 := hbx.cell 2; have t3 := hbx.cell 3; have t4 := hbx.cell 4; have t5 := hbx.cell 5; have t6 := hbx.cell 6
  simp only [List.getElem?_cons_zero, List.getElem?_cons_succ] at t0 t1 t2 t3 t4 t5 t6
  have HX := Lib.hid (hbx.put7 Lv.z); clear hbx
  go_wp2_with fail
  have r := HX.out.lvAt
  unfold LvAt Go.Proofs.YtbegdgnhpklceaaGreat.put7 at r
  simp only [Lv.z, Nat.zero_add, Int.ofNat_zero] at r
  obtain ⟨r0, r1, r2, r3, r4, r5, r6⟩ := r
  exact bodyPost_ret (v := .tuple #[lvA Lv.z, .bool false]) (by simp [results, Tryz.results20, go_sem, r0, r1, r2, r3, r4, r5, r6, Lv.z]) rfl ⟨rfl, HF.out.put7 _ _ Lv.z (.inr (Nat.le_refl _))⟩
theorem rem_rn (h : Bdr w v) (i : Int) : Calls Tryz.prog 14 #[v, .int .i64 i] w fun e w' => e = .returned (.tuple #[lvA Lv.z, .int .i64 1]) ∧ Fr [] w w' := by
  have hf0 : Fr [] w (w.alloc (.cells #[.int .i64 0, .int .u64 0, .int .u64 0, .int .u64 0, .int .i64 0, .int .i64 0, .int .i64 0] 36)) := (Fr.refl [] w).alloc _
  have hbx : Blk (w.alloc (.cells #[.int .i64 0, .int .u64 0, .int .u64 0, .int .u64 0, .int .i64 0, .int .i64 0, .int .i64 0] 36)) w.heap.size 36 [.int .i64 0, .int .u64 0, .int .u64 0, .int .u64 0, .int .i64 0, .int .i64 0, .int .i64 0] := by
    have := Blk.new w [.int .i64 0, .int .u64 0, .int .u64 0, .int .u64 0, .int .i64 0, .int .i64 0, .int .i64 0] 36
    simpa using this
  have HV := Lib.hid (valid_rn (h.fr0 hf0))
  clear h
  go_enter Tryz.func14, Tryz.ntmps14
  go_wp2_with fail
  have HF := Lib.hid hf0; clear hf0
  generalize w.alloc (.cells #[.int .i64 0, .int .u64 0, .int .u64 0, .int .u64 0, .int .i64 0, .int .i64 0, .int .i64 0] 36) = w1 at *
  refine HV.out.mono ?_
  rintro _ w1 ⟨rfl, rfl⟩
  have z := hbx.frozen
  have t0 := hbx.cell 0; have t1 := hbx.cell 1; have t2 := hbx.cell 2; have t3 := hbx.cell 3; have t4 := hbx.cell 4; have t5 := hbx.cell 5; have t6 := hbx.cell 6
  simp only [List.getElem?_cons_zero, List.getElem?_cons_succ] at t0 t1 t2 t3 t4 t5 t6
  have HX := Lib.hid (hbx.put7 Lv.z); clear hbx
  go_wp2_with fail
  have r := HX.out.lvAt
  unfold LvAt Go.Proofs.YtbegdgnhpklceaaGreat.put7 at r
  simp only [Lv.z, Nat.zero_add, Int.ofNat_zero] at r
  obtain ⟨r0, r1, r2, r3, r4, r5, r6⟩ := r
  exact bodyPost_ret (v := .tuple #[lvA Lv.z, .int .i64 1]) (by simp [results, Tryz.results14, go_sem, r0, r1, r2, r3, r4, r5, r6, Lv.z]) rfl ⟨rfl, HF.out.put7 _ _ Lv.z (.inr (Nat.le_refl _))⟩
theorem ins_rn (h : Bdr w v) (a b : Nat) (wt t x : Int) : Calls Tryz.prog 11 #[v, recA a b wt t, .int .i64 x] w fun e w' => e = .returned (.tuple #[lvA Lv.z, .int .i64 1]) ∧ Fr [] w w' := by
  have hf0 : Fr [] w ((w.alloc (.cells #[.int .u64 a, .int .u64 b, .int .i64 wt, .int .i64 t] 34)).alloc (.cells #[.int .i64 0, .int .u64 0, .int .u64 0, .int .u64 0, .int .i64 0, .int .i64 0, .int .i64 0] 36)) := ((Fr.refl [] w).alloc _).alloc _
  have hbx : Blk ((w.alloc (.cells #[.int .u64 a, .int .u64 b, .int .i64 wt, .int .i64 t] 34)).alloc (.cells #[.int .i64 0, .int .u64 0, .int .u64 0, .int .u64 0, .int .i64 0, .int .i64 0, .int .i64 0] 36)) (w.heap.size + 1) 36 [.int .i64 0, .int .u64 0, .int .u64 0, .int .u64 0, .int .i64 0, .int .i64 0, .int .i64 0] := by
    have := Blk.new (w.alloc (.cells #[.int .u64 a, .int .u64 b, .int .i64 wt, .int .i64 t] 34)) [.int .i64 0, .int .u64 0, .int .u64 0, .int .u64 0, .int .i64 0, .int .i64 0, .int .i64 0] 36
    simpa using this
  have HC := Lib.hid (check_rn (h.fr0 hf0) a b wt t)
  clear h
  go_enter Tryz.func11, Tryz.ntmps11
  go_wp2_with fail
  generalize (w.alloc (.cells #[.int .u64 a, .int .u64 b, .int .i64 wt, .int .i64 t] 34)).alloc (.cells #[.int .i64 0, .int .u64 0, .int .u64 0, .int .u64 0, .int .i64 0, .int .i64 0, .int .i64 0] 36) = w1 at *
  refine HC.out.mono ?_
  rintro _ w2 ⟨rfl, h2⟩
  have hb2 := h2.blk hbx (by simp)
  have HF := Lib.hid (hf0.trans' h2)
  have z := hb2.frozen
  have t0 := hb2.cell 0; have t1 := hb2.cell 1; have t2 := hb2.cell 2; have t3 := hb2.cell 3; have t4 := hb2.cell 4; have t5 := hb2.cell 5; have t6 := hb2.cell 6
  simp only [List.getElem?_cons_zero, List.getElem?_cons_succ] at t0 t1 t2 t3 t4 t5 t6
  have HX := Lib.hid (hb2.put7 Lv.z); clear hbx hb2 h2 hf0 HC
  go_wp2_with fail
  have r := HX.out.lvAt
  unfold LvAt Go.Proofs.YtbegdgnhpklceaaGreat.put7 at r
  simp only [Lv.z, Nat.zero_add, Int.ofNat_zero] at r
  obtain ⟨r0, r1, r2, r3, r4, r5, r6⟩ := r
  exact bodyPost_ret (v := .tuple #[lvA Lv.z, .int .i64 1]) (by simp [results, Tryz.results11, go_sem, r0, r1, r2, r3, r4, r5, r6, Lv.z]) rfl ⟨rfl, HF.out.put7 _ _ Lv.z (.inr (Nat.le_succ _))⟩
end
end Go.Proofs.YtbegdgnhpklceaaGreat

/- How values of flat types (structs of integers and bools) and slices of them read. -/
namespace Go.Proofs.YtbegdgnhpklceaaGreat
open Go.ChangeShapes Go.WideShapes Go.ChangeAt Go.RowKit Go.Deep

/-- The kind of a cell. -/
inductive FK where
  | i (k : IntKind)
  | b
def FK.ok : FK → Value → Prop
  | .i k, v => ∃ n : Int, v = .int k n ∧ (Lit.int k n).wf = true
  | .b, v => ∃ x : Bool, v = .bool x

/-- A type whose values are cells of these kinds. -/
def Flat (P : Program) (t : TypeId) (ks : List FK) : Prop :=
  P.cellsOf t = ks.length ∧ ∀ {H : Type} {enc : TypeId × Value → H} {w : World} {base : Nat} {spare : Nat → Bool} {held : Bool} {fuel : Nat} {cs : List Value} {x : DataW H × List MemPlace},
    DataW.trod enc P w base spare held fuel t cs = some x → ∀ (j : Nat) (k : FK), ks[j]? = some k → ∃ v, cs[j]? = some v ∧ k.ok v

theorem Flat.int {P : Program} {t : TypeId} {k : IntKind} (ht : P.underlying t = some (.int k)) (hc : P.cellsOf t = 1) : Flat P t [.i k] := by
  refine ⟨hc, fun h j k' hj => ?_⟩
  obtain ⟨n, rfl, _, hw⟩ := DataW.trod_int ht h
  cases j with
  | zero => simp at hj; subst hj; exact ⟨_, rfl, n, rfl, hw⟩
  | succ j => simp at hj
theorem Flat.bool {P : Program} {t : TypeId} (ht : P.underlying t = some .bool) (hc : P.cellsOf t = 1) : Flat P t [.b] := by
  refine ⟨hc, fun h j k' hj => ?_⟩
  obtain ⟨n, rfl, _⟩ := DataW.trod_bool ht h
  cases j with
  | zero => simp at hj; subst hj; exact ⟨_, rfl, n, rfl⟩
  | succ j => simp at hj
theorem Flat.struct {P : Program} {t : TypeId} {fs : Array Field} {ks : List FK} (ht : P.underlying t = some (.struct fs)) (hc : P.cellsOf t = ks.length)
    (hcov : ∀ (j : Nat) (k : FK), ks[j]? = some k → ∃ (i : Nat) (f : Field) (fk : List FK), fs[i]? = some f ∧ Flat P f.type fk ∧ f.offset ≤ j ∧ fk[j - f.offset]? = some k) : Flat P t ks := by
  refine ⟨hc, fun h j k hj => ?_⟩
  obtain ⟨xs, n, _, _, hl, hlen, hf⟩ := DataW.trod_struct ht h
  obtain ⟨i, f, fk, hi, hfl, hoff, hk⟩ := hcov j k hj
  have h1 := hf i f hi
  have hil : i < xs.length := by rw [hlen]; exact (Array.getElem?_eq_some_iff.1 hi).1
  rw [List.getElem?_eq_getElem hil] at h1
  obtain ⟨v, hv, hok⟩ := hfl.2 h1 (j - f.offset) k hk
  refine ⟨v, ?_, hok⟩
  rw [List.getElem?_take] at hv
  split at hv
  · rw [List.getElem?_drop] at hv
    rw [← hv]; congr 1; omega
  · cases hv

theorem cell_no_spot' {W : World} {y : Addr} {v : Value} (h : W.cell? y = some v) : y.spot = none := by
  unfold World.cell? at h
  split at h
  · by_cases hs : y.spot.isSome = true
    · rw [if_pos hs] at h; cases h
    · cases hy : y.spot with
      | none => rfl
      | some s => rw [hy] at hs; exact absurd rfl hs
  · cases h

/-- A slice of flat elements: z i j is cell j of element i. -/
def FlatF (w : World) (a : Option Addr) (len : Nat) (ks : List FK) (z : Nat → Nat → Value) : Prop :=
  len ≤ 9223372036854775807 ∧ ∀ i, i < len → ∃ b off, a = some ⟨b, off, none⟩ ∧ b < w.heap.size ∧ ∀ (j : Nat) (k : FK), ks[j]? = some k → w.cell? ⟨b, off + i * ks.length + j, none⟩ = some (z i j) ∧ k.ok (z i j)
theorem FlatF.below {w w' : World} {a : Option Addr} {len : Nat} {ks : List FK} {z : Nat → Nat → Value} (h : FlatF w a len ks z) (hb : Below w.heap.size w w') : FlatF w' a len ks z := by
  refine ⟨h.1, fun i hi => ?_⟩
  obtain ⟨b, off, rfl, hlt, h1⟩ := h.2 i hi
  exact ⟨b, off, rfl, Nat.lt_of_lt_of_le hlt hb.size, fun j k hj => ⟨(hb.cell (p := ⟨b, off + i * ks.length + j, none⟩) hlt).trans (h1 j k hj).1, (h1 j k hj).2⟩⟩

theorem open_flat {H : Type} {enc : TypeId × Value → H} {W : World} {P : Program} {t e : TypeId} {ks : List FK} (ht : P.underlying t = some (.slice e)) (he : Flat P e ks) (hks : 0 < ks.length) {a : Option Addr} {len cap : Nat} {d : DataW H} {p : List MemPlace}
    (h : DataW.Trod enc P W 0 (fun _ => true) true t (.slice a len cap) d p) : ∃ z, FlatF W a len ks z := by
  obtain ⟨fuel, hf⟩ := h
  rcases open_slice ht hf with ⟨hcs, _⟩ | ⟨x, l, c, m, n, D, Pl, hcs, _, hl, hm, hmm, _, hel⟩
  · simp [Value.cells] at hcs
    obtain ⟨rfl, rfl, rfl⟩ := hcs
    exact ⟨fun _ _ => undef, by omega, fun i hi => absurd hi (Nat.not_lt_zero _)⟩
  · simp [Value.cells] at hcs
    obtain ⟨rfl, rfl, rfl⟩ := hcs
    have hml : len ≤ m := by rw [hmm]; simpa using hl
    have key : ∀ i, ∃ u : Nat → Value, i < len → ∀ (j : Nat) (k : FK), ks[j]? = some k → W.cell? ((x.add (i * ks.length)).add j) = some (u j) ∧ k.ok (u j) := by
      intro i
      by_cases hi : i < len
      · obtain ⟨cs', hc, ht⟩ := hel i (by omega)
        rw [he.1] at hc
        obtain ⟨_, _, hat⟩ := World.cells?_some hc
        refine ⟨fun j => cs'.getD j undef, fun _ j k hj => ?_⟩
        obtain ⟨v, hv, hok⟩ := he.2 ht j k hj
        have hjl : j < ks.length := (List.getElem?_eq_some_iff.1 hj).1
        have e1 : cs'.getD j undef = v := by rw [List.getD_eq_getElem?_getD, hv]; rfl
        show W.cell? ((x.add (i * ks.length)).add j) = some (cs'.getD j undef) ∧ k.ok (cs'.getD j undef)
        rw [e1]
        exact ⟨(hat j hjl).trans hv, hok⟩
      · exact ⟨fun _ => undef, fun h => absurd h hi⟩
    obtain ⟨F, hF⟩ := Classical.axiomOfChoice key
    refine ⟨F, by unfold maxLen at hm; omega, fun i hi => ?_⟩
    have hne : ∃ k, ks[0]? = some k := ⟨_, List.getElem?_eq_getElem hks⟩
    obtain ⟨k0, hk0⟩ := hne
    have hsp := cell_no_spot' (hF 0 (by omega) 0 k0 hk0).1
    have z0 : (x.add (0 * ks.length)).add 0 = x := by simp [Addr.add]
    rw [z0] at hsp
    obtain ⟨b, off, sp⟩ := x
    simp only at hsp
    subst hsp
    have h1 := hF i hi
    simp only [Addr.add_lit] at h1
    exact ⟨b, off, rfl, cell_lt (h1 0 k0 hk0).1, h1⟩

/-- A flat value that is handed over as such: an aggregate of its cells. -/
theorem open_agg {H : Type} {enc : TypeId × Value → H} {W : World} {P : Program} {t : TypeId} {fs : Array Field} {ks : List FK} {base : Nat} {v : Value} {d : DataW H} {p : List MemPlace} (ht : P.underlying t = some (.struct fs)) (he : Flat P t ks)
    (hv : Value.okWide P W .any base t v) (h : DataW.Trod enc P W 0 (fun _ => true) true t v d p) : ∃ cs : List Value, v = .agg cs.toArray ∧ cs.length = ks.length ∧ ∀ (j : Nat) (k : FK), ks[j]? = some k → ∃ u, cs[j]? = some u ∧ k.ok u := by
  obtain ⟨fuel, hf⟩ := h
  unfold Value.okWide at hv
  simp only [ht] at hv
  obtain ⟨cs, rfl, hsz, _⟩ := hv
  obtain ⟨xs, n, _, _, hl, hlen, _⟩ := DataW.trod_struct ht hf
  have h2 := he.2 hf
  simp only [Value.cells] at hl h2
  exact ⟨cs.toList, by simp, by rw [hl, he.1], h2⟩
end Go.Proofs.YtbegdgnhpklceaaGreat

namespace Go.Proofs.YtbegdgnhpklceaaGreat
open Go.RowKit
set_option maxRecDepth 10000
set_option maxHeartbeats 1000000

def lvEq (e f : Lv) : Bool := decide (e = f)
def recEq (e f : Lv) : Bool := (e.u == f.u) && (e.v == f.v) && (e.wt == f.wt) && (e.t == f.t)
theorem eqIn_rec (u v u' v' : Nat) (wt t wt' t' : Int) (w : World) : (Op.equalIn 9999 34 (.agg #[.int .u64 u, .int .u64 v, .int .i64 wt, .int .i64 t]) (.agg #[.int .u64 u', .int .u64 v', .int .i64 wt', .int .i64 t'])).run Tryz.prog w = .ok ((u == u') && (v == v') && (wt == wt') && (t == t')) w := by
  have hc : ∀ (a b : Nat), ((a : Int) == (b : Int)) = (a == b) := fun a b => by rw [Bool.eq_iff_iff]; simp only [beq_iff_eq]; omega
  rw [show (9999 : Nat) = 9998 + 1 from rfl, run_equalIn_struct w 9998 _ _ _ (by kernel_rfl) (by kernel_rfl)]
  simp only [Program.fieldsOf, Tryz.underlying34, Op.eqFields]
  go_simp
  by_cases h1 : u = u' <;> by_cases h2 : v = v' <;> by_cases h3 : wt = wt' <;> by_cases h4 : t = t' <;> simp [h1, h2, h3, h4]
theorem eqIn_live0 (a a' b b' u v u' v' : Nat) (wt t x wt' t' x' : Int) (w : World) : (Op.equalIn 10000 36 (.agg #[.int .i64 a, .int .u64 b, .int .u64 u, .int .u64 v, .int .i64 wt, .int .i64 t, .int .i64 x]) (.agg #[.int .i64 a', .int .u64 b', .int .u64 u', .int .u64 v', .int .i64 wt', .int .i64 t', .int .i64 x'])).run Tryz.prog w = .ok ((a == a') && (b == b') && ((u == u') && (v == v') && (wt == wt') && (t == t')) && (x == x')) w := by
  have hc : ∀ (a b : Nat), ((a : Int) == (b : Int)) = (a == b) := fun a b => by rw [Bool.eq_iff_iff]; simp only [beq_iff_eq]; omega
  have hr := fun w => eqIn_rec u v u' v' wt t wt' t' w
  generalize ((u == u') && (v == v') && (wt == wt') && (t == t')) = r at *
  rw [show (10000 : Nat) = 9999 + 1 from rfl, run_equalIn_struct w 9999 _ _ _ (by kernel_rfl) (by kernel_rfl)]
  simp only [Program.fieldsOf, Tryz.underlying36, Op.eqFields]
  go_simp
  cases r <;> by_cases h1 : a = a' <;> by_cases h2 : b = b' <;> by_cases h3 : x = x' <;> simp [h1, h2, h3]
@[go_sem high] theorem eqIn_live (e f : Lv) (w : World) : (Op.equalIn 10000 36 (.agg #[.int .i64 e.slot, .int .u64 e.seq, .int .u64 e.u, .int .u64 e.v, .int .i64 e.wt, .int .i64 e.t, .int .i64 e.x]) (.agg #[.int .i64 f.slot, .int .u64 f.seq, .int .u64 f.u, .int .u64 f.v, .int .i64 f.wt, .int .i64 f.t, .int .i64 f.x])).run Tryz.prog w = .ok (lvEq e f) w := by
  rw [eqIn_live0]
  congr 1
  unfold lvEq
  rw [Bool.eq_iff_iff]
  obtain ⟨a, b, u, v, wt, t, x⟩ := e
  obtain ⟨a', b', u', v', wt', t', x'⟩ := f
  simp [and_assoc]
@[go_sem] theorem guard_live (op : BinOp) (x y : Operand) (xs ys : Array Value) (w : World) : (eqGuard op 36 x y (.agg xs) (.agg ys)).run Tryz.prog w = .ok () w := run_eqGuard_agg w op 36 x y xs ys (by kernel_rfl)

theorem Fr.of_drewN (w : World) (k : Nat) : Fr [] w (w.drewN k) := (Fr.refl [] w).drewN k
theorem same_w {w : World} {v u : Value} {p q : List Lv} (hv : RowV w v p) (hu : RowV w u q) (hp : p.length ≤ 65536) (_hq : q.length ≤ 65536) :
    Calls Tryz.prog 32 #[v, u] w fun e w' => e = .returned (.bool (decide (p = q))) ∧ Fr [] w w' := by
  obtain ⟨a1, c1, rfl⟩ := hv.slice
  obtain ⟨a2, c2, rfl⟩ := hu.slice
  have HV := Lib.hid hv; clear hv
  have HU := Lib.hid hu; clear hu
  by_cases hl : p.length = q.length
  · have hb : ((p.length : Int) != (q.length : Int)) = false := by simp; omega
    go_enter Tryz.func32, Tryz.ntmps32
    go_wp2
    go_loopw [5] (fun x wr => ∃ i : Nat, i ≤ p.length ∧ x = .int .i64 i ∧ (∃ k, wr = w.drewN k) ∧ Hid (p.take i = q.take i)) (fun x _ => p.length - (intOf x).toNat)
    case atStart => exact ⟨0, Nat.zero_le _, rfl, ⟨0, rfl⟩, Lib.hid (by simp)⟩
    case round =>
      obtain ⟨i, hi, rfl, ⟨k, rfl⟩, HT⟩ := hrel
      by_cases hlt : i < p.length
      · obtain ⟨b1, c1', e1, _, _, _, r1⟩ := HV.out.at hlt
        obtain ⟨b2, c2', e2, _, _, _, r2⟩ := HU.out.at (show i < q.length by omega)
        simp only [Value.slice.injEq, true_and] at e1 e2
        obtain ⟨rfl, rfl⟩ := e1
        obtain ⟨rfl, rfl⟩ := e2
        have hi1 : (i : Int) < p.length := by omega
        have hi2 : (i : Int) < q.length := by omega
        have hi0 : (0 : Int) ≤ i := by omega
        have hgp : p[i]? = some (p[i]'hlt) := List.getElem?_eq_getElem hlt
        have hgq : q[i]? = some (q[i]'(by omega)) := List.getElem?_eq_getElem (by omega)
        have Hg := Lib.hid (And.intro hgp hgq); clear hgp hgq
        generalize p[i]'hlt = x at *
        generalize q[i]'(by omega) = y at *
        obtain ⟨x0, x1, x2, x3, x4, x5, x6⟩ := r1
        obtain ⟨y0, y1, y2, y3, y4, y5, y6⟩ := r2
        by_cases hxy : x = y
        · have hne : lvEq x y = true := decide_eq_true hxy
          have Hxy := Lib.hid hxy; clear hxy
          go_wp2
          go_quiet (fail)
          go_wp2
          go_roundw
          case rel =>
            refine ⟨i + 1, by omega, by go_num, ⟨_, rfl⟩, Lib.hid ?_⟩
            rw [List.take_add_one, List.take_add_one, HT.out, Hg.out.1, Hg.out.2, Hxy.out]
          case measure => simp [intOf]; omega
        · have hne : lvEq x y = false := decide_eq_false hxy
          have Hxy := Lib.hid hxy; clear hxy
          go_wp2
          go_quiet (fail)
          go_wp2
          go_ret
          refine ⟨?_, (Fr.of_drewN w k).drewN _⟩
          have : decide (p = q) = false := decide_eq_false (fun e => by
            have h1 := Hg.out.1; have h2 := Hg.out.2
            rw [e, h2] at h1
            exact Hxy.out (Option.some.inj h1).symm)
          rw [this]; rfl
      · obtain rfl : i = p.length := by omega
        go_wp2
        go_ret
        refine ⟨?_, Fr.of_drewN w k⟩
        have : p = q := by
          have := HT.out
          rwa [List.take_length, hl, List.take_length] at this
        rw [decide_eq_true this]; rfl
  · have hb : ((p.length : Int) != (q.length : Int)) = true := by simp; omega
    go_enter Tryz.func32, Tryz.ntmps32
    go_wp2
    go_ret
    have : decide (p = q) = false := decide_eq_false (fun e => hl (by rw [e]))
    exact ⟨by rw [this]; rfl, Fr.refl _ _⟩
theorem sameIDs_w {w : World} {v u : Value} {p q : List Nat} (hv : RowU w v p) (hu : RowU w u q) (hp : p.length ≤ 65536) (_hq : q.length ≤ 65536) :
    Calls Tryz.prog 35 #[v, u] w fun e w' => e = .returned (.bool (decide (p = q))) ∧ Fr [] w w' := by
  obtain ⟨a1, c1, rfl⟩ := hv.slice
  obtain ⟨a2, c2, rfl⟩ := hu.slice
  have HV := Lib.hid hv; clear hv
  have HU := Lib.hid hu; clear hu
  by_cases hl : p.length = q.length
  · have hb : ((p.length : Int) != (q.length : Int)) = false := by simp; omega
    go_enter Tryz.func35, Tryz.ntmps35
    go_wp2
    go_loopw [5] (fun x wr => ∃ i : Nat, i ≤ p.length ∧ x = .int .i64 i ∧ (∃ k, wr = w.drewN k) ∧ Hid (p.take i = q.take i)) (fun x _ => p.length - (intOf x).toNat)
    case atStart => exact ⟨0, Nat.zero_le _, rfl, ⟨0, rfl⟩, Lib.hid (by simp)⟩
    case round =>
      obtain ⟨i, hi, rfl, ⟨k, rfl⟩, HT⟩ := hrel
      by_cases hlt : i < p.length
      · obtain ⟨b1, c1', e1, _, r1⟩ := HV.out.at hlt
        obtain ⟨b2, c2', e2, _, r2⟩ := HU.out.at (show i < q.length by omega)
        simp only [Value.slice.injEq, true_and] at e1 e2
        obtain ⟨rfl, rfl⟩ := e1
        obtain ⟨rfl, rfl⟩ := e2
        have hi1 : (i : Int) < p.length := by omega
        have hi2 : (i : Int) < q.length := by omega
        have hi0 : (0 : Int) ≤ i := by omega
        have hgp : p[i]? = some (p[i]'hlt) := List.getElem?_eq_getElem hlt
        have hgq : q[i]? = some (q[i]'(by omega)) := List.getElem?_eq_getElem (by omega)
        have Hg := Lib.hid (And.intro hgp hgq); clear hgp hgq
        generalize p[i]'hlt = x at *
        generalize q[i]'(by omega) = y at *
        by_cases hxy : x = y
        · have hne : ((x : Int) != (y : Int)) = false := by simp; omega
          have Hxy := Lib.hid hxy; clear hxy
          go_wp2
          go_quiet (fail)
          go_wp2
          go_roundw
          case rel =>
            refine ⟨i + 1, by omega, by go_num, ⟨_, rfl⟩, Lib.hid ?_⟩
            rw [List.take_add_one, List.take_add_one, HT.out, Hg.out.1, Hg.out.2, Hxy.out]
          case measure => simp [intOf]; omega
        · have hne : ((x : Int) != (y : Int)) = true := by simp; omega
          have Hxy := Lib.hid hxy; clear hxy
          go_wp2
          go_quiet (fail)
          go_wp2
          go_ret
          refine ⟨?_, (Fr.of_drewN w k).drewN _⟩
          have : decide (p = q) = false := decide_eq_false (fun e => by
            have h1 := Hg.out.1; have h2 := Hg.out.2
            rw [e, h2] at h1
            exact Hxy.out (Option.some.inj h1).symm)
          rw [this]; rfl
      · obtain rfl : i = p.length := by omega
        go_wp2
        go_ret
        refine ⟨?_, Fr.of_drewN w k⟩
        have : p = q := by
          have := HT.out
          rwa [List.take_length, hl, List.take_length] at this
        rw [decide_eq_true this]; rfl
  · have hb : ((p.length : Int) != (q.length : Int)) = true := by simp; omega
    go_enter Tryz.func35, Tryz.ntmps35
    go_wp2
    go_ret
    have : decide (p = q) = false := decide_eq_false (fun e => hl (by rw [e]))
    exact ⟨by rw [this]; rfl, Fr.refl _ _⟩
theorem sameInts_w {w : World} {v u : Value} {p q : List Nat} (hv : RowI w v p) (hu : RowI w u q) (hp : p.length ≤ 65536) (_hq : q.length ≤ 65536) :
    Calls Tryz.prog 25 #[v, u] w fun e w' => e = .returned (.bool (decide (p = q))) ∧ Fr [] w w' := by
  obtain ⟨a1, c1, rfl⟩ := hv.slice
  obtain ⟨a2, c2, rfl⟩ := hu.slice
  have HV := Lib.hid hv; clear hv
  have HU := Lib.hid hu; clear hu
  by_cases hl : p.length = q.length
  · have hb : ((p.length : Int) != (q.length : Int)) = false := by simp; omega
    go_enter Tryz.func25, Tryz.ntmps25
    go_wp2
    go_loopw [5] (fun x wr => ∃ i : Nat, i ≤ p.length ∧ x = .int .i64 i ∧ (∃ k, wr = w.drewN k) ∧ Hid (p.take i = q.take i)) (fun x _ => p.length - (intOf x).toNat)
    case atStart => exact ⟨0, Nat.zero_le _, rfl, ⟨0, rfl⟩, Lib.hid (by simp)⟩
    case round =>
      obtain ⟨i, hi, rfl, ⟨k, rfl⟩, HT⟩ := hrel
      by_cases hlt : i < p.length
      · obtain ⟨b1, c1', e1, _, r1⟩ := HV.out.at hlt
        obtain ⟨b2, c2', e2, _, r2⟩ := HU.out.at (show i < q.length by omega)
        simp only [Value.slice.injEq, true_and] at e1 e2
        obtain ⟨rfl, rfl⟩ := e1
        obtain ⟨rfl, rfl⟩ := e2
        have hi1 : (i : Int) < p.length := by omega
        have hi2 : (i : Int) < q.length := by omega
        have hi0 : (0 : Int) ≤ i := by omega
        have hgp : p[i]? = some (p[i]'hlt) := List.getElem?_eq_getElem hlt
        have hgq : q[i]? = some (q[i]'(by omega)) := List.getElem?_eq_getElem (by omega)
        have Hg := Lib.hid (And.intro hgp hgq); clear hgp hgq
        generalize p[i]'hlt = x at *
        generalize q[i]'(by omega) = y at *
        by_cases hxy : x = y
        · have hne : ((x : Int) != (y : Int)) = false := by simp; omega
          have Hxy := Lib.hid hxy; clear hxy
          go_wp2
          go_quiet (fail)
          go_wp2
          go_roundw
          case rel =>
            refine ⟨i + 1, by omega, by go_num, ⟨_, rfl⟩, Lib.hid ?_⟩
            rw [List.take_add_one, List.take_add_one, HT.out, Hg.out.1, Hg.out.2, Hxy.out]
          case measure => simp [intOf]; omega
        · have hne : ((x : Int) != (y : Int)) = true := by simp; omega
          have Hxy := Lib.hid hxy; clear hxy
          go_wp2
          go_quiet (fail)
          go_wp2
          go_ret
          refine ⟨?_, (Fr.of_drewN w k).drewN _⟩
          have : decide (p = q) = false := decide_eq_false (fun e => by
            have h1 := Hg.out.1; have h2 := Hg.out.2
            rw [e, h2] at h1
            exact Hxy.out (Option.some.inj h1).symm)
          rw [this]; rfl
      · obtain rfl : i = p.length := by omega
        go_wp2
        go_ret
        refine ⟨?_, Fr.of_drewN w k⟩
        have : p = q := by
          have := HT.out
          rwa [List.take_length, hl, List.take_length] at this
        rw [decide_eq_true this]; rfl
  · have hb : ((p.length : Int) != (q.length : Int)) = true := by simp; omega
    go_enter Tryz.func25, Tryz.ntmps25
    go_wp2
    go_ret
    have : decide (p = q) = false := decide_eq_false (fun e => hl (by rw [e]))
    exact ⟨by rw [this]; rfl, Fr.refl _ _⟩
end Go.Proofs.YtbegdgnhpklceaaGreat
