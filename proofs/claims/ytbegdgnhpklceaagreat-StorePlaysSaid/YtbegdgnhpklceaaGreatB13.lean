/- store: Insert. -/
import Derived.Test.YtbegdgnhpklceaaGreatB12
import Derived.Test.YtbegdgnhpklceaaGreatB5
import Derived.Test.YtbegdgnhpklceaaGreatB11
import Derived.Test.YtbegdgnhpklceaaGreatB6
import Derived.Deep.RegionHeld3
import Derived.StillTailTactics
set_option linter.unusedSimpArgs false
set_option linter.unusedVariables false
/- The document's arena: Free, Copy. -/
namespace Go.Proofs.YtbegdgnhpklceaaGreat
open Go.RowKit
set_option maxRecDepth 10000
set_option maxHeartbeats 800000

section
variable {w w' : World} {pr m : Nat} {vU vC vR : Value} {us : List Value} {c fl : List Nat}
theorem RAr0.addR (h : RAr0 w pr vU vC vR m us c fl) {w4 : World} {g' cap' i : Nat} (box : Obj)
    (hown : w4.ownsRow 0 3 1 (.slice (some ⟨g', 0, none⟩) (fl.length + 1) cap') (fl.length + 1) (encN fl.reverse ++ [.int .i64 i]))
    (hgrow : (w.alloc box).grownBy w4 vR.ownBlock) (hg : vR.ownBlock = some g' ∨ (w.alloc box).heap.size ≤ g') :
    RAr0 (w4.setCell ⟨pr, 4, none⟩ (.slice (some ⟨g', 0, none⟩) (fl.length + 1) cap')) pr vU vC (.slice (some ⟨g', 0, none⟩) (fl.length + 1) cap') m us c (i :: fl) ∧
      Fr (rAB pr vU vC vR) w (w4.setCell ⟨pr, 4, none⟩ (.slice (some ⟨g', 0, none⟩) (fl.length + 1) cap')) ∧ ∀ q ∈ rAB pr vU vC (.slice (some ⟨g', 0, none⟩) (fl.length + 1) cap'), q ∈ rAB pr vU vC vR ∨ w.heap.size ≤ q := by
  have hlp := h.hd.lt
  simp only [World.size_alloc] at hg
  have hF4 : Fr vR.ownBlock.toList w w4 := ((Fr.refl _ _).alloc _).grown hgrow (fun q e => .inl (by simp [e]))
  have hd4 := hF4.blk h.hd (fun hm => h.aR (by simpa using hm))
  have hg' : g' ≠ pr := by
    rintro rfl
    rcases hg with e | e
    · exact h.aR e
    · omega
  have e : encN (i :: fl).reverse = encN fl.reverse ++ [.int .i64 i] := by simp [encN]
  refine ⟨⟨hd4.set 4 _, ?_, ?_, ?_, h.aU, h.aC, by simpa [Value.ownBlock] using hg', h.aUC, fun q hq e => ?_, fun q hq e => ?_⟩, ?_, ?_⟩
  · exact ownsRow_other (ownsRow_same h.use (fun q hq => hF4.keep q (h.use.lt q hq).2 (fun hm => h.aUR q hq (by simpa using hm)))) _ _ h.aU
  · exact ownsRow_other (ownsRow_same h.cnt (fun q hq => hF4.keep q (h.cnt.lt q hq).2 (fun hm => h.aCR q hq (by simpa using hm)))) _ _ h.aC
  · simp only [List.length_cons, e]
    exact ownsRow_other hown _ _ (by simpa [Value.ownBlock] using hg')
  · simp only [Value.ownBlock, Option.some.injEq] at e
    subst e
    rcases hg with hh | hh
    · exact h.aUR _ hq hh
    · have := (h.use.lt _ hq).2; omega
  · simp only [Value.ownBlock, Option.some.injEq] at e
    subst e
    rcases hg with hh | hh
    · exact h.aCR _ hq hh
    · have := (h.cnt.lt _ hq).2; omega
  · refine (hF4.mono (fun q hq => .inl ?_)).setCell _ _ (.inl (by simp [rAB]))
    simp only [rAB, List.mem_cons, List.mem_append]; exact .inr (.inr (.inr hq))
  · intro q hq
    have e1 : (Value.slice (some ⟨g', 0, none⟩) (fl.length + 1) cap').ownBlock = some g' := rfl
    simp only [rAB, e1, Option.toList_some, List.mem_append, List.mem_cons, List.not_mem_nil, or_false] at hq ⊢
    rcases hq with rfl | hq | hq | rfl
    · exact .inl (.inl rfl)
    · exact .inl (.inr (.inl hq))
    · exact .inl (.inr (.inr (.inl hq)))
    · rcases hg with e | e
      · exact .inl (.inr (.inr (.inr (by rw [e]; simp))))
      · exact .inr (by omega)
end
section
variable {w : World} {pr : Nat} {vU vC vR : Value} {A : Ar} {c : List Nat} {n : Nat}
theorem rafree_w (h : RArn w pr vU vC vR A c) (hok : A.ok) {i : Nat} (hu : A.isUsed i) :
    Calls Tryz.prog 53 #[ptr pr, .int .i64 i] w fun e w' => e = .returned (.int .i64 0) ∧
      ∃ vR', RArn w' pr vU vC vR' (A.put i) c ∧ Fr (rAB pr vU vC vR) w w' ∧ ∀ q ∈ rAB pr vU vC vR', q ∈ rAB pr vU vC vR ∨ w.heap.size ≤ q := by
  have hb := hok.hb
  have hs := hok.hs
  have hfl := hok.len
  have hlt : i < A.slots := by have := hu.1; omega
  have HV := Lib.hid (rav_w h)
  have HX := Lib.hid (raex_w h hlt)
  have hub : A.usedB i = true := Ar.usedB_iff.2 hu
  have hus : (useL A).set i (.bool false) = useL (A.put i) := useL_set rfl (fun j => Ar.usedB_put j)
  have Hus := Lib.hid hus; clear hus hok hu
  obtain ⟨gU, capU, rfl, _, _, uc, uf⟩ := ownsRow_at h.use hlt
  rw [useL_at hlt, hub] at uc
  have uf := uf i
  obtain ⟨aC, cC, rfl⟩ := h.slC
  obtain ⟨aR, cR, rfl⟩ := h.slR
  have c2 := h.hd.cell 2
  simp only [List.getElem?_cons_zero, List.getElem?_cons_succ] at c2
  have hne1 : gU ≠ pr := fun e => h.aU (by rw [e]; rfl)
  have hne3 : pr ≠ gU := Ne.symm hne1
  have HR1 := Lib.hid (h.setU (i := i) (.bool false))
  have HF1 := Lib.hid ((Fr.refl (rAB pr (.slice (some ⟨gU, 0, none⟩) A.slots capU) (.slice aC A.slots cC) (.slice aR A.free.length cR)) w).setCell ⟨gU, i, none⟩ (.bool false) (.inl (by simp [rAB, Value.ownBlock])))
  have hii : (i : Int) < A.slots := by omega
  have hi0 : (0 : Int) ≤ i := by omega
  clear h hub
  go_enter Tryz.func53, Tryz.ntmps53
  go_wp2_with fail
  refine HV.out.mono ?_
  rintro _ w ⟨rfl, rfl⟩
  clear HV
  go_wp2_with fail
  refine HX.out.mono ?_
  rintro _ w ⟨rfl, rfl⟩
  clear HX
  have d4 := HR1.out.hd.cell 4
  have f4 := HR1.out.hd.frozen 4
  simp only [List.getElem?_cons_zero, List.getElem?_cons_succ] at d4
  go_wp2_with (at_builtin; refine wpList_appK rfl _ _ 56 rfl 3 (.int .i64 0) 1 8 Tryz.underlying56 Tryz.info3 rfl (by decide) (.slice aR A.free.length cR) A.free.length _ rfl (HR1.out.ret.alloc _) w.heap.size 3 [.int .i64 i] rfl (Blk.new' _ _ _ (by simp)) rfl (by simp [Value.oneCell']) (by omega) (by decide) ?_; intro g' cap' w4 hown4 hgrow4 hg4; obtain ⟨hR4, hF4, hq4⟩ := RAr0.addR HR1.out _ hown4 hgrow4 hg4; have hk4 := (((Fr.refl _ _).alloc _).grown (S := (Value.slice aR A.free.length cR).ownBlock.toList) hgrow4 (fun q e => .inl (by simp [e]))).blk HR1.out.hd (fun hm => HR1.out.aR (by simpa using hm)); have z4 := hk4.frozen 4; have y4 := hk4.cell 4; simp only [List.getElem?_cons_zero, List.getElem?_cons_succ] at y4)
  go_ret
  refine ⟨rfl, .slice (some ⟨g', 0, none⟩) (A.free.length + 1) cap', ?_, HF1.out.trans' hF4, fun q hq => ?_⟩
  · show RAr0 _ pr _ _ _ A.slots (useL (A.put i)) c (i :: A.free)
    rw [← Hus.out]; exact hR4
  · have := hq4 q hq
    simpa using this

theorem racopy_w (h : RArn w pr vU vC vR A c) (hok : A.ok) :
    Calls Tryz.prog 64 #[ptr pr] w fun e w' => ∃ pr' vU' vC' vR', e = .returned (ptr pr') ∧ RArn w' pr' vU' vC' vR' A c ∧ Fr [] w w' ∧ ∀ q ∈ rAB pr' vU' vC' vR', w.heap.size ≤ q := by
  have hb := hok.hb
  have hs := hok.hs
  have hfl := hok.len
  have HV := Lib.hid (rav_w h)
  obtain ⟨aU, cU, rfl⟩ := h.slU
  obtain ⟨aC, cC, rfl⟩ := h.slC
  obtain ⟨aR, cR, rfl⟩ := h.slR
  have c1 := h.hd.cell 1
  simp only [List.getElem?_cons_zero, List.getElem?_cons_succ] at c1
  have HL := Lib.hid h.lt
  have hbk := Blk.new w [.bool true, .int .i64 A.slots, .slice none 0 0, .slice none 0 0, .slice none 0 0] 112
  have hF1 : Fr [] w (w.alloc (.cells [.bool true, .int .i64 A.slots, .slice none 0 0, .slice none 0 0, .slice none 0 0].toArray 112)) := (Fr.refl [] w).alloc _
  have H1 := Lib.hid (And.intro hbk (And.intro (h.fr0 hF1) hF1)); clear hbk h hF1 hok
  go_enter Tryz.func64, Tryz.ntmps64
  go_wp2_with fail
  refine HV.out.mono ?_
  rintro _ w ⟨rfl, rfl⟩
  clear HV
  have m2 := H1.out.1.cell 2
  have mz2 := H1.out.1.frozen 2
  have r2 := H1.out.2.1.hd.cell 2
  simp only [List.getElem?_cons_zero, List.getElem?_cons_succ] at m2 r2
  go_wp2
  go_region_law (first | (refine step_app_nil (by rfl) _ _ _ (by rfl) 4 (.bool false) 1 1 Tryz.underlying110 Tryz.infoBool rfl (by decide) (by rfl) (.slice aU A.slots cU) A.slots (useL A) (by rfl) ((H1.out.2.1.fr0 ((Fr.refl [] _).drewN 1)).use) (useL_one A) (by unfold maxLen; omega) (by omega) ?_; intro v2 w2 hown2 hF2 hq2; obtain ⟨a2, cp2, rfl⟩ := ownsRow_slice hown2; have c2 := (hF2.blk (H1.out.1.drewN 1) (by simp)).cell 2; have z2 := (hF2.blk (H1.out.1.drewN 1) (by simp)).frozen 2; simp only [List.getElem?_cons_zero, List.getElem?_cons_succ] at c2))
  all_goals
    have hb2 := (hF2.blk (H1.out.1.drewN 1) (by simp)).set 2 (.slice a2 A.slots cp2)
    simp only [List.set_cons_succ, List.set_cons_zero] at hb2
    have hs2 := hF2.size
    have hw2 := H1.out.2.2.size
    have hlp2 := H1.out.1.lt
    simp only [World.size_drew, World.size_alloc] at hs2 hq2
    have hn2 : (Value.slice a2 A.slots cp2).ownBlock ≠ some w.heap.size := fun e => by have := hq2 _ e; omega
    have hK2 := ownsRow_other hown2 ⟨w.heap.size, 2, none⟩ (.slice a2 A.slots cp2) hn2
    have hG2 := (((Fr.refl [w.heap.size] _).drewN 1).trans hF2 (by simp)).setCell ⟨w.heap.size, 2, none⟩ (.slice a2 A.slots cp2) (.inl (by simp))
    have hR2 := H1.out.2.1.fr hG2 (fun q hq hm => by have := HL.out q hq; simp at hm; omega)
    have hFw2 := H1.out.2.2.trans hG2 (fun q hq => .inr (by simp at hq; omega))
    have hsz2 := hG2.size
    have HQ2 := Lib.hid (show ∀ q, (Value.slice a2 A.slots cp2).ownBlock = some q → w.heap.size ≤ q from fun q hq => by have := hq2 q hq; omega)
    have HN2 := Lib.hid hn2
    clear m2 mz2 r2 c2 z2 hs2 hw2 hlp2 hq2 hn2 hF2 hown2
    generalize hx2 : w2.setCell ⟨w.heap.size, 2, none⟩ (.slice a2 A.slots cp2) = x2 at *
    have H2 := Lib.hid (And.intro hb2 (And.intro hR2 hFw2)); clear hb2 hR2 hFw2 hG2 hx2 H1
    have HK2 := Lib.hid hK2; clear hK2
    have m3 := H2.out.1.cell 3
    have mz3 := H2.out.1.frozen 3
    have r3 := H2.out.2.1.hd.cell 3
    simp only [List.getElem?_cons_zero, List.getElem?_cons_succ] at m3 r3
    go_wp2
    go_region_law (first | (refine step_app_nil (by rfl) _ _ _ (by rfl) 22 (.int .u64 0) 1 8 Tryz.underlying63 Tryz.info22 rfl (by decide) (by rfl) (.slice aC A.slots cC) A.slots (encId c) (by rfl) ((H2.out.2.1.fr0 ((Fr.refl [] _).drewN 1)).cnt) (by simp [encId, Value.oneCell']) (by unfold maxLen; omega) (by omega) ?_; intro v3 w3 hown3 hF3 hq3; obtain ⟨a3, cp3, rfl⟩ := ownsRow_slice hown3; have c3 := (hF3.blk (H2.out.1.drewN 1) (by simp)).cell 3; have z3 := (hF3.blk (H2.out.1.drewN 1) (by simp)).frozen 3; simp only [List.getElem?_cons_zero, List.getElem?_cons_succ] at c3))
    all_goals
      have hb3 := (hF3.blk (H2.out.1.drewN 1) (by simp)).set 3 (.slice a3 A.slots cp3)
      simp only [List.set_cons_succ, List.set_cons_zero] at hb3
      have hs3 := hF3.size
      have hw3 := H2.out.2.2.size
      have hlp3 := H2.out.1.lt
      simp only [World.size_drew] at hs3 hq3
      have hn3 : (Value.slice a3 A.slots cp3).ownBlock ≠ some w.heap.size := fun e => by have := hq3 _ e; omega
      have hK3 := ownsRow_other hown3 ⟨w.heap.size, 3, none⟩ (.slice a3 A.slots cp3) hn3
      have hG3 := (((Fr.refl [w.heap.size] _).drewN 1).trans hF3 (by simp)).setCell ⟨w.heap.size, 3, none⟩ (.slice a3 A.slots cp3) (.inl (by simp))
      have hR3 := H2.out.2.1.fr hG3 (fun q hq hm => by have := HL.out q hq; simp at hm; omega)
      have hFw3 := H2.out.2.2.trans hG3 (fun q hq => .inr (by simp at hq; omega))
      have hsz3 := hG3.size
      have hP23 := ownsRow_other (ownsRow_same HK2.out (fun q hq => ((Fr.refl [] _).drewN 1 |>.trans' hF3).keep q (HK2.out.lt q hq).2 (by simp))) ⟨w.heap.size, 3, none⟩ (.slice a3 A.slots cp3) HN2.out
      have HQ3 := Lib.hid (show ∀ q, (Value.slice a3 A.slots cp3).ownBlock = some q → w.heap.size ≤ q from fun q hq => by have := hq3 q hq; omega)
      have HN3 := Lib.hid hn3
      have HD23 := Lib.hid (show ∀ q, (Value.slice a2 A.slots cp2).ownBlock = some q → (Value.slice a3 A.slots cp3).ownBlock ≠ some q from fun q h1 h2 => by have := hq3 q h2; have := (HK2.out.lt q h1).2; omega)
      clear m3 mz3 r3 c3 z3 hs3 hw3 hlp3 hq3 hn3 hF3 hown3
      generalize hx3 : w3.setCell ⟨w.heap.size, 3, none⟩ (.slice a3 A.slots cp3) = x3 at *
      have H3 := Lib.hid (And.intro hb3 (And.intro hR3 hFw3)); clear hb3 hR3 hFw3 hG3 hx3 H2
      have HK3 := Lib.hid hK3; clear hK3
      clear HK2
      have HK2 := Lib.hid hP23; clear hP23
      have m4 := H3.out.1.cell 4
      have mz4 := H3.out.1.frozen 4
      have r4 := H3.out.2.1.hd.cell 4
      simp only [List.getElem?_cons_zero, List.getElem?_cons_succ] at m4 r4
      go_wp2
      go_region_law (first | (refine step_app_nil (by rfl) _ _ _ (by rfl) 3 (.int .i64 0) 1 8 Tryz.underlying56 Tryz.info3 rfl (by decide) (by rfl) (.slice aR A.free.length cR) A.free.length (encN A.free.reverse) (by rfl) ((H3.out.2.1.fr0 ((Fr.refl [] _).drewN 1)).ret) (by simp [encN, Value.oneCell']) (by unfold maxLen; omega) (by omega) ?_; intro v4 w4 hown4 hF4 hq4; obtain ⟨a4, cp4, rfl⟩ := ownsRow_slice hown4; have c4 := (hF4.blk (H3.out.1.drewN 1) (by simp)).cell 4; have z4 := (hF4.blk (H3.out.1.drewN 1) (by simp)).frozen 4; simp only [List.getElem?_cons_zero, List.getElem?_cons_succ] at c4))
      all_goals
        have hb4 := (hF4.blk (H3.out.1.drewN 1) (by simp)).set 4 (.slice a4 A.free.length cp4)
        simp only [List.set_cons_succ, List.set_cons_zero] at hb4
        have hs4 := hF4.size
        have hw4 := H3.out.2.2.size
        have hlp4 := H3.out.1.lt
        simp only [World.size_drew] at hs4 hq4
        have hn4 : (Value.slice a4 A.free.length cp4).ownBlock ≠ some w.heap.size := fun e => by have := hq4 _ e; omega
        have hK4 := ownsRow_other hown4 ⟨w.heap.size, 4, none⟩ (.slice a4 A.free.length cp4) hn4
        have hG4 := (((Fr.refl [w.heap.size] _).drewN 1).trans hF4 (by simp)).setCell ⟨w.heap.size, 4, none⟩ (.slice a4 A.free.length cp4) (.inl (by simp))
        have hR4 := H3.out.2.1.fr hG4 (fun q hq hm => by have := HL.out q hq; simp at hm; omega)
        have hFw4 := H3.out.2.2.trans hG4 (fun q hq => .inr (by simp at hq; omega))
        have hsz4 := hG4.size
        have hP24 := ownsRow_other (ownsRow_same HK2.out (fun q hq => ((Fr.refl [] _).drewN 1 |>.trans' hF4).keep q (HK2.out.lt q hq).2 (by simp))) ⟨w.heap.size, 4, none⟩ (.slice a4 A.free.length cp4) HN2.out
        have hP34 := ownsRow_other (ownsRow_same HK3.out (fun q hq => ((Fr.refl [] _).drewN 1 |>.trans' hF4).keep q (HK3.out.lt q hq).2 (by simp))) ⟨w.heap.size, 4, none⟩ (.slice a4 A.free.length cp4) HN3.out
        have HQ4 := Lib.hid (show ∀ q, (Value.slice a4 A.free.length cp4).ownBlock = some q → w.heap.size ≤ q from fun q hq => by have := hq4 q hq; omega)
        have HN4 := Lib.hid hn4
        have HD24 := Lib.hid (show ∀ q, (Value.slice a2 A.slots cp2).ownBlock = some q → (Value.slice a4 A.free.length cp4).ownBlock ≠ some q from fun q h1 h2 => by have := hq4 q h2; have := (HK2.out.lt q h1).2; omega)
        have HD34 := Lib.hid (show ∀ q, (Value.slice a3 A.slots cp3).ownBlock = some q → (Value.slice a4 A.free.length cp4).ownBlock ≠ some q from fun q h1 h2 => by have := hq4 q h2; have := (HK3.out.lt q h1).2; omega)
        clear m4 mz4 r4 c4 z4 hs4 hw4 hlp4 hq4 hn4 hF4 hown4
        generalize hx4 : w4.setCell ⟨w.heap.size, 4, none⟩ (.slice a4 A.free.length cp4) = x4 at *
        have H4 := Lib.hid (And.intro hb4 (And.intro hR4 hFw4)); clear hb4 hR4 hFw4 hG4 hx4 H3
        have HK4 := Lib.hid hK4; clear hK4
        clear HK2
        have HK2 := Lib.hid hP24; clear hP24
        clear HK3
        have HK3 := Lib.hid hP34; clear hP34
        go_wp2
        go_ret
        refine ⟨w.heap.size, _, _, _, rfl, ⟨H4.out.1, HK2.out, HK3.out, HK4.out, HN2.out, HN3.out, HN4.out, HD23.out, HD24.out, HD34.out⟩, H4.out.2.2, fun q hq => ?_⟩
        simp only [rAB, List.mem_cons, List.mem_append, Option.mem_toList] at hq
        rcases hq with rfl | hq | hq | hq
        · exact Nat.le_refl _
        · exact HQ2.out q hq
        · exact HQ3.out q hq
        · exact HQ4.out q hq
end
end Go.Proofs.YtbegdgnhpklceaaGreat

/- Sorted lists of numbers; List and Copy of a table over the plain model. -/
namespace Go.Proofs.YtbegdgnhpklceaaGreat
open Go.RowKit
set_option maxRecDepth 10000
set_option maxHeartbeats 800000

theorem sortN_perm (l : List Nat) : (sortN l).Perm l := List.mergeSort_perm _ _
theorem sortN_le (l : List Nat) : (sortN l).Pairwise (· ≤ ·) := by
  have := List.pairwise_mergeSort (le := fun x y : Nat => decide (x ≤ y)) (fun a b c h1 h2 => by simp at *; omega) (fun a b => by simp; omega) l
  exact this.imp (fun h => by simpa using h)
theorem sortN_lt {l : List Nat} (h : l.Nodup) : (sortN l).Pairwise (· < ·) := by
  have h1 := sortN_le l
  have h2 : (sortN l).Nodup := (sortN_perm l).nodup_iff.2 h
  exact (h1.and h2).imp (fun h => by omega)
theorem sortN_mem {l : List Nat} {x : Nat} : x ∈ sortN l ↔ x ∈ l := (sortN_perm l).mem_iff
theorem sortN_eq {l l' : List Nat} (h : l.Perm l') : sortN l = sortN l' :=
  ((sortN_perm l).trans (h.trans (sortN_perm l').symm)).eq_of_pairwise (le := fun x y => decide (x ≤ y)) (fun a b _ _ h1 h2 => by simp at *; omega) ((sortN_le l).imp (fun h => by simpa using h)) ((sortN_le l').imp (fun h => by simpa using h))

theorem tab_perm {M : Md} {T : Tb} (_hA : T.A = M.ar) (hok : M.Ok) (hiff : ∀ id i, (id, i) ∈ M.L ↔ (T.used i ∧ T.ids i = id)) : (M.L.map (·.1)).Perm ((usedL T.A).map T.ids) := by
  have h1 : M.L.Perm ((usedL T.A).map fun i => (T.ids i, i)) := by
    rw [List.perm_ext_iff_of_nodup ((List.pairwise_map.1 hok.ids).imp (fun h e => h (congrArg Prod.fst e))) (List.pairwise_map.2 ((nodup_usedL T.A).imp (fun h e => h (congrArg Prod.snd e))))]
    rintro ⟨id, i⟩
    rw [hiff, List.mem_map]
    constructor
    · rintro ⟨hu, rfl⟩; exact ⟨i, mem_usedL.2 hu, rfl⟩
    · rintro ⟨k, hk, e⟩
      simp only [Prod.mk.injEq] at e
      obtain ⟨rfl, rfl⟩ := e
      exact ⟨mem_usedL.1 hk, rfl⟩
  have := h1.map (·.1)
  rw [List.map_map] at this
  exact this
theorem tab_list {w : World} {pt : Nat} {M : Md} {l : List Nat} (h : TabM w pt M l) :
    Calls Tryz.prog 74 #[ptr pt] w fun e w' => ∃ v, e = .returned v ∧ w'.ownsRow 0 22 1 v M.L.length (encId (sortN (M.L.map (·.1)))) ∧ (∀ q, v.ownBlock = some q → w.heap.size ≤ q) ∧ Fr [] w w' := by
  obtain ⟨T, hT, hA, hok, hiff⟩ := h
  have hp := tab_perm hA hok hiff
  have hl : (usedL T.A).length = M.L.length := by simpa using hp.length_eq.symm
  refine (table_list hT).mono ?_
  rintro e w' ⟨v, rfl, h1, h2, h3⟩
  rw [hl, ← sortN_eq hp] at h1
  exact ⟨v, rfl, h1, h2, h3⟩
theorem tab_copy {w : World} {pt : Nat} {M : Md} {l : List Nat} (h : TabM w pt M l) :
    Calls Tryz.prog 60 #[ptr pt] w fun e w' => ∃ pt', e = .returned (ptr pt') ∧ ∃ l', TabM w' pt' M l' ∧ Fr [] w w' ∧ ∀ b ∈ l', w.heap.size ≤ b := by
  obtain ⟨T, hT, r⟩ := h
  refine (table_copy hT).mono ?_
  rintro e w' ⟨pt', rfl, l', h1, h2, h3⟩
  exact ⟨pt', rfl, l', ⟨T, h1, r⟩, h2, h3⟩
theorem Md.Ok.len {M : Md} (h : M.Ok) : M.L.length ≤ 65536 := by
  have h1 := h.cnt
  have h2 := h.ar.hb
  have h3 := h.ar.hs
  simp only [Md.ar] at h2 h3
  omega

end Go.Proofs.YtbegdgnhpklceaaGreat

/- store: valid, Len, Verts, Index, ID, IDs, Check. -/
namespace Go.Proofs.YtbegdgnhpklceaaGreat
open Go.RowKit
set_option maxRecDepth 10000
set_option maxHeartbeats 800000

@[go_sem] theorem neq_mapS (w : World) (r : Option Nat) : (binOp .neq 71 (.map r) (.map none)).run Tryz.prog w = .ok (.bool (!r.isNone)) w := run_neq_map_nil w _ _ _ r Tryz.underlying71
abbrev sptr (b : Nat) : Value := .pointer (some ⟨b, 0, none⟩)
section
variable {w w' : World} {ps : Nat} {s : Sm} {K : List Nat}
/-- The cells of the head. -/
theorem StoreAt.open (h : StoreAt w ps s K) : ∃ pa pt mb n vl la lT lb c, StB w ps pa pt mb n vl s la lT lb c ∧ K = stK ps mb vl la lT lb ∧
    w.cell? ⟨ps, 0, none⟩ = some (.int .i64 s.V) ∧ w.cell? ⟨ps, 1, none⟩ = some (.int .i64 s.E) ∧ w.cell? ⟨ps, 2, none⟩ = some (.int .u64 s.last) ∧ w.cell? ⟨ps, 3, none⟩ = some (ptr pa) ∧ w.cell? ⟨ps, 4, none⟩ = some (ptr pt) ∧ w.cell? ⟨ps, 5, none⟩ = some vl ∧ w.cell? ⟨ps, 6, none⟩ = some (.map (some mb)) := by
  obtain ⟨pa, pt, mb, n, vl, la, lT, lb, c, h, rfl⟩ := h
  exact ⟨pa, pt, mb, n, vl, la, lT, lb, c, h, rfl, h.hd.cell 0, h.hd.cell 1, h.hd.cell 2, h.hd.cell 3, h.hd.cell 4, h.hd.cell 5, h.hd.cell 6⟩
theorem st_valid (h : StoreAt w ps s K) : Calls Tryz.prog 46 #[sptr ps] w fun e w' => e = .returned (.bool true) ∧ w' = w := by
  obtain ⟨pa, pt, mb, n, vl, la, lT, lb, c, hB, rfl, c0, c1, c2, c3, c4, c5, c6⟩ := h.open
  clear h hB
  go_enter Tryz.func46, Tryz.ntmps46
  go_wp2
  go_ret
  exact ⟨rfl, rfl⟩
theorem st_len (h : StoreAt w ps s K) : Calls Tryz.prog 28 #[sptr ps] w fun e w' => e = .returned (.int .i64 s.L.length) ∧ w' = w := by
  have HV := Lib.hid (st_valid h)
  obtain ⟨pa, pt, mb, n, vl, la, lT, lb, c, hB, rfl, c0, c1, c2, c3, c4, c5, c6⟩ := h.open
  have hl := arena_len hB.ar
  rw [Sm.len_used hB.ok] at hl
  have HL := Lib.hid hl
  clear h hB hl
  go_enter Tryz.func28, Tryz.ntmps28
  go_wp2_with fail
  refine HV.out.mono ?_
  rintro _ w ⟨rfl, rfl⟩
  go_wp2_with fail
  refine HL.out.mono ?_
  rintro _ w1 ⟨rfl, rfl⟩
  go_wp2
  go_ret
  exact ⟨rfl, rfl⟩
theorem st_verts (h : StoreAt w ps s K) : Calls Tryz.prog 30 #[sptr ps] w fun e w' => e = .returned (.int .i64 s.M.L.length) ∧ w' = w := by
  have HV := Lib.hid (st_valid h)
  obtain ⟨pa, pt, mb, n, vl, la, lT, lb, c, hB, rfl, c0, c1, c2, c3, c4, c5, c6⟩ := h.open
  have HL := Lib.hid (tab_len hB.tb)
  clear h hB
  go_enter Tryz.func30, Tryz.ntmps30
  go_wp2_with fail
  refine HV.out.mono ?_
  rintro _ w ⟨rfl, rfl⟩
  go_wp2_with fail
  refine HL.out.mono ?_
  rintro _ w1 ⟨rfl, rfl⟩
  go_wp2
  go_ret
  exact ⟨rfl, rfl⟩
theorem st_index (h : StoreAt w ps s K) (id : Nat) (hid : id < 18446744073709551616) : Calls Tryz.prog 21 #[sptr ps, .int .u64 id] w fun e w' => e = .returned (.tuple #[.int .i64 ((s.M.find id).getD 0), .bool (s.M.find id).isSome]) ∧ Fr [] w w' := by
  have HV := Lib.hid (st_valid h)
  obtain ⟨pa, pt, mb, n, vl, la, lT, lb, c, hB, rfl, c0, c1, c2, c3, c4, c5, c6⟩ := h.open
  have HL := Lib.hid (tab_get id hid hB.tb)
  clear h hB
  generalize (s.M.find id).getD 0 = i at *
  generalize (s.M.find id).isSome = b at *
  go_enter Tryz.func21, Tryz.ntmps21
  go_wp2_with fail
  refine HV.out.mono ?_
  rintro _ w ⟨rfl, rfl⟩
  go_wp2_with fail
  refine HL.out.mono ?_
  rintro _ w1 ⟨rfl, _, hb⟩
  have HB := Lib.hid (Fr.of_below hb); clear hb
  go_wp2
  go_ret2
  exact ⟨rfl, HB.out⟩
theorem st_id (h : StoreAt w ps s K) (i : Int) : Calls Tryz.prog 23 #[sptr ps, .int .i64 i] w fun e w' => e = .returned (.tuple #[.int .u64 ((s.M.at i).getD 0), .bool (s.M.at i).isSome]) ∧ w' = w := by
  have HV := Lib.hid (st_valid h)
  obtain ⟨pa, pt, mb, n, vl, la, lT, lb, c, hB, rfl, c0, c1, c2, c3, c4, c5, c6⟩ := h.open
  have HL := Lib.hid (tab_id i hB.tb)
  clear h hB
  generalize (s.M.at i).getD 0 = x at *
  generalize (s.M.at i).isSome = b at *
  go_enter Tryz.func23, Tryz.ntmps23
  go_wp2_with fail
  refine HV.out.mono ?_
  rintro _ w ⟨rfl, rfl⟩
  go_wp2_with fail
  refine HL.out.mono ?_
  rintro _ w1 ⟨rfl, rfl⟩
  go_wp2
  go_ret2
  exact ⟨rfl, rfl⟩
/-- The ids in increasing order. -/
def Sm.ids (s : Sm) : List Nat := sortN (s.M.L.map (·.1))
/-- A slice reads the ids p. -/
def RowU (w : World) (v : Value) (p : List Nat) : Prop := w.ownsRow 0 22 1 v p.length (encId p)
theorem RowU.fr {v : Value} {p : List Nat} {S : List Nat} (h : RowU w v p) (hf : Fr S w w') (hs : ∀ q, v.ownBlock = some q → q ∉ S) : RowU w' v p :=
  ownsRow_same h (fun q hq => hf.keep q (ownsRow_ltS h hq) (hs q hq))
theorem RowU.fr0 {v : Value} {p : List Nat} (h : RowU w v p) (hf : Fr [] w w') : RowU w' v p := h.fr hf (by simp)
theorem RowU.slice {v : Value} {p : List Nat} (h : RowU w v p) : ∃ a cap, v = .slice a p.length cap := ownsRow_slice h
theorem RowU.lt {v : Value} {p : List Nat} (h : RowU w v p) {q : Nat} (hq : v.ownBlock = some q) : q < w.heap.size := ownsRow_ltS h hq
theorem RowU.at {v : Value} {p : List Nat} (h : RowU w v p) {i : Nat} (hi : i < p.length) : ∃ b cap, v = .slice (some ⟨b, 0, none⟩) p.length cap ∧ b < w.heap.size ∧ w.cell? ⟨b, i, none⟩ = some (.int .u64 (p[i]'hi)) := by
  obtain ⟨b, cap, e, _, h2, h3, _⟩ := ownsRow_at h hi
  exact ⟨b, cap, e, h2, h3.trans (by simp [encId, hi])⟩
theorem Sm.ids_len (s : Sm) : s.ids.length = s.M.L.length := by unfold Sm.ids; rw [sortN_len, List.length_map]
theorem st_ids (h : StoreAt w ps s K) : Calls Tryz.prog 36 #[sptr ps] w fun e w' => ∃ v, e = .returned v ∧ RowU w' v s.ids ∧ (∀ q, v.ownBlock = some q → w.heap.size ≤ q) ∧ Fr [] w w' := by
  have HV := Lib.hid (st_valid h)
  obtain ⟨pa, pt, mb, n, vl, la, lT, lb, c, hB, rfl, c0, c1, c2, c3, c4, c5, c6⟩ := h.open
  have HL := Lib.hid (tab_list hB.tb)
  clear h hB
  go_enter Tryz.func36, Tryz.ntmps36
  go_wp2_with fail
  refine HV.out.mono ?_
  rintro _ w ⟨rfl, rfl⟩
  go_wp2_with fail
  refine HL.out.mono ?_
  rintro _ w1 ⟨v, rfl, h1, h2, h3⟩
  have HB := Lib.hid (And.intro h1 (And.intro h2 h3)); clear h1 h2 h3
  go_wp2
  go_ret
  exact ⟨v, rfl, by unfold RowU; rw [Sm.ids_len]; exact HB.out.1, HB.out.2.1, HB.out.2.2⟩
end
end Go.Proofs.YtbegdgnhpklceaaGreat

/- store: Check. -/
namespace Go.Proofs.YtbegdgnhpklceaaGreat
open Go.RowKit
set_option maxRecDepth 10000
set_option maxHeartbeats 1600000

abbrev recA (u v : Nat) (wt t : Int) : Value := .agg #[.int .u64 u, .int .u64 v, .int .i64 wt, .int .i64 t]
@[go_sem] theorem index2_0 (a b : Value) (w : World) : (Instr.index 84 (.agg #[a, b]) (.int .i64 0)).run Tryz.prog w = .ok a w := by kernel_rfl
@[go_sem] theorem index2_1 (a b : Value) (w : World) : (Instr.index 84 (.agg #[a, b]) (.int .i64 1)).run Tryz.prog w = .ok b w := by kernel_rfl
def nf (b : Bool) : Nat := if b = true then 0 else 1
theorem nf_le (b : Bool) : nf b ≤ 1 := by unfold nf; split <;> omega
def moreK (a b : Bool) (k : Nat) : Nat := (if 0 < k then nf a else 0) + if 1 < k then nf b else 0
section
variable {w w' : World} {ps : Nat} {s : Sm} {K : List Nat}
theorem st_check (h : StoreAt w ps s K) (u v : Nat) (hu : u < 18446744073709551616) (hv : v < 18446744073709551616) (wt t : Int) :
    Calls Tryz.prog 15 #[sptr ps, recA u v wt t] w fun e w' => e = .returned (.int .i64 (s.chk u v)) ∧ Fr [] w w' := by
  have H := Lib.hid h
  have hok := h.ok
  have hE := hok.leE
  have hV4 := hok.leV
  have hmn := hok.md.cnt
  have hmb := hok.md.ar.hb
  have hms := hok.ms
  simp only [Md.ar] at hmb
  have hml : s.M.L.length ≤ 4096 := by omega
  have hau : s.A.used ≤ 16384 := by
    have h1 := hok.ar.hb
    have h2 := hok.sl
    unfold Ar.used
    omega
  clear hmn hmb hms hok h
  obtain ⟨code, hcode⟩ : ∃ code, code = s.chk u v := ⟨_, rfl⟩
  rw [← hcode]
  have HCD := Lib.hid hcode; clear hcode
  go_enter Tryz.func15, Tryz.ntmps15
  go_wp2_with fail
  have hf0 : Fr [] w (w.alloc (.cells #[.int .u64 u, .int .u64 v, .int .i64 wt, .int .i64 t] 34)) := (Fr.refl [] w).alloc _
  have hbx : Blk (w.alloc (.cells #[.int .u64 u, .int .u64 v, .int .i64 wt, .int .i64 t] 34)) w.heap.size 34 [.int .u64 u, .int .u64 v, .int .i64 wt, .int .i64 t] := Blk.new w _ _
  have hlt0 : w.heap.size < (w.alloc (.cells #[.int .u64 u, .int .u64 v, .int .i64 wt, .int .i64 t] 34)).heap.size := by simp
  generalize w.alloc (.cells #[.int .u64 u, .int .u64 v, .int .i64 wt, .int .i64 t] 34) = w1 at *
  have r0 := hbx.cell 0
  have r1 := hbx.cell 1
  simp only [List.getElem?_cons_zero, List.getElem?_cons_succ] at r0 r1
  obtain ⟨pa, pt, mb, n, vl, la, lT, lb, c, hB, hK, c0, c1, c2, c3, c4, c5, c6⟩ := (H.out.fr0 hf0).open
  have HV := Lib.hid (st_valid (H.out.fr0 hf0))
  have HF0 := Lib.hid hf0
  have HA := Lib.hid (fun (w' : World) (hf : Fr [] w1 w') => arena_len (hB.fr hf (by simp)).ar)
  have HT := Lib.hid (fun (w' : World) (hf : Fr [] w1 w') => tab_len (hB.fr hf (by simp)).tb)
  have HG := Lib.hid (fun (w' : World) (hf : Fr [] w1 w') (id : Nat) (hid : id < 18446744073709551616) => tab_get id hid (hB.fr hf (by simp)).tb)
  clear hf0 hbx hB hK c2 c5 c6 hlt0
  refine HV.out.mono ?_
  rintro _ w1 ⟨rfl, rfl⟩
  clear HV
  by_cases huv : u = v
  · subst huv
    have HCD' := Lib.hid (show code = 9 by rw [HCD.out]; unfold Sm.chk; rw [if_pos rfl])
    go_wp2_with fail
    go_ret
    exact ⟨by rw [HCD'.out]; rfl, HF0.out⟩
  · have d1 : ((u : Int) == v) = false := beq_eq_false_iff_ne.2 (by omega)
    have HUV := Lib.hid huv; clear huv
    go_wp2_with fail
    obtain ⟨au, hau2⟩ : ∃ au, au = s.A.used := ⟨_, rfl⟩
    rw [← hau2] at HA hau
    have HAU := Lib.hid hau2; clear hau2
    refine region_cw (fun w' => Fr [] w1 w') (by kernel_rfl) (by kernel_rfl) ((Fr.refl [] w1).drew) ?_
    iterate 3 (refine cw_pure (by kernel_rfl) (fun KK hK => ?_); go_simp; refine hK.out _ ?_; clear hK KK)
    refine cw_val (by kernel_rfl) (ptr pa) (fun w' hw' => ?_) ?_
    · have c3 := hw'.cell c3 (by simp)
      go_simp
      first | exact hw' | exact ⟨rfl, hw'⟩ | skip
    refine cw_val (by kernel_rfl) (.int .i64 au) (fun w' hw' => ?_) ?_
    · go_simp
      refine (HA.out w' hw').mono ?_
      rintro _ w6 ⟨rfl, rfl⟩
      exact ⟨rfl, hw'⟩
    iterate 3 (refine cw_pure (by kernel_rfl) (fun KK hK => ?_); go_simp; refine hK.out _ ?_; clear hK KK)
    refine cw_val (by kernel_rfl) (.int .i64 s.E) (fun w' hw' => ?_) ?_
    · have c1 := hw'.cell c1 (by simp)
      go_simp
      first | exact hw' | exact ⟨rfl, hw'⟩ | skip
    iterate 1 (refine cw_pure (by kernel_rfl) (fun KK hK => ?_); go_simp; refine hK.out _ ?_; clear hK KK)
    refine cw_nil ?_
    intro w2 hf2
    have r0 := hf2.cell r0 (by simp)
    have r1 := hf2.cell r1 (by simp)
    have c0 := hf2.cell c0 (by simp)
    have c4 := hf2.cell c4 (by simp)
    have HT2 := Lib.hid (HT.out w2 hf2)
    have HF2 := Lib.hid hf2
    clear hf2 HT HA c1 c3 d1
    by_cases hfull : s.E ≤ au
    · have HCD' := Lib.hid (show code = 12 by rw [HCD.out]; unfold Sm.chk; rw [if_neg HUV.out, ← HAU.out, if_pos hfull])
      have d1 : decide ((s.E : Int) ≤ au) = true := decide_eq_true (by omega)
      go_wp2_with fail
      go_ret
      exact ⟨by rw [HCD'.out]; rfl, HF0.out.trans' HF2.out⟩
    · have d1 : decide ((s.E : Int) ≤ au) = false := decide_eq_false (by omega)
      have d2 : decide (s.E ≤ au) = false := decide_eq_false (by omega)
      have HFU := Lib.hid hfull; clear hfull
      go_wp2_with fail
      refine HT2.out.mono ?_
      rintro _ w2 ⟨rfl, rfl⟩
      clear HT2 d1 d2
      go_wp2_with fail
      have Hu := Lib.hid hu; have Hv := Lib.hid hv
      clear r0 r1
      go_loopw [5, 38] (fun x y wr => ∃ k m : Nat, k ≤ 2 ∧ y = .int .i64 k ∧ x = .int .i64 m ∧ m ≤ 4096 + k ∧ Hid (m = s.M.L.length + moreK (s.M.find u).isSome (s.M.find v).isSome k) ∧ Hid (Fr [] w2 wr)) (fun _ y _ => 2 - (intOf y).toNat)
      case atStart => exact ⟨0, s.M.L.length, by omega, rfl, rfl, by omega, Lib.hid (by simp [moreK]), Lib.hid (Fr.refl _ _)⟩
      case round =>
        obtain ⟨k, m, hk, rfl, rfl, hm, HM, HF⟩ := hrel
        by_cases hlt : k < 2
        · have hk2 : k = 0 ∨ k = 1 := by omega
          clear hlt hk
          rcases hk2 with rfl | rfl
          · have HGu := Lib.hid (HG.out wr (HF2.out.trans' HF.out) u Hu.out)
            have c4 := HF.out.cell c4 (by simp)
            generalize hfu : (s.M.find u).isSome = fu at *
            have HFU2 := Lib.hid hfu; clear hfu
            generalize (s.M.find u).getD 0 = iu at *
            rename World => wo
            go_wp2_with fail
            refine HGu.out.mono ?_
            rintro _ w5 ⟨rfl, _, hb5⟩
            have HF5 := Lib.hid (HF.out.trans' (Fr.of_below hb5))
            clear hb5 HGu c4
            cases fu with
            | true =>
              go_wp2_with fail
              go_roundw
              case rel => exact ⟨1, m, by omega, rfl, rfl, by omega, Lib.hid (by rw [HM.out]; simp [moreK, nf]), HF5⟩
              case measure => simp [intOf]
            | false =>
              go_wp2_with fail
              go_roundw
              case rel => exact ⟨1, m + 1, by omega, rfl, by go_num, by omega, Lib.hid (by rw [HM.out]; simp [moreK, nf]; try omega), HF5⟩
              case measure => simp [intOf]
          · have HGu := Lib.hid (HG.out wr (HF2.out.trans' HF.out) v Hv.out)
            have c4 := HF.out.cell c4 (by simp)
            generalize hfu : (s.M.find v).isSome = fu at *
            have HFU2 := Lib.hid hfu; clear hfu
            generalize (s.M.find v).getD 0 = iu at *
            rename World => wo
            go_wp2_with fail
            refine HGu.out.mono ?_
            rintro _ w5 ⟨rfl, _, hb5⟩
            have HF5 := Lib.hid (HF.out.trans' (Fr.of_below hb5))
            clear hb5 HGu c4
            cases fu with
            | true =>
              go_wp2_with fail
              go_roundw
              case rel => exact ⟨2, m, by omega, rfl, rfl, by omega, Lib.hid (by rw [HM.out]; simp [moreK, nf]), HF5⟩
              case measure => simp [intOf]
            | false =>
              go_wp2_with fail
              go_roundw
              case rel => exact ⟨2, m + 1, by omega, rfl, by go_num, by omega, Lib.hid (by rw [HM.out]; simp [moreK, nf]; try omega), HF5⟩
              case measure => simp [intOf]
        · obtain rfl : k = 2 := by omega
          have c0 := HF.out.cell c0 (by simp)
          have hmore : m = s.M.L.length + s.more u v := by rw [HM.out]; simp [moreK, nf, Sm.more]
          by_cases hov : s.V < m
          · have HCD' := Lib.hid (show code = 11 by rw [HCD.out]; unfold Sm.chk; rw [if_neg HUV.out, ← HAU.out, if_neg HFU.out, ← hmore, if_pos hov])
            have d1 : decide ((m : Int) > s.V) = true := decide_eq_true (by omega)
            clear hmore
            go_wp2_with fail
            go_ret
            exact ⟨by rw [HCD'.out]; rfl, (HF0.out.trans' HF2.out).trans' HF.out⟩
          · have HCD' := Lib.hid (show code = 0 by rw [HCD.out]; unfold Sm.chk; rw [if_neg HUV.out, ← HAU.out, if_neg HFU.out, ← hmore, if_neg hov])
            have d1 : decide ((m : Int) > s.V) = false := decide_eq_false (by omega)
            have d2 : decide (s.V < m) = false := decide_eq_false (by omega)
            clear hmore
            go_wp2_with fail
            go_ret
            exact ⟨by rw [HCD'.out]; rfl, (HF0.out.trans' HF2.out).trans' HF.out⟩
end
end Go.Proofs.YtbegdgnhpklceaaGreat

namespace Go.Proofs.YtbegdgnhpklceaaGreat
open Go.RowKit
set_option maxRecDepth 10000
set_option maxHeartbeats 1600000

theorem zero_live (w : World) : (zeroValue 36).run Tryz.prog w = .ok lvZero w := by kernel_rfl
/-- How long the slice in a store is. -/
def liveLen (w : World) (ps : Nat) : Nat := match w.cell? ⟨ps, 5, none⟩ with
  | some (.slice _ m _) => m
  | _ => 0
theorem liveLen_eq {w : World} {ps m cap : Nat} {a : Option Addr} (h : w.cell? ⟨ps, 5, none⟩ = some (.slice a m cap)) : liveLen w ps = m := by unfold liveLen; rw [h]
theorem rowV_zero {L : List Lv} {n n' : Nat} (hs : ∀ e ∈ L, e.slot < n) (hn : n ≤ n') : (List.range (n' + 1)).map (liveAt L) = (List.range n').map (liveAt L) ++ [Lv.z] := by
  rw [List.range_succ, List.map_append, List.map_cons, List.map_nil, liveAt_none (fun e he => by have := hs e he; omega)]
theorem Blk.put7 {w : World} {b : Nat} {t : TypeId} {v0 v1 v2 v3 v4 v5 v6 : Value} (h : Blk w b t [v0, v1, v2, v3, v4, v5, v6]) (e : Lv) : Blk (put7 w b 0 e) b t (lvC e) :=
  ((((((h.set 0 (.int .i64 e.slot)).set 1 (.int .u64 e.seq)).set 2 (.int .u64 e.u)).set 3 (.int .u64 e.v)).set 4 (.int .i64 e.wt)).set 5 (.int .i64 e.t)).set 6 (.int .i64 e.x)
/-- 'm[a] = v' as a step of a region. -/
theorem step_imap_put {P : Program} {w : World} {ops : Array Oper} {o : Oper} {act : Act} {K : Act → World → Prop} {Q : Exit → Act → World → Prop} {E : Prop} (hg : o.guard = none) (mo x v : Operand) (t : TypeId) (hop : o.op = Op.mapUpdate t mo x v)
    {k e : TypeId} {q : IntKind} {ok : Value → Bool} {b n : Nat} {m : Int → Option Value} (h : IMap P k q ok w b m n) (hk : P.underlying k = some (.int q)) (ht : P.underlying t = some (.map k e)) (hn : n < maxLen)
    (hm : act.eval mo = .map (some b)) (a : Int) (hx : act.eval x = .int q a) (ha : (Lit.int q a).wf = true) (u : Value) (hv : act.eval v = u) (hu : ok u = true)
    (hK : ∀ w', IMap P k q ok w' b (updM m a (some u)) (if (m a).isSome then n else n + 1) → Fr [b] w w' → K (act.put o.dst undef) w') : if Region.wanted o (yielded ops act.tmps) = true then Oper.wp P o act w K Q else E := by
  rw [if_pos (by simp [Region.wanted, hg])]
  obtain ⟨w', hrun, r1, r2⟩ := h.put hk ht hn ha hu
  unfold Oper.wp
  simp [execOp, hop, hm, hx, hv, hrun, Result.andThen]
  exact hK w' r1 r2
theorem zero_ints (w : World) : (zeroValue 56).run Tryz.prog w = .ok nilS w := by kernel_rfl

/-- Where the vertices of a store and their lists stand while an edge is put in. -/
def InsS (w7 : World) (ps pt mb : Nat) (v7 : Value) (la lT lb : List Nat) (M : Md) (f : Nat → List Nat) (n : Nat) (wr : World) : Prop :=
  ∃ lT' lb' c', Cls c' ps mb v7 la lT' lb' ∧ TabM wr pt M lT' ∧ IncAt wr mb f n lb' ∧ Fr (mb :: (lT ++ lb)) w7 wr ∧ (∀ q ∈ lT', q ∈ lT ∨ w7.heap.size ≤ q) ∧ ∀ q ∈ lb', q ∈ lb ∨ w7.heap.size ≤ q
section
variable {w7 wr : World} {ps pt mb n : Nat} {v7 : Value} {la lT lb : List Nat} {M : Md} {f : Nat → List Nat}
theorem ins_put (hps : ps < w7.heap.size) (hla : ∀ b ∈ la, b < w7.heap.size) (hv7 : ∀ q, v7.ownBlock = some q → q < w7.heap.size) (h : InsS w7 ps pt mb v7 la lT lb M f n wr) {id : Nat} (hid : id < U64) :
    Calls Tryz.prog 43 #[ptr pt, .int .u64 id] wr fun e w' => ∃ r, e = .returned r ∧ InsS w7 ps pt mb v7 la lT lb (M.put id).M f n w' ∧ Fr (mb :: (lT ++ lb)) w7 w' := by
  obtain ⟨lT', lb', c', hc, hT, hI, hF, h5, h6⟩ := h
  refine (tab_put id hid hT).mono ?_
  rintro _ w' ⟨rfl, l', hT', hN1, hN2⟩
  have hlt := hT.lt
  have hlb := hI.ltb
  have hml := hI.ltm
  have hsz := hF.size
  have e1 := hN1.size
  have hF' : Fr (mb :: (lT ++ lb)) w7 w' := hF.trans hN1 (fun q hq => (h5 q hq).imp (fun e => by simp [e]) (fun e => e))
  refine ⟨_, rfl, ⟨l', lb', fun x => if x < wr.heap.size then c' x else 3, ⟨?_, ?_, ?_, ?_, ?_, ?_⟩, hT', ?_, hF', ?_, h6⟩, hF'⟩
  · rw [if_pos (by omega)]; exact hc.p
  · rw [if_pos hml]; exact hc.m
  · intro b hb; rw [if_pos (by have := hla b hb; omega)]; exact hc.a b hb
  · intro b hb
    rcases hN2 b hb with e | e
    · rw [if_pos (hlt b e)]; exact hc.t b e
    · rw [if_neg (by omega)]
  · intro q hq; rw [if_pos (by have := hv7 q hq; omega)]; exact hc.l q hq
  · intro b hb; rw [if_pos (hlb b hb)]; exact hc.b b hb
  · refine hI.fr hN1 (fun hm => ?_) (fun b hb hm => ?_)
    · have e1 := hc.t mb hm; have e2 := hc.m; omega
    · have e1 := hc.t b hm; have e2 := hc.b b hb; omega
  · intro q hq
    rcases hN2 q hq with e | e
    · exact h5 q e
    · exact .inr (by omega)
theorem ins_set (hps : ps < w7.heap.size) (hla : ∀ b ∈ la, b < w7.heap.size) (hv7 : ∀ q, v7.ownBlock = some q → q < w7.heap.size) {lT' lb' : List Nat} {c' : Nat → Nat} {iv : Int → Option Value} (hc : Cls c' ps mb v7 la lT' lb') (hT : TabM wr pt M lT') (hI : IncI wr mb iv f n lb') (hF : Fr (mb :: (lT ++ lb)) w7 wr)
    (h5 : ∀ q ∈ lT', q ∈ lT ∨ w7.heap.size ≤ q) (h6 : ∀ q ∈ lb', q ∈ lb ∨ w7.heap.size ≤ q) {id : Nat} (hid : id < U64) {w8 w9 : World} {v1 : Value} {l1 : List Nat} {n2 : Nat} (h1 : RowI w8 v1 l1) (hne : l1 ≠ [])
    (hF1 : Fr ((iv id).getD nilS).ownBlock.toList wr w8) (hq : ∀ q, v1.ownBlock = some q → ((iv id).getD nilS).ownBlock = some q ∨ wr.heap.size ≤ q)
    (hM : IMap Tryz.prog 22 .u64 okS w9 mb (updM iv id (some v1)) n2) (hF2 : Fr [mb] w8 w9) : InsS w7 ps pt mb v7 la lT lb M (updF f id l1) n2 w9 := by
  have hI2 := hI.set hid h1 hne hF1 hq hM hF2
  have hlt := hT.lt
  have hml := hI.im.lt
  have hsz := hF.size
  have hs8 := hF1.size
  have hs9 := hF2.size
  have hin := (hI.row id hid).2.2
  have hG : Fr (mb :: ((iv id).getD nilS).ownBlock.toList) wr w9 := (hF1.mono (S' := mb :: ((iv id).getD nilS).ownBlock.toList) (fun b hb => .inl (List.mem_cons_of_mem _ hb))).trans hF2 (fun b hb => .inl (by simp at hb; simp [hb]))
  refine ⟨lT', lb' ++ v1.ownBlock.toList, fun x => if x < wr.heap.size then c' x else 5, ⟨?_, ?_, ?_, ?_, ?_, ?_⟩, hT.fr hG (fun b hb hm => ?_), ⟨_, hI2⟩, hF.trans hG (fun b hb => ?_), h5, fun q hqq => ?_⟩
  · rw [if_pos (by omega)]; exact hc.p
  · rw [if_pos hml]; exact hc.m
  · intro b hb; rw [if_pos (by have := hla b hb; omega)]; exact hc.a b hb
  · intro b hb; rw [if_pos (hlt b hb)]; exact hc.t b hb
  · intro q hqq; rw [if_pos (by have := hv7 q hqq; omega)]; exact hc.l q hqq
  · intro b hb
    rcases List.mem_append.1 hb with hb | hb
    · rw [if_pos (hI.lt b hb)]; exact hc.b b hb
    · rcases hq b (by simpa using hb) with e | e
      · have := hin b e
        rw [if_pos (hI.lt b this)]; exact hc.b b this
      · rw [if_neg (by omega)]
  · have e0 := hc.t b hb
    rcases List.mem_cons.1 hm with e | e
    · have := hc.m; rw [← e] at this; omega
    · have := hc.b b (hin b (by simpa using e)); omega
  · rcases List.mem_cons.1 hb with rfl | e
    · exact .inl (by simp)
    · rcases h6 b (hin b (by simpa using e)) with e2 | e2
      · exact .inl (by simp [e2])
      · exact .inr e2
  · rcases List.mem_append.1 hqq with e | e
    · exact h6 q e
    · rcases hq q (by simpa using e) with e2 | e2
      · exact h6 q (hin q e2)
      · exact .inr (by omega)
end
def insM (M : Md) (u v : Nat) : Nat → Md
  | 0 => M
  | 1 => (M.put u).M
  | _ => ((M.put u).M.put v).M
def insF (f : Nat → List Nat) (u v sl : Nat) : Nat → Nat → List Nat
  | 0 => f
  | 1 => updF f u (f u ++ [sl])
  | _ => updF (updF f u (f u ++ [sl])) v (updF f u (f u ++ [sl]) v ++ [sl])
theorem insF_end {L : List Lv} {e : Lv} (hne : e.u ≠ e.v) : insF (incL L) e.u e.v e.slot 2 = incL (L ++ [e]) := by
  funext id
  rw [incL_snoc]
  show updF (updF (incL L) e.u (incL L e.u ++ [e.slot])) e.v (updF (incL L) e.u (incL L e.u ++ [e.slot]) e.v ++ [e.slot]) id = _
  unfold Lv.at
  by_cases h1 : id = e.v
  · subst h1
    rw [updF_same, updF_other (fun h => hne h.symm)]
    simp
  · rw [updF_other h1]
    by_cases h2 : id = e.u
    · subst h2
      rw [updF_same]; simp
    · rw [updF_other h2]
      have b1 : (e.u == id) = false := by simp; omega
      have b2 : (e.v == id) = false := by simp; omega
      rw [b1, b2]; simp
theorem InsS.fr {w7 wr : World} {ps pt mb n : Nat} {v7 : Value} {la lT lb : List Nat} {M : Md} {f : Nat → List Nat} (h : InsS w7 ps pt mb v7 la lT lb M f n wr) : Fr (mb :: (lT ++ lb)) w7 wr := by
  obtain ⟨_, _, _, _, _, _, h, _⟩ := h; exact h
theorem InsS.mok {w7 wr : World} {ps pt mb n : Nat} {v7 : Value} {la lT lb : List Nat} {M : Md} {f : Nat → List Nat} (h : InsS w7 ps pt mb v7 la lT lb M f n wr) : M.Ok := by
  obtain ⟨_, _, _, _, h, _⟩ := h; exact h.ok
theorem lookS {w w' : World} {mb n : Nat} {iv : Int → Option Value} {f : Nat → List Nat} {lb : List Nat} (h : IncI w mb iv f n lb) {id : Nat} (hid : id < U64) {v : Value} (hv : (iv id).getD nilS = v) (he : w'.heap[mb]? = w.heap[mb]?) :
    (Instr.lookup 71 (.map (some mb)) (.int .u64 id) false).run Tryz.prog w' = .ok v w' := by
  have := (h.im.same he).run_get Tryz.underlying22 Tryz.underlying71 (zero_ints w') rfl (wf_u64 hid)
  rw [hv] at this
  exact this
theorem live_set {L : List Lv} {e : Lv} {n : Nat} (hL : ∀ x ∈ L, x.slot ≠ e.slot) (hn : e.slot < n) : ((List.range n).map (liveAt L)).set e.slot e = (List.range n).map (liveAt (L ++ [e])) := by
  refine List.ext_getElem? fun i => ?_
  rw [List.getElem?_set]
  by_cases hi : i < n
  · simp only [List.length_map, List.length_range, List.getElem?_map, List.getElem?_range hi, Option.map_some, liveAt_snoc hL]
    by_cases he : e.slot = i
    · rw [if_pos he, if_pos he.symm, if_pos hn]
    · rw [if_neg he, if_neg (fun h => he h.symm)]
  · rw [if_neg (by omega), List.getElem?_eq_none (by simp; omega), List.getElem?_eq_none (by simp; omega)]
section
variable {w w' : World} {ps : Nat} {s : Sm} {K : List Nat}
theorem st_ins_no (h : StoreAt w ps s K) (u v : Nat) (hu : u < 18446744073709551616) (hv : v < 18446744073709551616) (wt t x : Int) (hc : s.chk u v ≠ 0) :
    Calls Tryz.prog 10 #[sptr ps, recA u v wt t, .int .i64 x] w fun e w' => e = .returned (.tuple #[lvA Lv.z, .int .i64 (s.chk u v)]) ∧ Fr [] w w' := by
  have H := Lib.hid h; clear h
  obtain ⟨code, hcode⟩ : ∃ code, code = s.chk u v := ⟨_, rfl⟩
  rw [← hcode] at hc ⊢
  have HCD := Lib.hid hcode; clear hcode
  have d1 : ((code : Int) == 0) = false := beq_eq_false_iff_ne.2 (by omega)
  have d2 : ((code : Int) != 0) = true := bne_iff_ne.2 (by omega)
  clear hc
  go_enter Tryz.func10, Tryz.ntmps10
  go_wp2_with fail
  have hf0 : Fr [] w ((w.alloc (.cells #[.int .u64 u, .int .u64 v, .int .i64 wt, .int .i64 t] 34)).alloc (.cells #[.int .i64 0, .int .u64 0, .int .u64 0, .int .u64 0, .int .i64 0, .int .i64 0, .int .i64 0] 36)) := ((Fr.refl [] w).alloc _).alloc _
  have HC := Lib.hid (st_check (H.out.fr0 hf0) u v hu hv wt t)
  rw [← HCD.out] at HC
  have hbx : Blk ((w.alloc (.cells #[.int .u64 u, .int .u64 v, .int .i64 wt, .int .i64 t] 34)).alloc (.cells #[.int .i64 0, .int .u64 0, .int .u64 0, .int .u64 0, .int .i64 0, .int .i64 0, .int .i64 0] 36)) (w.heap.size + 1) 36 [.int .i64 0, .int .u64 0, .int .u64 0, .int .u64 0, .int .i64 0, .int .i64 0, .int .i64 0] := by
    have := Blk.new (w.alloc (.cells #[.int .u64 u, .int .u64 v, .int .i64 wt, .int .i64 t] 34)) [.int .i64 0, .int .u64 0, .int .u64 0, .int .u64 0, .int .i64 0, .int .i64 0, .int .i64 0] 36
    simpa using this
  generalize (w.alloc (.cells #[.int .u64 u, .int .u64 v, .int .i64 wt, .int .i64 t] 34)).alloc (.cells #[.int .i64 0, .int .u64 0, .int .u64 0, .int .u64 0, .int .i64 0, .int .i64 0, .int .i64 0] 36) = w1 at *
  refine HC.out.mono ?_
  rintro _ w2 ⟨rfl, h2⟩
  have hb2 := h2.blk hbx (by simp)
  have z := hb2.frozen
  have HF := Lib.hid (hf0.trans' h2)
  have HB2 := Lib.hid (hb2.put7 Lv.z)
  clear hf0 h2 hbx HC
  have t0 := hb2.cell 0; have t1 := hb2.cell 1; have t2 := hb2.cell 2; have t3 := hb2.cell 3; have t4 := hb2.cell 4; have t5 := hb2.cell 5; have t6 := hb2.cell 6
  simp only [List.getElem?_cons_zero, List.getElem?_cons_succ] at t0 t1 t2 t3 t4 t5 t6
  clear hb2
  go_wp2_with fail
  have r := HB2.out.lvAt
  unfold LvAt Go.Proofs.YtbegdgnhpklceaaGreat.put7 at r
  simp only [Lv.z, Nat.zero_add, Int.ofNat_zero] at r
  obtain ⟨r0, r1, r2, r3, r4, r5, r6⟩ := r
  exact bodyPost_ret (v := .tuple #[lvA Lv.z, .int .i64 code]) (by simp [results, Tryz.results10, go_sem, r0, r1, r2, r3, r4, r5, r6, Lv.z]) rfl ⟨rfl, HF.out.put7 _ _ Lv.z (.inr (Nat.le_succ _))⟩
end
end Go.Proofs.YtbegdgnhpklceaaGreat
