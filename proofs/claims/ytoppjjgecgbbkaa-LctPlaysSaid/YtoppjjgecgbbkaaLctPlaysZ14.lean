/- LctNews: the walk. -/
import Derived.Test.YtoppjjgecgbbkaaLctPlaysZ13
import Derived.StillTailTactics
import Derived.Deep.Upon
import Derived.Deep.RegionHeld3
import Derived.Test.YtoppjjgecgbbkaaLctPlaysZ8
import Derived.OwnWalk
import Derived.Test.YtoppjjgecgbbkaaLctPlaysZ1
/- The document's forest: Set, edge, Link, Cut. -/
namespace Go.Proofs.Ytoppjjgecgbbkaa
open Go.RowKit Classical
set_option maxRecDepth 10000
set_option maxHeartbeats 800000

section
variable {w : World} {pr : Nat} {vK vL : Value} {n : Nat} {key : Nat → Int} {L : List (Nat × Nat)}

theorem RefAt.stKey {b cap i : Nat} (h : RefAt w pr (.slice (some ⟨b, 0, none⟩) n cap) vL n key L) (hi : i < n) (k : Int) :
    RefAt (w.setCell ⟨b, i, none⟩ (.int .i64 k)) pr (.slice (some ⟨b, 0, none⟩) n cap) vL n (updI key i k) L ∧ Fr (rB pr (.slice (some ⟨b, 0, none⟩) n cap) vL) w (w.setCell ⟨b, i, none⟩ (.int .i64 k)) := by
  have h1 := h.apK
  have h2 := h.apKL b rfl
  simp [Value.ownBlock] at h1
  refine ⟨⟨h.hd.other _ _ (fun e => h1 e.symm), ?_, ownsRow_other h.edges _ _ h2, h.apK, h.apL, h.apKL⟩, (Fr.refl _ _).setCell _ _ (.inl (by simp [rB, Value.ownBlock]))⟩
  rw [← keyCells_set]
  exact ownsRow_set h.keys hi _

theorem set_r (h : RefAt w pr vK vL n key L) (a k : Int) :
    Calls Try.prog 52 #[.pointer (some ⟨pr, 0, none⟩), .int .i64 a, .int .i64 k] w fun e w' => e = .returned (.int .i64 (setCode n a)) ∧ RefAt w' pr vK vL n (setKey n key a k) L ∧ Fr (rB pr vK vL) w w' := by
  have hV := Lib.hid (valid_r h)
  have hH := Lib.hid (has_r h a)
  cases hv : inV n a with
  | false =>
    rw [hv] at hH
    have e1 : setCode n a = 3 := by simp [setCode, hv]
    have e2 : setKey n key a k = key := by funext x; simp [setKey, hv]
    rw [e1, e2]; clear e1 e2
    go_enter Try.func52, Try.ntmps52
    go_wp2_with fail
    refine hV.out.mono ?_
    rintro _ w ⟨rfl, rfl⟩
    go_wp2_with fail
    refine hH.out.mono ?_
    rintro _ w ⟨rfl, rfl⟩
    go_wp2
    go_ret
    exact ⟨rfl, h, Fr.refl _ _⟩
  | true =>
    rw [hv] at hH
    obtain ⟨i, rfl, hi⟩ := inV_nat hv
    have e1 : setCode n (i : Int) = 0 := by simp [setCode, hv]
    have e2 : setKey n key (i : Int) k = updI key i k := by funext x; simp [setKey, hv, updI]
    rw [e1, e2]; clear e1 e2
    obtain ⟨b, cap, rfl, hc, hz⟩ := h.keyAt hi
    have c1 := h.hd.cell 1
    simp only [List.getElem?_cons_zero, List.getElem?_cons_succ] at c1
    have hi2 : (i : Int) < n := by omega
    go_enter Try.func52, Try.ntmps52
    go_wp2_with fail
    refine hV.out.mono ?_
    rintro _ w ⟨rfl, rfl⟩
    go_wp2_with fail
    refine hH.out.mono ?_
    rintro _ w ⟨rfl, rfl⟩
    go_wp2
    go_ret
    exact ⟨rfl, h.stKey hi k⟩

theorem edge_r (h : RefAt w pr vK vL n key L) (hL : L.length ≤ 65536) (x y : Nat) :
    Calls Try.prog 61 #[.pointer (some ⟨pr, 0, none⟩), .int .i64 x, .int .i64 y] w fun e w' => w' = w ∧ ((e = .returned (.int .i64 (-1)) ∧ ¬ EK L x y) ∨ ∃ i, ∃ hi : i < L.length, e = .returned (.int .i64 i) ∧ (L[i] = (x, y) ∨ L[i] = (y, x))) := by
  obtain ⟨a2, cap2, rfl⟩ := h.slL
  have c2 := h.hd.cell 2
  simp only [List.getElem?_cons_zero, List.getElem?_cons_succ] at c2
  have HE := Lib.hid h.edges; clear h
  go_enter Try.func61, Try.ntmps61
  go_wp2
  go_loopw [7] (fun sy wr => wr = w ∧ ∃ j : Nat, j ≤ L.length ∧ sy = .int .i64 j ∧ foundB L x y j = false) (fun sy _ => L.length - (intOf sy).toNat)
  case atStart => exact ⟨rfl, 0, Nat.zero_le _, rfl, found_zero _ _ _⟩
  case round =>
    obtain ⟨rfl, j, hj, rfl, hfd⟩ := hrel
    by_cases hjK : j < L.length
    · obtain ⟨b, cap, e, hb, q0, q1⟩ := pair_at HE.out hjK
      simp only [Value.slice.injEq, true_and] at e
      obtain ⟨rfl, rfl⟩ := e
      have hfs := found_succ (x := x) (y := y) hjK
      rw [hfd] at hfs
      have hpq : L[j] = (L[j].1, L[j].2) := rfl
      have Hpq := Lib.hid hpq; clear hpq
      have Hfs := Lib.hid hfs; clear hfs
      have Hfd := Lib.hid hfd; clear hfd
      generalize (L[j]'hjK).1 = y0 at *
      generalize (L[j]'hjK).2 = y1 at *
      have hj1 : (j : Int) < L.length := by omega
      have hj0 : (0 : Int) ≤ j := by omega
      cases he1 : pairEq (y0 : Int) (y1 : Int) (x : Int) (y : Int) with
      | true =>
        have He1 := Lib.hid he1
        go_wp2
        go_ret
        refine ⟨rfl, .inr ⟨j, hjK, rfl, .inl ?_⟩⟩
        have := He1.out
        simp [pairEq] at this
        rw [Hpq.out, show y0 = x by omega, show y1 = y by omega]
      | false =>
        have He1 := Lib.hid he1
        cases he2 : pairEq (y0 : Int) (y1 : Int) (y : Int) (x : Int) with
        | true =>
          have He2 := Lib.hid he2
          go_wp2
          go_ret
          refine ⟨rfl, .inr ⟨j, hjK, rfl, .inr ?_⟩⟩
          have := He2.out
          simp [pairEq] at this
          rw [Hpq.out, show y0 = y by omega, show y1 = x by omega]
        | false =>
          have He2 := Lib.hid he2
          go_wp2
          go_roundw
          case rel => exact ⟨trivial, j + 1, by omega, by go_num, by rw [Hfs.out, He1.out, He2.out]; rfl⟩
          case measure => simp [intOf]; omega
    · obtain rfl : j = L.length := by omega
      have Hfd := Lib.hid hfd; clear hfd
      go_wp2
      go_ret
      refine ⟨rfl, .inl ⟨rfl, ?_⟩⟩
      have := of_decide_eq_false Hfd.out
      rintro (he | he)
      · obtain ⟨i, hi, e⟩ := List.mem_iff_getElem.1 he
        exact this ⟨i, hi, hi, .inl e⟩
      · obtain ⟨i, hi, e⟩ := List.mem_iff_getElem.1 he
        exact this ⟨i, hi, hi, .inr e⟩

theorem EL.len (h : EL n L) : L.length ≤ n := by have := h.trees; omega

/-- The list after a link. -/
noncomputable def linkL (n : Nat) (L : List (Nat × Nat)) (a b : Int) : List (Nat × Nat) := if linkCode n (EK L) a b = 0 then L ++ [(a.toNat, b.toNat)] else L
theorem linkL_E (L : List (Nat × Nat)) (a b : Int) : EK (linkL n L a b) = linkE n (EK L) a b := by
  unfold linkL linkE
  split
  · rw [EK_snoc]
  · rfl

theorem link_r (h : RefAt w pr vK vL n key L) (hE : EL n L) (a b : Int) :
    Calls Try.prog 50 #[.pointer (some ⟨pr, 0, none⟩), .int .i64 a, .int .i64 b] w fun e w' => e = .returned (.int .i64 (linkCode n (EK L) a b)) ∧ ∃ vL', RefAt w' pr vK vL' n key (linkL n L a b) ∧ Fr (rB pr vK vL) w w' ∧
      ∀ q, vL'.ownBlock = some q → vL.ownBlock = some q ∨ w.heap.size ≤ q := by
  have hV := Lib.hid (valid_r h)
  have hA := Lib.hid (has_r h a)
  have hB := Lib.hid (has_r h b)
  have hC := Lib.hid (connected_r h hE a b)
  have hle := hE.le
  have hlen := hE.len
  have hno : linkCode n (EK L) a b ≠ 0 → linkL n L a b = L := fun e => by unfold linkL; rw [if_neg e]
  have hno2 : linkCode n (EK L) a b ≠ 0 → ∀ w', Fr [] w w' → ∃ vL', RefAt w' pr vK vL' n key (linkL n L a b) ∧ Fr (rB pr vK vL) w w' ∧ ∀ q, vL'.ownBlock = some q → vL.ownBlock = some q ∨ w.heap.size ≤ q := by
    intro e w' hf
    rw [hno e]
    exact ⟨vL, h.fr0 hf, hf.mono (by simp), fun q hq => .inl hq⟩
  clear hno
  have Hno := Lib.hid hno2; clear hno2
  cases hva : inV n a with
  | false =>
    rw [hva] at hA
    have e1 : linkCode n (EK L) a b = 3 := by unfold linkCode; rw [if_neg (by simp [hva])]
    have hr := Hno.out (by rw [e1]; decide) w (Fr.refl _ _)
    rw [e1]
    have HR := Lib.hid hr; clear hr Hno e1
    go_enter Try.func50, Try.ntmps50
    go_wp2_with fail
    refine hV.out.mono ?_
    rintro _ w ⟨rfl, rfl⟩
    go_wp2_with fail
    refine hA.out.mono ?_
    rintro _ w ⟨rfl, rfl⟩
    go_wp2
    go_ret
    exact ⟨rfl, HR.out⟩
  | true =>
    rw [hva] at hA
    cases hvb : inV n b with
    | false =>
      rw [hvb] at hB
      have e1 : linkCode n (EK L) a b = 3 := by unfold linkCode; rw [if_neg (by simp [hvb])]
      have hr := Hno.out (by rw [e1]; decide) w (Fr.refl _ _)
      rw [e1]
      have HR := Lib.hid hr; clear hr Hno e1
      go_enter Try.func50, Try.ntmps50
      go_wp2_with fail
      refine hV.out.mono ?_
      rintro _ w ⟨rfl, rfl⟩
      go_wp2_with fail
      refine hA.out.mono ?_
      rintro _ w ⟨rfl, rfl⟩
      go_wp2_with fail
      refine hB.out.mono ?_
      rintro _ w ⟨rfl, rfl⟩
      go_wp2
      go_ret
      exact ⟨rfl, HR.out⟩
    | true =>
      rw [hvb] at hB
      obtain ⟨x, rfl, hx⟩ := inV_nat hva
      obtain ⟨y, rfl, hy⟩ := inV_nat hvb
      by_cases hxy : x = y
      · have e1 : linkCode n (EK L) (x : Int) (y : Int) = 9 := by unfold linkCode; rw [if_pos ⟨hva, hvb⟩, if_pos (by omega)]
        have hr := Hno.out (by rw [e1]; decide) w (Fr.refl _ _)
        rw [e1]
        have HR := Lib.hid hr; clear hr Hno e1
        have hb : ((x : Int) == (y : Int)) = true := beq_iff_eq.2 (by omega)
        clear hxy
        go_enter Try.func50, Try.ntmps50
        go_wp2_with fail
        refine hV.out.mono ?_
        rintro _ w ⟨rfl, rfl⟩
        go_wp2_with fail
        refine hA.out.mono ?_
        rintro _ w ⟨rfl, rfl⟩
        go_wp2_with fail
        refine hB.out.mono ?_
        rintro _ w ⟨rfl, rfl⟩
        go_wp2
        go_ret
        exact ⟨rfl, HR.out⟩
      · have hb : ((x : Int) == (y : Int)) = false := beq_eq_false_iff_ne.2 (by omega)
        cases hcb : connB n (EK L) (x : Int) (y : Int) with
        | true =>
          rw [hcb] at hC
          have e1 : linkCode n (EK L) (x : Int) (y : Int) = 6 := by unfold linkCode; rw [if_pos ⟨hva, hvb⟩, if_neg (by omega), if_pos (connB_iff.1 hcb).2.2]
          rw [e1]
          rw [e1] at Hno
          clear e1 hxy
          go_enter Try.func50, Try.ntmps50
          go_wp2_with fail
          refine hV.out.mono ?_
          rintro _ w ⟨rfl, rfl⟩
          go_wp2_with fail
          refine hA.out.mono ?_
          rintro _ w ⟨rfl, rfl⟩
          go_wp2_with fail
          refine hB.out.mono ?_
          rintro _ w ⟨rfl, rfl⟩
          go_wp2_with fail
          refine hC.out.mono ?_
          rintro _ w1 ⟨rfl, hF⟩
          have HR := Lib.hid (Hno.out (by decide) w1 hF)
          clear hF Hno
          go_wp2
          go_ret
          exact ⟨rfl, HR.out⟩
        | false =>
          rw [hcb] at hC
          have hnc : ¬ Conn (EK L) x y := fun hc => by
            have : connB n (EK L) (x : Int) (y : Int) = true := connB_iff.2 ⟨hva, hvb, by simpa using hc⟩
            rw [hcb] at this; cases this
          have e1 : linkCode n (EK L) (x : Int) (y : Int) = 0 := by unfold linkCode; rw [if_pos ⟨hva, hvb⟩, if_neg (by omega), if_neg (by simpa using hnc)]
          have e2 : linkL n L (x : Int) (y : Int) = L ++ [(x, y)] := by unfold linkL; rw [if_pos e1]; simp
          rw [e1, e2]
          clear e1 e2 hxy hnc Hno
          obtain ⟨a9, c9, rfl⟩ := h.slL
          have HR := Lib.hid h; clear h
          go_enter Try.func50, Try.ntmps50
          go_wp2_with fail
          refine hV.out.mono ?_
          rintro _ w ⟨rfl, rfl⟩
          go_wp2_with fail
          refine hA.out.mono ?_
          rintro _ w ⟨rfl, rfl⟩
          go_wp2_with fail
          refine hB.out.mono ?_
          rintro _ w ⟨rfl, rfl⟩
          go_wp2_with fail
          refine hC.out.mono ?_
          rintro _ w1 ⟨rfl, hF⟩
          have HR1 := Lib.hid (HR.out.fr0 hF)
          have c2 := HR1.out.hd.cell 2
          have fz := HR1.out.hd.frozen 2
          simp only [List.getElem?_cons_zero, List.getElem?_cons_succ] at c2
          have hlp := HR1.out.hd.lt
          have Hs := Lib.hid hF; clear hF
          go_wp2_with (at_builtin; refine wpList_app2 rfl _ _ rfl (.slice a9 L.length c9) L.length _ rfl (HR1.out.edges.alloc _) w1.heap.size x y rfl ((Blk.new w1 [.int .i64 x, .int .i64 y] 30).cell 0) ((Blk.new w1 [.int .i64 x, .int .i64 y] 30).cell 1) (by omega) ?_; intro g' cap' w4 hown4 hgrow4 hg4; have hF4 : Fr (Value.slice a9 L.length c9).ownBlock.toList w1 w4 := ((Fr.refl _ _).alloc _).grown hgrow4 (fun q e => .inl (by simp [e])); have hd4 : Blk w4 pr 76 [.bool true, vK, .slice a9 L.length c9] := hF4.blk HR1.out.hd (fun hm => HR1.out.apL (by simpa using hm)); have c4 := hd4.cell 2; have z4 := hd4.frozen 2; simp only [List.getElem?_cons_zero, List.getElem?_cons_succ] at c4)
          go_ret
          have hs1 := Hs.out.size
          simp only [World.size_alloc] at hg4
          have hg' : g' ≠ pr := by
            rintro rfl
            rcases hg4 with e | e
            · exact HR1.out.apL e
            · omega
          refine ⟨rfl, .slice (some ⟨g', 0, none⟩) (L.length + 1) cap', ⟨?_, ?_, ?_, HR.out.apK, ?_, ?_⟩, ?_, ?_⟩
          · exact hd4.set 2 _
          · refine ownsRow_other (ownsRow_same HR1.out.keys (fun q hq => hF4.keep q (HR1.out.keys.lt q hq).2 (fun hm => HR1.out.apKL q hq (by simpa using hm)))) _ _ HR1.out.apK
          · rw [pairCells_snoc, List.length_append]
            exact ownsRow_other hown4 _ _ (by simpa [Value.ownBlock] using hg')
          · simpa [Value.ownBlock] using hg'
          · intro q hq e
            simp only [Value.ownBlock, Option.some.injEq] at e
            subst e
            rcases hg4 with e | e
            · exact HR1.out.apKL _ hq e
            · have := (HR1.out.keys.lt _ hq).2; omega
          · refine (((Hs.out.mono (S' := rB pr vK (.slice a9 L.length c9)) (by simp)).trans hF4 (fun q hq => .inl ?_))).setCell _ _ (.inl (by simp [rB]))
            simp only [rB, List.mem_cons, List.mem_append]; exact .inr (.inr hq)
          · intro q hq
            simp only [Value.ownBlock, Option.some.injEq] at hq
            subst hq
            rcases hg4 with e | e
            · exact .inl e
            · exact .inr (by omega)
end
end Go.Proofs.Ytoppjjgecgbbkaa

/- The document's forest: Cut, Copy. -/
namespace Go.Proofs.Ytoppjjgecgbbkaa
open Go.RowKit Classical
set_option maxRecDepth 10000
set_option maxHeartbeats 800000

section
variable {w : World} {pr : Nat} {vK vL : Value} {n : Nat} {key : Nat → Int} {L : List (Nat × Nat)}

theorem Once.at (h : Once L) {i j : Nat} (hi : i < L.length) (hj : j < L.length) (hne : i ≠ j) : L[i] ≠ L[j] ∧ L[i] ≠ swp L[j] := by
  rcases Nat.lt_or_gt_of_ne hne with hlt | hlt
  · exact List.pairwise_iff_getElem.1 h i j hi hj hlt
  · obtain ⟨h1, h2⟩ := List.pairwise_iff_getElem.1 h j i hj hi hlt
    refine ⟨fun e => h1 e.symm, fun e => h2 ?_⟩
    rw [e]; rfl
theorem EK_erase (h : Once L) {i x y : Nat} (hi : i < L.length) (hxy : L[i] = (x, y) ∨ L[i] = (y, x)) : EK (L.eraseIdx i) = delE (EK L) x y := by
  have key : ∀ p : Nat × Nat, p ∈ L.eraseIdx i ↔ p ∈ L ∧ p ≠ (x, y) ∧ p ≠ (y, x) := by
    intro p
    rw [List.mem_eraseIdx_iff_getElem]
    constructor
    · rintro ⟨j, hj, hne, rfl⟩
      obtain ⟨h1, h2⟩ := h.at hj hi hne
      refine ⟨List.getElem_mem _, ?_, ?_⟩ <;> rcases hxy with e | e <;> rw [e] at h1 h2 <;> first | exact h1 | exact h2
    · rintro ⟨hp, h1, h2⟩
      obtain ⟨j, hj, rfl⟩ := List.mem_iff_getElem.1 hp
      refine ⟨j, hj, ?_, rfl⟩
      rintro rfl
      rcases hxy with e | e
      · exact h1 e
      · exact h2 e
  refine E_ext (fun v u => ?_)
  simp only [EK, delE, key, Prod.mk.injEq, ne_eq]
  constructor
  · rintro (⟨h1, h2, h3⟩ | ⟨h1, h2, h3⟩)
    · exact ⟨.inl h1, h2, h3⟩
    · exact ⟨.inr h1, fun e => h3 ⟨e.2, e.1⟩, fun e => h2 ⟨e.2, e.1⟩⟩
  · rintro ⟨h1 | h1, h2, h3⟩
    · exact .inl ⟨h1, h2, h3⟩
    · exact .inr ⟨h1, fun e => h3 ⟨e.2, e.1⟩, fun e => h2 ⟨e.2, e.1⟩⟩
/-- What a list becomes by a cut. -/
def CutOf (n : Nat) (L : List (Nat × Nat)) (a b : Int) (L' : List (Nat × Nat)) : Prop :=
  (cutCode n (EK L) a b ≠ 0 ∧ L' = L) ∨ (cutCode n (EK L) a b = 0 ∧ ∃ i, ∃ hi : i < L.length, (L[i] = (a.toNat, b.toNat) ∨ L[i] = (b.toNat, a.toNat)) ∧ L' = L.eraseIdx i)
theorem CutOf.E (hE : EL n L) {a b : Int} {L' : List (Nat × Nat)} (h : CutOf n L a b L') : EK L' = cutE n (EK L) a b := by
  unfold cutE
  rcases h with ⟨h1, rfl⟩ | ⟨h1, i, hi, h2, rfl⟩
  · rw [if_neg h1]
  · rw [if_pos h1, EK_erase hE.once hi h2]
theorem CutOf.el (hE : EL n L) {a b : Int} {L' : List (Nat × Nat)} (h : CutOf n L a b L') (hf : Frs (cutE n (EK L) a b)) : EL n L' := by
  have hE' := h.E hE
  rcases h with ⟨h1, rfl⟩ | ⟨h1, i, hi, h2, rfl⟩
  · exact hE
  · refine ⟨hE.le, by rw [hE']; exact hf, hE.once.sublist (List.eraseIdx_sublist _ _), fun p hp => hE.lt p (List.mem_of_mem_eraseIdx hp), ?_⟩
    have he : EK L a.toNat b.toNat := by
      rcases h2 with e | e
      · exact .inl (e ▸ List.getElem_mem hi)
      · exact .inr (e ▸ List.getElem_mem hi)
    have hlt : a.toNat < n ∧ b.toNat < n := hE.elt _ _ he
    have ecut : cutE n (EK L) a b = delE (EK L) a.toNat b.toNat := by unfold cutE; rw [if_pos h1]
    rw [ecut] at hf
    have := nc_del hE.frs hf he hlt.1 hlt.2
    have h3 := hE.trees
    rw [hE', ecut, this, List.length_eraseIdx, if_pos hi]
    omega

theorem linkL_el (hE : EL n L) {a b : Int} (hf : Frs (linkE n (EK L) a b)) : EL n (linkL n L a b) := by
  have hE' := linkL_E (n := n) L a b
  by_cases h : linkCode n (EK L) a b = 0
  · have e1 : linkL n L a b = L ++ [(a.toNat, b.toNat)] := by unfold linkL; rw [if_pos h]
    have ecut : linkE n (EK L) a b = addE (EK L) a.toNat b.toNat := by unfold linkE; rw [if_pos h]
    have hv : inV n a = true ∧ inV n b = true := by
      apply Classical.byContradiction; intro e; unfold linkCode at h; rw [if_neg e] at h; cases h
    have hab : a ≠ b := by
      intro e; unfold linkCode at h; rw [if_pos hv, if_pos e] at h; cases h
    have hn : ¬ Conn (EK L) a.toNat b.toNat := by
      intro e; unfold linkCode at h; rw [if_pos hv, if_neg hab, if_pos e] at h; cases h
    obtain ⟨x, rfl, hx⟩ := inV_nat hv.1
    obtain ⟨y, rfl, hy⟩ := inV_nat hv.2
    simp only [Int.toNat_natCast] at hn e1 ecut
    have hxy : x ≠ y := by omega
    rw [e1] at hE' ⊢
    refine ⟨hE.le, by rw [hE']; exact hf, List.pairwise_append.2 ⟨hE.once, List.pairwise_singleton _ _, fun p hp q hq => ?_⟩, fun p hp => ?_, ?_⟩
    · simp at hq; subst hq
      have hE : EK L p.1 p.2 := .inl hp
      constructor
      · rintro rfl
        exact hn ⟨[x, y], [y], rfl, ⟨hE, trivial⟩, by simp [hxy], rfl⟩
      · intro e
        have e1 : p.1 = y := by rw [e]; rfl
        have e2 : p.2 = x := by rw [e]; rfl
        rw [e1, e2] at hE
        exact hn ⟨[x, y], [y], rfl, ⟨hE.symm, trivial⟩, by simp [hxy], rfl⟩
    · rcases List.mem_append.1 hp with hp | hp
      · exact hE.lt p hp
      · simp at hp; subst hp; exact ⟨hx, hy, hxy⟩
    · rw [ecut] at hf
      have := nc_add hE.frs hf hn hx hy
      have h3 := hE.trees
      rw [hE', ecut, List.length_append]
      simp
      omega
  · have e1 : linkL n L a b = L := by unfold linkL; rw [if_neg h]
    rw [e1]; exact hE

/-- The first i of a list without number k. -/
def woK (L : List (Nat × Nat)) (k i : Nat) : List (Nat × Nat) := (L.take i).eraseIdx k
theorem woK_zero (k : Nat) : woK L k 0 = [] := by simp [woK]
theorem woK_len (k i : Nat) : (woK L k i).length ≤ i := by
  unfold woK
  rw [List.length_eraseIdx]
  simp only [List.length_take]
  split <;> omega
theorem woK_ne {k i : Nat} (hi : i < L.length) (hne : i ≠ k) : woK L k (i + 1) = woK L k i ++ [L[i]] := by
  unfold woK
  have e : L.take (i + 1) = L.take i ++ [L[i]] := by rw [List.take_add_one, List.getElem?_eq_getElem hi]; rfl
  have hl : (L.take i).length = i := by simp; omega
  rw [e]
  by_cases h : k < i
  · rw [List.eraseIdx_append_of_lt_length (by omega)]
  · rw [List.eraseIdx_of_length_le (by simp; omega), List.eraseIdx_of_length_le (by simp; omega)]
theorem woK_eq {k : Nat} (hk : k < L.length) : woK L k (k + 1) = woK L k k := by
  unfold woK
  have e : L.take (k + 1) = L.take k ++ [L[k]] := by rw [List.take_add_one, List.getElem?_eq_getElem hk]; rfl
  have hl : (L.take k).length = k := by simp; omega
  rw [e, List.eraseIdx_append_of_length_le (by omega), hl, List.eraseIdx_of_length_le (l := L.take k) (by omega)]
  simp
theorem woK_all (k : Nat) : woK L k L.length = L.eraseIdx k := by simp [woK]

theorem cut_r (h : RefAt w pr vK vL n key L) (hE : EL n L) (a b : Int) :
    Calls Try.prog 51 #[.pointer (some ⟨pr, 0, none⟩), .int .i64 a, .int .i64 b] w fun e w' => e = .returned (.int .i64 (cutCode n (EK L) a b)) ∧ ∃ L' vL', CutOf n L a b L' ∧ RefAt w' pr vK vL' n key L' ∧ Fr (rB pr vK vL) w w' ∧
      ∀ q, vL'.ownBlock = some q → vL.ownBlock = some q ∨ w.heap.size ≤ q := by
  have hV := Lib.hid (valid_r h)
  have hA := Lib.hid (has_r h a)
  have hB := Lib.hid (has_r h b)
  have hle := hE.le
  have hlen := hE.len
  have hno2 : cutCode n (EK L) a b ≠ 0 → ∃ L' vL', CutOf n L a b L' ∧ RefAt w pr vK vL' n key L' ∧ Fr (rB pr vK vL) w w ∧ ∀ q, vL'.ownBlock = some q → vL.ownBlock = some q ∨ w.heap.size ≤ q := by
    intro e
    exact ⟨L, vL, .inl ⟨e, rfl⟩, h, Fr.refl _ _, fun q hq => .inl hq⟩
  have Hno := Lib.hid hno2; clear hno2
  cases hva : inV n a with
  | false =>
    rw [hva] at hA
    have e1 : cutCode n (EK L) a b = 3 := by unfold cutCode; rw [if_neg (by simp [hva])]
    have hr := Hno.out (by rw [e1]; decide)
    rw [e1]
    have HR := Lib.hid hr; clear hr Hno e1
    go_enter Try.func51, Try.ntmps51
    go_wp2_with fail
    refine hV.out.mono ?_
    rintro _ w ⟨rfl, rfl⟩
    go_wp2_with fail
    refine hA.out.mono ?_
    rintro _ w ⟨rfl, rfl⟩
    go_wp2
    go_ret
    exact ⟨rfl, HR.out⟩
  | true =>
    rw [hva] at hA
    cases hvb : inV n b with
    | false =>
      rw [hvb] at hB
      have e1 : cutCode n (EK L) a b = 3 := by unfold cutCode; rw [if_neg (by simp [hvb])]
      have hr := Hno.out (by rw [e1]; decide)
      rw [e1]
      have HR := Lib.hid hr; clear hr Hno e1
      go_enter Try.func51, Try.ntmps51
      go_wp2_with fail
      refine hV.out.mono ?_
      rintro _ w ⟨rfl, rfl⟩
      go_wp2_with fail
      refine hA.out.mono ?_
      rintro _ w ⟨rfl, rfl⟩
      go_wp2_with fail
      refine hB.out.mono ?_
      rintro _ w ⟨rfl, rfl⟩
      go_wp2
      go_ret
      exact ⟨rfl, HR.out⟩
    | true =>
      rw [hvb] at hB
      obtain ⟨x, rfl, hx⟩ := inV_nat hva
      obtain ⟨y, rfl, hy⟩ := inV_nat hvb
      have HEd := Lib.hid (edge_r h (by omega) x y)
      have e0 : cutCode n (EK L) (x : Int) (y : Int) = if EK L x y then 0 else 5 := by unfold cutCode; rw [if_pos ⟨hva, hvb⟩]; simp
      have He0 := Lib.hid e0; clear e0
      go_enter Try.func51, Try.ntmps51
      go_wp2_with fail
      refine hV.out.mono ?_
      rintro _ w ⟨rfl, rfl⟩
      go_wp2_with fail
      refine hA.out.mono ?_
      rintro _ w ⟨rfl, rfl⟩
      go_wp2_with fail
      refine hB.out.mono ?_
      rintro _ w ⟨rfl, rfl⟩
      go_wp2_with fail
      refine HEd.out.mono ?_
      rintro _ w ⟨rfl, hr⟩
      clear HEd hV hA hB
      rcases hr with ⟨rfl, hne⟩ | ⟨k, hk, rfl, hxy⟩
      · have e1 : cutCode n (EK L) (x : Int) (y : Int) = 5 := by rw [He0.out, if_neg hne]
        have HR := Lib.hid (Hno.out (by rw [e1]; decide))
        have He1 := Lib.hid e1; clear e1 Hno hne
        go_wp2
        go_ret
        exact ⟨by rw [He1.out]; rfl, HR.out⟩
      · have e1 : cutCode n (EK L) (x : Int) (y : Int) = 0 := by
          rw [He0.out, if_pos]
          rcases hxy with e | e
          · exact .inl (e ▸ List.getElem_mem hk)
          · exact .inr (e ▸ List.getElem_mem hk)
        have HC : Hid (CutOf n L (x : Int) (y : Int) (L.eraseIdx k)) := Lib.hid (.inr ⟨e1, k, hk, by simpa using hxy, rfl⟩)
        have He1 := Lib.hid e1; clear e1 Hno He0 hxy
        obtain ⟨a9, c9, rfl⟩ := h.slL
        have c2 := h.hd.cell 2
        simp only [List.getElem?_cons_zero, List.getElem?_cons_succ] at c2
        have hlp := h.hd.lt
        have HR := Lib.hid h; clear h
        have hk0 : decide ((k : Int) < 0) = false := decide_eq_false (by omega)
        go_wp2
        clear c2
        go_loopw [8, 9] (fun v sy wr => ∃ j : Nat, j ≤ L.length ∧ sy = .int .i64 j ∧ Hid (Fr [] w wr) ∧ wr.ownsRow 0 30 2 v (woK L k j).length (pairCells (woK L k j)) ∧ Hid (∀ q, v.ownBlock = some q → w.heap.size ≤ q)) (fun _ sy _ => L.length - (intOf sy).toNat)
        case atStart => exact ⟨0, Nat.zero_le _, rfl, Lib.hid (Fr.refl _ _), by rw [woK_zero]; exact World.ownsRow_nil _ _ _ _, Lib.hid (fun q e => by cases e)⟩
        case round =>
          obtain ⟨j, hj, rfl, HF, hown, HQ⟩ := hrel
          obtain ⟨a8, c8, rfl⟩ := ownsRow_slice hown
          have HRr := Lib.hid (HR.out.fr0 HF.out)
          have c2 := HRr.out.hd.cell 2
          simp only [List.getElem?_cons_zero, List.getElem?_cons_succ] at c2
          by_cases hjK : j < L.length
          · have hj1 : (j : Int) < L.length := by omega
            have hj0 : (0 : Int) ≤ j := by omega
            have hwl := woK_len (L := L) k j
            by_cases hjk : j = k
            · subst hjk
              have hb : ((j : Int) != (j : Int)) = false := by simp
              have Hw := Lib.hid (woK_eq hk)
              go_wp2
              go_roundw
              case rel => exact ⟨j + 1, by omega, by go_num, HF, by rw [Hw.out]; exact hown, HQ⟩
              case measure => simp [intOf]; omega
            · have hb : ((j : Int) != (k : Int)) = true := by simp; omega
              have Hw := Lib.hid (woK_ne hjK hjk)
              obtain ⟨b, cap, e, hb, q0, q1⟩ := pair_at HRr.out.edges hjK
              simp only [Value.slice.injEq, true_and] at e
              obtain ⟨rfl, rfl⟩ := e
              have hpq : L[j] = (L[j].1, L[j].2) := rfl
              have Hpq := Lib.hid hpq; clear hpq
              generalize (L[j]'hjK).1 = y0 at *
              generalize (L[j]'hjK).2 = y1 at *
              generalize hW : woK L k j = Wk at *
              clear hW
              clear hjk
              go_wp2_with (at_builtin; refine wpList_app2 rfl _ _ rfl (.slice a8 Wk.length c8) Wk.length _ rfl (hown.alloc _) wr.heap.size y0 y1 rfl ((Blk.new wr [.int .i64 y0, .int .i64 y1] 30).cell 0) ((Blk.new wr [.int .i64 y0, .int .i64 y1] 30).cell 1) (by omega) ?_; intro g' cap' w4 hown4 hgrow4 hg4; have hF4 : Fr (Value.slice a8 Wk.length c8).ownBlock.toList wr w4 := ((Fr.refl _ _).alloc _).grown hgrow4 (fun q e => .inl (by simp [e])))
              go_roundw
              case rel =>
                have hs := HF.out.size
                simp only [World.size_alloc] at hg4
                refine ⟨j + 1, by omega, by go_num, Lib.hid (HF.out.trans hF4 (fun q hq => .inr (HQ.out q (by simpa using hq)))), ?_, Lib.hid (fun q e => ?_)⟩
                · rw [Hw.out, Hpq.out, pairCells_snoc, List.length_append]
                  exact hown4
                · simp only [Value.ownBlock, Option.some.injEq] at e
                  subst e
                  rcases hg4 with e | e
                  · exact HQ.out _ e
                  · omega
              case measure => simp [intOf]; omega
          · obtain rfl : j = L.length := by omega
            rw [woK_all] at hown HQ ⊢
            have Hown := Lib.hid hown; clear hown
            have fz := HRr.out.hd.frozen 2
            go_wp2
            go_ret
            have hnp : (Value.slice a8 (L.eraseIdx k).length c8).ownBlock ≠ some pr := fun e => by have := HQ.out pr e; omega
            have hnk : ∀ q, vK.ownBlock = some q → (Value.slice a8 (L.eraseIdx k).length c8).ownBlock ≠ some q := fun q hq e => by
              have h1 := HQ.out q e
              have h2 := (HR.out.keys.lt q hq).2
              omega
            refine ⟨by rw [He1.out]; rfl, L.eraseIdx k, .slice a8 (L.eraseIdx k).length c8, HC.out, ⟨HRr.out.hd.set 2 _, ownsRow_other HRr.out.keys _ _ HRr.out.apK, ?_, HR.out.apK, hnp, hnk⟩, (HF.out.mono (by simp)).setCell _ _ (.inl (by simp [rB])), fun q hq => .inr (HQ.out q hq)⟩
            exact ownsRow_other Hown.out _ _ hnp
end
end Go.Proofs.Ytoppjjgecgbbkaa

/- The document's forest: Copy. -/
namespace Go.Proofs.Ytoppjjgecgbbkaa
open Go.RowKit Classical
set_option maxRecDepth 10000
set_option maxHeartbeats 800000

section
variable {w : World} {pr : Nat} {vK vL : Value} {n : Nat} {key : Nat → Int} {L : List (Nat × Nat)}

theorem pairCells_one (L : List (Nat × Nat)) : ∀ u ∈ pairCells L, u.oneCell' = true := by
  intro u hu
  simp only [pairCells, List.mem_flatMap] at hu
  obtain ⟨p, _, hp⟩ := hu
  simp at hp
  rcases hp with rfl | rfl <;> rfl
theorem copy_r (h : RefAt w pr vK vL n key L) (hE : EL n L) :
    Calls Try.prog 53 #[.pointer (some ⟨pr, 0, none⟩)] w fun e w' => ∃ pr' vK' vL', e = .returned (.pointer (some ⟨pr', 0, none⟩)) ∧ RefAt w' pr' vK' vL' n key L ∧ Fr [] w w' ∧ ∀ q ∈ rB pr' vK' vL', w.heap.size ≤ q := by
  have hle := hE.le
  have hlen := hE.len
  have hV := Lib.hid (valid_r h)
  have HR := Lib.hid h
  have hlp := h.hd.lt
  have hb := Blk.new w [.bool true, .slice none 0 0, .slice none 0 0] 76
  have hF1 : Fr [] w (w.alloc (.cells [.bool true, .slice none 0 0, .slice none 0 0].toArray 76)) := (Fr.refl [] w).alloc _
  have H1 := Lib.hid (And.intro hb (And.intro (h.fr0 hF1) hF1)); clear hb h hF1
  have m1 := H1.out.1.cell 1
  have m1z := H1.out.1.frozen 1
  have r1 := H1.out.2.1.hd.cell 1
  simp only [List.getElem?_cons_zero, List.getElem?_cons_succ] at m1 r1
  go_enter Try.func53, Try.ntmps53
  go_wp2_with fail
  refine hV.out.mono ?_
  rintro _ w ⟨rfl, rfl⟩
  go_wp2
  go_region_law (first | (refine step_app_nil (by rfl) _ _ _ (by rfl) 2 (.int .i64 0) 1 8 Try.underlying50 (by kernel_rfl) rfl (by decide) (by rfl) vK n (keyCells n key) (by rfl) ((H1.out.2.1.drewN 1).keys) (by simp [keyCells, Value.oneCell']) (by unfold maxLen; omega) (by omega) ?_; intro v2 w2 hown2 hF2 hq2; obtain ⟨a2, cp2, rfl⟩ := ownsRow_slice hown2; have c2 := (hF2.blk (H1.out.1.drewN 1) (by simp)).cell 1; have z2 := (hF2.blk (H1.out.1.drewN 1) (by simp)).frozen 1; simp only [List.getElem?_cons_zero, List.getElem?_cons_succ] at c2))
  all_goals
    have hb2 := (hF2.blk (H1.out.1.drewN 1) (by simp)).set 1 (.slice a2 n cp2)
    simp only [List.set_cons_succ, List.set_cons_zero] at hb2
    have hs2 := hF2.size
    simp at hs2
    have hq2' : (Value.slice a2 n cp2).ownBlock ≠ some w.heap.size := fun e => by have := hq2 _ e; simp at this; omega
    have hK2 := ownsRow_other hown2 ⟨w.heap.size, 1, none⟩ (.slice a2 n cp2) hq2'
    have hF2' : Fr [w.heap.size] (w.alloc (.cells [.bool true, .slice none 0 0, .slice none 0 0].toArray 76)) (w2.setCell ⟨w.heap.size, 1, none⟩ (.slice a2 n cp2)) := ((((Fr.refl _ _).drewN 1).trans hF2 (by simp))).setCell _ _ (.inl (by simp))
    have hs3 := hF2'.size
    simp only [World.size_alloc] at hs3
    have hR2 := H1.out.2.1.fr hF2' (fun q hq hm => by have := HR.out.lt q hq; simp at hm; omega)
    have hFw := H1.out.2.2.trans hF2' (fun q hq => .inr (by simp at hq; omega))
    clear m1 m1z r1 c2 z2
    generalize hw3 : w2.setCell ⟨w.heap.size, 1, none⟩ (.slice a2 n cp2) = w3 at *
    have H3 := Lib.hid (And.intro hb2 (And.intro hK2 (And.intro hR2 hFw))); clear hb2 hK2 hR2 hFw hF2' hw3 hown2 hF2 H1
    have Hq2 := Lib.hid hq2; clear hq2
    have m1 := H3.out.1.cell 2
    have m1z := H3.out.1.frozen 2
    have r1 := H3.out.2.2.1.hd.cell 2
    simp only [List.getElem?_cons_zero, List.getElem?_cons_succ] at m1 r1
    go_wp2
    go_region_law (first | (refine step_app_nil (by rfl) _ _ _ (by rfl) 30 pairv 2 16 Try.underlying22 Try.info30 rfl (by decide) (by rfl) vL L.length (pairCells L) (by rfl) ((H3.out.2.2.1.drewN 1).edges) (pairCells_one L) (by unfold maxLen; omega) (by omega) ?_; intro v4 w4 hown4 hF4 hq4; obtain ⟨a4, cp4, rfl⟩ := ownsRow_slice hown4; have c4 := (hF4.blk (H3.out.1.drewN 1) (by simp)).cell 2; have z4 := (hF4.blk (H3.out.1.drewN 1) (by simp)).frozen 2; simp only [List.getElem?_cons_zero, List.getElem?_cons_succ] at c4))
    all_goals
      go_wp2
      go_ret
      have hb4 := (hF4.blk (H3.out.1.drewN 1) (by simp)).set 2 (.slice a4 L.length cp4)
      simp only [List.set_cons_succ, List.set_cons_zero] at hb4
      have hq4' : ∀ q, (Value.slice a4 L.length cp4).ownBlock = some q → w3.heap.size ≤ q := fun q e => by have := hq4 _ e; simpa using this
      have hF4' : Fr [w.heap.size] w3 (w4.setCell ⟨w.heap.size, 2, none⟩ (.slice a4 L.length cp4)) := ((((Fr.refl _ _).drewN 1).trans hF4 (by simp))).setCell _ _ (.inl (by simp))
      refine ⟨w.heap.size, .slice a2 n cp2, .slice a4 L.length cp4, rfl, ⟨hb4, ownsRow_same H3.out.2.1 (fun q hq => hF4'.keep q (H3.out.2.1.lt q hq).2 (fun hm => hq2' (by simp at hm; rw [← hm]; exact hq))), ownsRow_other hown4 _ _ (fun e => by have := hq4' _ e; dsimp only at this; omega), hq2', fun e => (by have := hq4' _ e; omega), fun q hq e => ?_⟩, H3.out.2.2.2.trans hF4' (fun q hq => .inr (by simp at hq; omega)), fun q hq => ?_⟩
      · have h1 := hq4' q e
        have h2 := (H3.out.2.1.lt q hq).2
        omega
      · simp only [rB, List.mem_cons, List.mem_append, Option.mem_toList] at hq
        rcases hq with rfl | hq | hq
        · exact Nat.le_refl _
        · have := Hq2.out q hq; simp at this; omega
        · have := hq4' q hq; omega
end
end Go.Proofs.Ytoppjjgecgbbkaa

/- LctPlays: how its steps read; a step with a forest and with the document's. -/
namespace Go.Proofs.Ytoppjjgecgbbkaa
open Go.RowKit Classical
set_option maxRecDepth 10000
set_option maxHeartbeats 800000

def stepK : List FK := [.i .i64, .i .i64, .i .i64, .i .i64]
theorem flat_step : Flat Try.prog 61 stepK := by
  refine Flat.struct Try.underlying61 (by kernel_rfl) (fun j k hj => ?_)
  have hi : Flat Try.prog 3 [.i .i64] := Flat.int Try.underlying3 (by kernel_rfl)
  have hk : Flat Try.prog 2 [.i .i64] := Flat.int Try.underlying2 (by kernel_rfl)
  match j, hj with
  | 0, hj => exact ⟨0, _, _, rfl, hi, by decide, hj⟩
  | 1, hj => exact ⟨1, _, _, rfl, hi, by decide, hj⟩
  | 2, hj => exact ⟨2, _, _, rfl, hi, by decide, hj⟩
  | 3, hj => exact ⟨3, _, _, rfl, hk, by decide, hj⟩
  | j + 4, hj => simp [stepK] at hj

/-- A slice of len steps reads z: what to do, two vertices, a key. -/
def StepsF (w : World) (a : Option Addr) (len : Nat) (z : Nat → Int × Int × Int × Int) : Prop :=
  len ≤ 9223372036854775807 ∧ ∀ i, i < len → ∃ b off, a = some ⟨b, off, none⟩ ∧ b < w.heap.size ∧ w.cell? ⟨b, off + i * 4, none⟩ = some (.int .i64 (z i).1) ∧ w.cell? ⟨b, off + i * 4 + 1, none⟩ = some (.int .i64 (z i).2.1) ∧
    w.cell? ⟨b, off + i * 4 + 2, none⟩ = some (.int .i64 (z i).2.2.1) ∧ w.cell? ⟨b, off + i * 4 + 3, none⟩ = some (.int .i64 (z i).2.2.2)
theorem StepsF.below {w w' : World} {a : Option Addr} {len : Nat} {z : Nat → Int × Int × Int × Int} (h : StepsF w a len z) (hb : Below w.heap.size w w') : StepsF w' a len z := by
  refine ⟨h.1, fun i hi => ?_⟩
  obtain ⟨b, off, rfl, hlt, h1, h2, h3, h4⟩ := h.2 i hi
  exact ⟨b, off, rfl, Nat.lt_of_lt_of_le hlt hb.size, (hb.cell (p := ⟨b, off + i * 4, none⟩) hlt).trans h1, (hb.cell (p := ⟨b, off + i * 4 + 1, none⟩) hlt).trans h2, (hb.cell (p := ⟨b, off + i * 4 + 2, none⟩) hlt).trans h3, (hb.cell (p := ⟨b, off + i * 4 + 3, none⟩) hlt).trans h4⟩
theorem open_steps {H : Type} {enc : TypeId × Value → H} {W : World} {a : Option Addr} {len cap : Nat} {d : DataW H} {p : List MemPlace}
    (h : DataW.Trod enc Try.prog W 0 (fun _ => true) true 57 (.slice a len cap) d p) : ∃ z, StepsF W a len z := by
  obtain ⟨z, hz⟩ := open_flat Try.underlying57 flat_step (by decide) h
  have key : ∀ i, ∃ u : Int × Int × Int × Int, i < len → z i 0 = .int .i64 u.1 ∧ z i 1 = .int .i64 u.2.1 ∧ z i 2 = .int .i64 u.2.2.1 ∧ z i 3 = .int .i64 u.2.2.2 := by
    intro i
    by_cases hi : i < len
    · obtain ⟨b, off, rfl, _, h1⟩ := hz.2 i hi
      obtain ⟨n0, e0, _⟩ := (h1 0 _ rfl).2
      obtain ⟨n1, e1, _⟩ := (h1 1 _ rfl).2
      obtain ⟨n2, e2, _⟩ := (h1 2 _ rfl).2
      obtain ⟨n3, e3, _⟩ := (h1 3 _ rfl).2
      exact ⟨(n0, n1, n2, n3), fun _ => ⟨e0, e1, e2, e3⟩⟩
    · exact ⟨(0, 0, 0, 0), fun h => absurd h hi⟩
  obtain ⟨F, hF⟩ := Classical.axiomOfChoice key
  refine ⟨F, hz.1, fun i hi => ?_⟩
  obtain ⟨b, off, rfl, hb, h1⟩ := hz.2 i hi
  obtain ⟨e0, e1, e2, e3⟩ := hF i hi
  refine ⟨b, off, rfl, hb, ?_, ?_, ?_, ?_⟩
  · rw [← e0]; exact (h1 0 _ rfl).1
  · rw [← e1]; exact (h1 1 _ rfl).1
  · rw [← e2]; exact (h1 2 _ rfl).1
  · rw [← e3]; exact (h1 3 _ rfl).1

section
variable {w wr w1 w2 : World} {pf g pr : Nat} {vK vL vL' : Value} {n : Nat} {key key' : Nat → Int} {L L' : List (Nat × Nat)} (h : Both w wr pf g pr vK vL n key L)
include h
theorem Both.did (hl : LM w1 pf g n (EK L') key') (f1 : Fr [pf, g] wr w1) (hr : RefAt w2 pr vK vL' n key' L') (f2 : Fr (rB pr vK vL) w1 w2) (hq : ∀ q, vL'.ownBlock = some q → vL.ownBlock = some q ∨ w1.heap.size ≤ q) (hel : EL n L') :
    Both w w2 pf g pr vK vL' n key' L' := by
  have hn := h.newR
  have hs := f1.size
  obtain ⟨hp1, hg1, _⟩ := LG.lts h.lm
  have hss := h.fr.size
  refine ⟨LG.fr hl f2 (fun hm => (hn _ hm).2.1 rfl) (fun hm => (hn _ hm).2.2 rfl), hr, hel, (h.fr.trans f1 (fun q hq => .inr ?_)).trans f2 (fun q hq => .inr (hn q hq).1), h.newL, fun q hq => ?_⟩
  · have := h.newL; simp at hq; omega
  · simp only [rB, List.mem_cons, List.mem_append, Option.mem_toList] at hq
    rcases hq with rfl | e | e
    · exact hn _ (by simp [rB])
    · exact hn _ (by simp [rB, e])
    · rcases hq q e with e | e
      · exact hn _ (by simp [rB, e])
      · omega

theorem Both.refFr {S : List Nat} (hf : Fr S wr w1) (hs : ∀ q ∈ S, q = pf ∨ q = g) : RefAt w1 pr vK vL n key L :=
  h.ref.fr hf (fun q hq hm => by have := h.newR q hq; have := hs q hm; omega)

theorem step_w (d a b k : Int) :
    Calls Try.prog 31 #[.pointer (some ⟨pf, 0, none⟩), .pointer (some ⟨pr, 0, none⟩), .agg #[.int .i64 d, .int .i64 a, .int .i64 b, .int .i64 k]] wr fun e w' =>
      ∃ pf' g' pr' vK' vL' key' L', e = .returned (.tuple #[.pointer (some ⟨pf', 0, none⟩), .pointer (some ⟨pr', 0, none⟩), .bool true]) ∧ Both w w' pf' g' pr' vK' vL' n key' L' := by
  obtain ⟨hp1, hg1, _⟩ := LG.lts h.lm
  have hbx := Blk.new wr [.int .i64 d, .int .i64 a, .int .i64 b, .int .i64 k] 61
  have hF0 : Fr [] wr (wr.alloc (.cells [.int .i64 d, .int .i64 a, .int .i64 b, .int .i64 k].toArray 61)) := (Fr.refl [] wr).alloc _
  have hrl := h.ref.lt
  have HB := Lib.hid (h.askR hF0)
  have c0 := hbx.cell 0
  have c1 := hbx.cell 1
  have c2 := hbx.cell 2
  have c3 := hbx.cell 3
  simp only [List.getElem?_cons_zero, List.getElem?_cons_succ] at c0 c1 c2 c3
  have Hrl := Lib.hid hrl; clear hrl hF0 h hbx
  by_cases d0 : d = 0
  · subst d0
    have HL := Lib.hid (link_w (HB.out.drew 1).lm a b)
    have HL2 := Lib.hid (fun (w3 : World) (hl : LM w3 pf g n (linkE n (EK L) a b) key) (hf : Fr [pf, g] (wr.alloc (.cells [.int .i64 0, .int .i64 a, .int .i64 b, .int .i64 k].toArray 61)).drew w3) => link_r ((HB.out.drew 1).refFr hf (by simp)) HB.out.el a b)
    have hbq : (linkCode n (EK L) a b == linkCode n (EK L) a b) = true := by simp
    have HE := Lib.hid (linkL_E (n := n) L a b)
    have HEl := Lib.hid (fun (hf : Frs (linkE n (EK L) a b)) => linkL_el HB.out.el hf)
    generalize linkL n L a b = L2 at *
    generalize linkE n (EK L) a b = E2 at *
    generalize linkCode n (EK L) a b = lc at *
    go_enter Try.func31, Try.ntmps31
    go_wp2
    go_region_held3 (fun w' => w'.cell? ⟨wr.heap.size, 1, none⟩ = some (.int .i64 a) ∧ w'.cell? ⟨wr.heap.size, 2, none⟩ = some (.int .i64 b))
      (first
        | go_keep
        | (exact ⟨hF3.cell (by simp_all) (by simp; omega), hF3.cell (by simp_all) (by simp; omega)⟩)
        | (exact ⟨hF4.cell (by simp_all) (fun hm => by have := Hrl.out _ hm; dsimp only at this; omega), hF4.cell (by simp_all) (fun hm => by have := Hrl.out _ hm; dsimp only at this; omega)⟩))
      (first
        | (go_at_call 16; refine HL.out.mono ?_; rintro e w3 ⟨rfl, hL3, hF3⟩)
        | (go_at_call 50; refine (HL2.out _ hL3 hF3).mono ?_; rintro e w4 ⟨rfl, vL4, hR4, hF4, hq4⟩))
    go_wp2
    go_ret3
    exact ⟨pf, g, pr, vK, vL4, key, L2, rfl, (HB.out.drew 1).did (by rw [HE.out]; exact hL3) hF3 hR4 hF4 hq4 (HEl.out (LG.frs hL3))⟩
  · have q0 : (d == 0) = false := beq_eq_false_iff_ne.2 d0
    clear d0
    by_cases d1 : d = 1
    · subst d1
      have HL := Lib.hid (cut_w (HB.out.drew 1).lm a b)
      have HL2 := Lib.hid (fun (w3 : World) (hl : LM w3 pf g n (cutE n (EK L) a b) key) (hf : Fr [pf, g] (wr.alloc (.cells [.int .i64 1, .int .i64 a, .int .i64 b, .int .i64 k].toArray 61)).drew w3) => cut_r ((HB.out.drew 1).refFr hf (by simp)) HB.out.el a b)
      have hbq : (cutCode n (EK L) a b == cutCode n (EK L) a b) = true := by simp
      have HE := Lib.hid (fun (L' : List (Nat × Nat)) (hc : CutOf n L a b L') => hc.E HB.out.el)
      have HEl := Lib.hid (fun (L' : List (Nat × Nat)) (hc : CutOf n L a b L') (hf : Frs (cutE n (EK L) a b)) => hc.el HB.out.el hf)
      generalize cutE n (EK L) a b = E2 at *
      generalize cutCode n (EK L) a b = lc at *
      go_enter Try.func31, Try.ntmps31
      go_wp2
      go_region_held3 (fun w' => w'.cell? ⟨wr.heap.size, 1, none⟩ = some (.int .i64 a) ∧ w'.cell? ⟨wr.heap.size, 2, none⟩ = some (.int .i64 b))
        (first
          | go_keep
          | (exact ⟨hF3.cell (by simp_all) (by simp; omega), hF3.cell (by simp_all) (by simp; omega)⟩)
          | (exact ⟨hF4.cell (by simp_all) (fun hm => by have := Hrl.out _ hm; dsimp only at this; omega), hF4.cell (by simp_all) (fun hm => by have := Hrl.out _ hm; dsimp only at this; omega)⟩))
        (first
          | (go_at_call 30; refine HL.out.mono ?_; rintro e w3 ⟨rfl, hL3, hF3⟩)
          | (go_at_call 51; refine (HL2.out _ hL3 hF3).mono ?_; rintro e w4 ⟨rfl, L2, vL4, hC4, hR4, hF4, hq4⟩))
      go_wp2
      go_ret3
      exact ⟨pf, g, pr, vK, vL4, key, L2, rfl, (HB.out.drew 1).did (by rw [HE.out _ hC4]; exact hL3) hF3 hR4 hF4 hq4 (HEl.out _ hC4 (LG.frs hL3))⟩
    · have q1 : (d == 1) = false := beq_eq_false_iff_ne.2 d1
      clear d1
      by_cases d2 : d = 2
      · subst d2
        have HL := Lib.hid (set_w (HB.out.drew 1).lm a k)
        have HL2 := Lib.hid (fun (w3 : World) (hf : Fr [g] (wr.alloc (.cells [.int .i64 2, .int .i64 a, .int .i64 b, .int .i64 k].toArray 61)).drew w3) => set_r ((HB.out.drew 1).refFr hf (by simp)) a k)
        have hbq : (setCode n a == setCode n a) = true := by simp
        generalize setKey n key a k = key2 at *
        generalize setCode n a = lc at *
        go_enter Try.func31, Try.ntmps31
        go_wp2
        go_region_held3 (fun w' => w'.cell? ⟨wr.heap.size, 1, none⟩ = some (.int .i64 a) ∧ w'.cell? ⟨wr.heap.size, 3, none⟩ = some (.int .i64 k))
          (first
            | go_keep
            | (exact ⟨hF3.cell (by simp_all) (by simp; omega), hF3.cell (by simp_all) (by simp; omega)⟩)
            | (exact ⟨hF4.cell (by simp_all) (fun hm => by have := Hrl.out _ hm; dsimp only at this; omega), hF4.cell (by simp_all) (fun hm => by have := Hrl.out _ hm; dsimp only at this; omega)⟩))
          (first
            | (go_at_call 26; refine HL.out.mono ?_; rintro e w3 ⟨rfl, hL3, hF3⟩)
            | (go_at_call 52; refine (HL2.out _ hF3).mono ?_; rintro e w4 ⟨rfl, hR4, hF4⟩))
        go_wp2
        go_ret3
        exact ⟨pf, g, pr, vK, vL, key2, L, rfl, (HB.out.drew 1).did hL3 (hF3.mono (by simp)) hR4 hF4 (fun q hq => .inl hq) HB.out.el⟩
      · have q2 : (d == 2) = false := beq_eq_false_iff_ne.2 d2
        clear d2
        by_cases d3 : d = 3
        · subst d3
          have HC := Lib.hid (copy_w HB.out.lm)
          go_enter Try.func31, Try.ntmps31
          go_wp2_with fail
          refine HC.out.mono ?_
          rintro _ w3 ⟨pf', g', rfl, hL3, hF3, hpf, hg⟩
          obtain ⟨hp3, hg3, _⟩ := LG.lts hL3
          have HL3 := Lib.hid (And.intro hL3 hF3); clear hL3 hF3
          go_wp2_with fail
          refine (copy_r (HB.out.ref.fr0 HL3.out.2) HB.out.el).mono ?_
          rintro _ w4 ⟨pr', vK', vL', rfl, hR4, hF4, hq4⟩
          have HR4 := Lib.hid (And.intro hR4 (And.intro hF4 hq4)); clear hR4 hF4 hq4
          go_wp2
          go_ret3
          have h3 := HL3.out.2.size
          have h0 := HB.out.fr.size
          refine ⟨pf', g', pr', vK', vL', key, L, rfl, ⟨LG.fr HL3.out.1 HR4.out.2.1 (by simp) (by simp), HR4.out.1, HB.out.el, (HB.out.fr.trans' HL3.out.2).trans' HR4.out.2.1, by omega, fun q hq => ?_⟩⟩
          have := HR4.out.2.2 q hq
          omega
        · have q3 : (d == 3) = false := beq_eq_false_iff_ne.2 d3
          clear d3
          go_enter Try.func31, Try.ntmps31
          go_wp2
          go_ret3
          exact ⟨pf, g, pr, vK, vL, key, L, rfl, HB.out⟩
end
end Go.Proofs.Ytoppjjgecgbbkaa

namespace Go.Proofs.Ytoppjjgecgbbkaa
open Go.RowKit Classical
set_option maxRecDepth 10000
set_option maxHeartbeats 800000

theorem EL.nil {n : Nat} (h : n ≤ 65536) (hf : Frs (EK [])) : EL n [] := ⟨h, hf, .nil, (fun p hp => by cases hp), by rw [EK_nil, nc_none]; simp⟩

theorem walk_lctNews (W : World) (n : Int) (_wn : (Lit.int .i64 n).wf = true) (a : Int) (_wa : (Lit.int .i64 a).wf = true) (b : Int) (_wb : (Lit.int .i64 b).wf = true) :
    Calls Try.prog 7 #[.int .i64 n, .int .i64 a, .int .i64 b] W fun e w' => e = .returned (.bool true) ∧ Below W.heap.size W w' := by
  clear _wn _wa _wb
  by_cases hbad : n < 0 ∨ 65536 < n
  · have HN1 := Lib.hid (new_no n W hbad)
    have HN2 := Lib.hid (new_bad W n hbad)
    have hAg := Lib.hid (nil_agree (w := W) a b a)
    rcases hbad with hb | hb
    · have t1 : decide (n > 2000) = false := decide_eq_false (by omega)
      clear hb
      go_enter Try.func7, Try.ntmps7
      go_wp2_with fail
      refine HN1.out.mono ?_
      rintro _ W ⟨rfl, rfl⟩
      go_wp2_with fail
      refine HN2.out.mono ?_
      rintro _ W ⟨rfl, rfl⟩
      go_wp2_with fail
      refine hAg.out.mono ?_
      rintro _ w2 ⟨rfl, hB⟩
      go_wp2_with fail
      refine (works_w w2).mono ?_
      rintro _ w3 ⟨rfl, hB3⟩
      go_wp2
      go_ret
      exact ⟨rfl, hB.trans (hB3.mono hB.size)⟩
    · have t1 : decide (n > 2000) = true := decide_eq_true (by omega)
      have t2 : decide (n ≤ 65536) = false := decide_eq_false (by omega)
      clear hb
      go_enter Try.func7, Try.ntmps7
      go_wp2_with fail
      refine HN1.out.mono ?_
      rintro _ W ⟨rfl, rfl⟩
      go_wp2_with fail
      refine HN2.out.mono ?_
      rintro _ W ⟨rfl, rfl⟩
      go_wp2_with fail
      refine hAg.out.mono ?_
      rintro _ w2 ⟨rfl, hB⟩
      go_wp2_with fail
      refine (works_w w2).mono ?_
      rintro _ w3 ⟨rfl, hB3⟩
      go_wp2
      go_ret
      exact ⟨rfl, hB.trans (hB3.mono hB.size)⟩
  · obtain ⟨n, rfl⟩ : ∃ m : Nat, n = m := ⟨n.toNat, by omega⟩
    have hn : n ≤ 65536 := by omega
    clear hbad
    by_cases hbig : 2000 < n
    · have t1 : decide ((n : Int) > 2000) = true := decide_eq_true (by omega)
      have t2 : decide ((n : Int) ≤ 65536) = true := decide_eq_true (by omega)
      go_enter Try.func7, Try.ntmps7
      go_wp2_with fail
      refine (new_w n W hn).mono ?_
      rintro _ w1 ⟨pf, g, rfl, h1, f1, hp, hg⟩
      have hT := trees_w h1
      rw [nc_none] at hT
      have HT := Lib.hid hT; clear hT h1
      have hB1 := f1.below (by simp)
      go_wp2_with fail
      refine HT.out.mono ?_
      rintro _ _ ⟨rfl, k, rfl⟩
      go_wp2_with fail
      refine (works_w _).mono ?_
      rintro _ w3 ⟨rfl, hB3⟩
      go_wp2
      go_ret
      exact ⟨rfl, hB1.trans ((Fr.below ((Fr.refl [] w1).drewN k) (by simp)).mono hB1.size |>.trans (hB3.mono (by simpa using hB1.size)))⟩
    · have t1 : decide ((n : Int) > 2000) = false := decide_eq_false (by omega)
      go_enter Try.func7, Try.ntmps7
      go_wp2_with fail
      refine (new_w n W hn).mono ?_
      rintro _ w1 ⟨pf, g, rfl, h1, f1, hp, hg⟩
      have H1 := Lib.hid (And.intro h1 f1); clear h1 f1
      go_wp2_with fail
      refine (new_r w1 n hn).mono ?_
      rintro _ w2 ⟨pr, vK, rfl, h2, f2, hr⟩
      have hBo : Both W w2 pf g pr vK (.slice none 0 0) n (fun _ => 0) [] := by
        have hl := LG.lts H1.out.1
        have hs := H1.out.2.size
        refine ⟨by rw [EK_nil]; exact LG.fr H1.out.1 f2 (by simp) (by simp), h2, EL.nil hn (by rw [EK_nil]; exact LG.frs H1.out.1), H1.out.2.trans' f2, ⟨hp, hg⟩, fun q hq => ?_⟩
        have := hr q hq; omega
      have HBo := Lib.hid hBo; clear hBo h2 f2 hr H1
      go_wp2_with fail
      refine (agree_w HBo.out a b a).mono ?_
      rintro _ w3 ⟨rfl, hB3⟩
      have hB := hB3.below
      clear hB3 HBo
      go_wp2_with fail
      refine (works_w _).mono ?_
      rintro _ w4 ⟨rfl, hB4⟩
      go_wp2
      go_ret
      exact ⟨rfl, hB.trans (hB4.mono hB.size)⟩
end Go.Proofs.Ytoppjjgecgbbkaa
