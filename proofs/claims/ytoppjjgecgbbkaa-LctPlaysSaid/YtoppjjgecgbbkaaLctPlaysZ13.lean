/- The forest and the document's: what both show of three vertices (agree). -/
import Derived.Test.YtoppjjgecgbbkaaLctPlaysZ12
import Derived.Test.YtoppjjgecgbbkaaLctPlaysZ11
import Derived.Test.YtoppjjgecgbbkaaLctPlaysZ8
import Derived.Test.YtoppjjgecgbbkaaLctPlaysZ1
/- The document's forest: Path, Connected, Dist, Size, Trees. -/
namespace Go.Proofs.Ytoppjjgecgbbkaa
open Go.RowKit Classical
set_option maxRecDepth 10000
set_option maxHeartbeats 800000

theorem EL.elt {n : Nat} {L : List (Nat × Nat)} (h : EL n L) : ∀ v u, EK L v u → v < n ∧ u < n := by
  rintro v u (e | e)
  · exact ⟨(h.lt _ e).1, (h.lt _ e).2.1⟩
  · exact ⟨(h.lt _ e).2.1, (h.lt _ e).1⟩

theorem path_end {E : Nat → Nat → Prop} {a b : Nat} {p : List Nat} (hp : IsPath E a b p) {i : Nat} (hi : i < p.length) : p[i] = b ↔ i + 1 = p.length := by
  have hl := hp.last
  rw [List.getLast?_eq_getElem?] at hl
  have hpos : 0 < p.length := by omega
  have hl' : p[p.length - 1]'(by omega) = b := by
    rw [List.getElem?_eq_getElem (by omega)] at hl; exact Option.some.inj hl
  constructor
  · intro e
    have h1 : p[i] = p[p.length - 1]'(by omega) := by rw [e, hl']
    rcases Nat.lt_or_ge i (p.length - 1) with hlt | hge
    · exact absurd h1 (List.pairwise_iff_getElem.1 hp.nd i (p.length - 1) hi (by omega) hlt)
    · omega
  · intro e
    have : i = p.length - 1 := by omega
    subst this; exact hl'

theorem pathL_len {n : Nat} {E : Nat → Nat → Prop} (hlt : ∀ v u, E v u → v < n ∧ u < n) (a b : Int) : (pathL n E a b).length ≤ n := nodup_le (pathL_nd _ _) (pathL_lt hlt)

theorem path_r {w : World} {pr : Nat} {vK vL : Value} {n : Nat} {key : Nat → Int} {L : List (Nat × Nat)} (h : RefAt w pr vK vL n key L) (hE : EL n L) (a b : Int) :
    Calls Try.prog 44 #[.pointer (some ⟨pr, 0, none⟩), .int .i64 a, .int .i64 b] w fun e w' => ∃ v, e = .returned v ∧ RowN w' v (pathL n (EK L) a b) ∧ (∀ q, v.ownBlock = some q → w.heap.size ≤ q) ∧ Fr [] w w' := by
  have hle := hE.le
  have HA := Lib.hid (has_r h a)
  have HB := Lib.hid (has_r h b)
  cases ha : inV n a with
  | false =>
    rw [ha] at HA
    have e : pathL n (EK L) a b = [] := by unfold pathL; rw [if_neg (fun h => by have h1 := h.1; rw [ha] at h1; cases h1)]
    rw [e]; clear e
    go_enter Try.func44, Try.ntmps44
    go_wp2_with (go_at_call 58; refine HA.out.mono ?_; rintro e w ⟨rfl, rfl⟩)
    go_ret
    exact ⟨_, rfl, World.ownsRow_nil _ _ _ _, fun q e => (by cases e), Fr.refl _ _⟩
  | true =>
    rw [ha] at HA
    cases hb : inV n b with
    | false =>
      rw [hb] at HB
      have e : pathL n (EK L) a b = [] := by unfold pathL; rw [if_neg (fun h => by have h1 := h.2.1; rw [hb] at h1; cases h1)]
      rw [e]; clear e
      go_enter Try.func44, Try.ntmps44
      go_wp2_with fail
      refine HA.out.mono ?_
      rintro _ w ⟨rfl, rfl⟩
      go_wp2_with fail
      refine HB.out.mono ?_
      rintro _ w ⟨rfl, rfl⟩
      go_wp2_with fail
      go_ret
      exact ⟨_, rfl, World.ownsRow_nil _ _ _ _, fun q e => (by cases e), Fr.refl _ _⟩
    | true =>
      rw [hb] at HB
      obtain ⟨x, rfl, hx⟩ := inV_nat ha
      obtain ⟨y, rfl, hy⟩ := inV_nat hb
      have hpl : ∀ p, IsPath (EK L) x y p → pathL n (EK L) x y = p := fun p hp => by
        unfold pathL; rw [if_pos ⟨ha, hb, by simpa using ⟨p, hp⟩⟩]; simpa using thePath_eq hE.frs hp
      have hpn : ¬ Conn (EK L) x y → pathL n (EK L) x y = [] := fun hn => by
        unfold pathL; rw [if_neg (fun h => hn (by simpa using h.2.2))]
      have Hpl := Lib.hid hpl; have Hpn := Lib.hid hpn; clear hpl hpn ha hb
      have HTo := Lib.hid (towards_r h hE y hy)
      have HEl := Lib.hid hE; clear hE h
      go_enter Try.func44, Try.ntmps44
      go_wp2_with fail
      refine HA.out.mono ?_
      rintro _ w ⟨rfl, rfl⟩
      go_wp2_with fail
      refine HB.out.mono ?_
      rintro _ w ⟨rfl, rfl⟩
      go_wp2_with fail
      clear HA HB
      refine HTo.out.mono ?_
      rintro _ w1 ⟨nb, nx, rfl, hT, hB⟩
      obtain ⟨e1, e2⟩ := hT.at hx
      have HT := Lib.hid hT; have HB := Lib.hid hB; clear hT hB HTo
      have hxn : (x : Int) < n := by omega
      by_cases hv : nx x < 0
      · have hd : decide (nx x < 0) = true := decide_eq_true hv
        have hnc : ¬ Conn (EK L) x y := fun hc => by have := (HB.out.conn HEl.out.frs).2 hc; omega
        have Hnc := Lib.hid hnc; clear hnc
        go_wp2
        go_ret
        refine ⟨_, rfl, ?_, fun q e => (by cases e), HT.out.fr⟩
        rw [Hpn.out Hnc.out]; exact World.ownsRow_nil _ _ _ _
      · have hd : decide (nx x < 0) = false := decide_eq_false hv
        have hc := (HB.out.conn HEl.out.frs).1 (Int.not_lt.1 hv)
        obtain ⟨_, p, hp, hpn⟩ := HB.out.path x (Int.not_lt.1 hv)
        have hpe := Hpl.out p hp
        have hpl : p.length ≤ n := by have := pathL_len HEl.out.elt (x : Int) (y : Int); rw [hpe] at this; exact this
        have hplt : ∀ z ∈ p, z < n := by have := pathL_lt (a := (x : Int)) (b := (y : Int)) HEl.out.elt; rw [hpe] at this; exact this
        have hend := fun i (hi : i < p.length) => path_end hp hi
        obtain ⟨l, hl0⟩ := hp.first
        have hp0 : 0 < p.length := by rw [hl0]; simp
        have hpx : p[0] = x := by subst hl0; rfl
        have Hpe := Lib.hid hpe; clear hpe
        have HP := Lib.hid (And.intro hpx (And.intro hplt (And.intro hpn (And.intro hend hl0)))); clear hpx hplt hpn hend hl0 Hpl Hpn hc hp
        go_wp2
        go_loopg [1, 8] (p.length) (fun m sa so wr => ∃ i : Nat, ∃ hi : i < p.length, sa = .int .i64 (p[i] : Nat) ∧ m = p.length - i ∧ Hid (RowN wr so (p.take (i + 1))) ∧ Hid (∀ q, so.ownBlock = some q → w.heap.size ≤ q ∧ q ≠ nb) ∧ Hid (Tr w wr pr vK vL n key L nb nx))
        case atStart =>
          have hs := HT.out.fr.size
          have hnb := (HT.out.row.lt nb rfl).2
          refine ⟨0, hp0, by rw [HP.out.1], by omega, Lib.hid ?_, Lib.hid (fun q hq => ?_), Lib.hid (HT.out.step (S := []) ((Fr.refl _ _).alloc _) (by simp) (by simp))⟩
          · have : p.take (0 + 1) = [x] := by rw [HP.out.2.2.2.2]; simp
            rw [this]
            refine ⟨by simp [encR], .inr ⟨w1.heap.size, 1, #[.int .i64 x], rfl, Nat.zero_le _, World.alloc_heap_new _ _, Nat.le_refl _, by unfold maxLen; omega, by simp, by simp [encR, encI]⟩⟩
          · simp [Value.ownBlock] at hq; omega
        case round =>
          clear HT
          obtain ⟨i, hi, rfl, hm, HR, HQ, HT⟩ := hrel
          obtain ⟨ao, co, rfl⟩ := HR.out.slice
          have hlt2 : (p.take (i + 1)).length = i + 1 := by simp; omega
          simp only [hlt2] at HQ ⊢
          by_cases hl : i + 1 = p.length
          · have hpi : (p[i] : Nat) = y := (HP.out.2.2.2.1 i hi).2 hl
            have hne : (((p[i] : Nat) : Int) != (y : Int)) = false := by simp [hpi]
            go_wp2
            go_ret
            refine ⟨_, rfl, ?_, fun q hq => (HQ.out q hq).1, HT.out.fr⟩
            have := HR.out
            rw [List.take_of_length_le (by omega)] at this
            rw [Hpe.out]
            simp only [hl] at this ⊢
            exact this
          · have hpi : (p[i] : Nat) ≠ y := fun e => hl ((HP.out.2.2.2.1 i hi).1 e)
            have hne : (((p[i] : Nat) : Int) != (y : Int)) = true := by simp; omega
            have hi2 : i + 1 < p.length := by omega
            obtain ⟨e1, e2⟩ := HT.out.at (HP.out.2.1 _ (List.getElem_mem hi))
            rw [NextOn.get HP.out.2.2.1 i hi2] at e1
            have hpin : ((p[i] : Nat) : Int) < n := by have := HP.out.2.1 _ (List.getElem_mem hi); omega
            have htk : p.take (i + 1 + 1) = p.take (i + 1) ++ [p[i + 1]] := by rw [List.take_add_one (i := i + 1), List.getElem?_eq_getElem hi2]; rfl
            have Htk := Lib.hid htk; clear htk
            generalize hpi2 : p[i] = pi at *
            generalize hpj2 : p[i + 1] = pj at *
            have Hpp := Lib.hid (And.intro hpi2 hpj2); clear hpi2 hpj2
            have hrow : wr.ownsRow 0 3 1 (.slice ao (i + 1) co) (i + 1) (encR (p.take (i + 1))) := by have := HR.out; unfold RowN at this; rw [hlt2] at this; exact this
            have HR1 := Lib.hid hrow; clear hrow hlt2 HR
            go_wp2_with (at_builtin; refine wpList_app1 rfl _ _ 41 rfl 3 (.int .i64 0) 8 Try.underlying41 Try.info3 rfl (.slice ao (i + 1) co) (i + 1) _ rfl (HR1.out.alloc _) wr.heap.size (.int .i64 pj) rfl (cell_new1 _ _ _ _ rfl) rfl (by omega) (by decide) ?_; intro g' cap' w3 hown3 hgrow3 hg3; have hF3 : Fr (Value.slice ao (i + 1) co).ownBlock.toList wr w3 := ((Fr.refl _ _).alloc _).grown hgrow3 (fun q e => .inl (by simp [e])); have HT3 := Lib.hid (HT.out.step hF3 (fun hm => (HQ.out nb (by simpa using hm)).2 rfl) (fun q hq => (HQ.out q (by simpa using hq)).1)))
            go_roundg (p.length - (i + 1))
            case measure => omega
            case rel =>
              refine ⟨i + 1, hi2, by rw [Hpp.out.2], rfl, Lib.hid ?_, Lib.hid (fun q hq => ?_), HT3⟩
              · unfold RowN
                rw [Htk.out]
                have : (p.take (i + 1) ++ [pj]).length = i + 1 + 1 := by simp; omega
                rw [this]
                have e4 : encR (p.take (i + 1) ++ [pj]) = encR (p.take (i + 1)) ++ [.int .i64 pj] := by simp [encR, encI]
                rw [e4]; exact hown3
              · simp only [Value.ownBlock, Option.some.injEq] at hq
                subst hq
                have hs := HT.out.fr.size
                have hnb := (HT.out.row.lt nb rfl).2
                rcases hg3 with e | e
                · exact HQ.out _ e
                · simp only [World.size_alloc] at e; omega

theorem connected_r {w : World} {pr : Nat} {vK vL : Value} {n : Nat} {key : Nat → Int} {L : List (Nat × Nat)} (h : RefAt w pr vK vL n key L) (hE : EL n L) (a b : Int) :
    Calls Try.prog 43 #[.pointer (some ⟨pr, 0, none⟩), .int .i64 a, .int .i64 b] w fun e w' => e = .returned (.bool (connB n (EK L) a b)) ∧ Fr [] w w' := by
  have hb : decide (((pathL n (EK L) a b).length : Int) > 0) = connB n (EK L) a b := by
    unfold connB pathL
    by_cases hc : ConnI n (EK L) a b
    · rw [if_pos hc]
      have := (thePath_is hc.2.2).ne
      have : 0 < (thePath (EK L) a.toNat b.toNat).length := List.length_pos_iff.2 this
      rw [decide_eq_true hc]; exact decide_eq_true (by omega)
    · rw [if_neg hc, decide_eq_false hc]; rfl
  have HP := Lib.hid (path_r h hE a b); clear h hE
  generalize connB n (EK L) a b = r at *
  generalize pathL n (EK L) a b = p at *
  go_enter Try.func43, Try.ntmps43
  go_wp2_with fail
  refine HP.out.mono ?_
  rintro _ w1 ⟨v, rfl, hR, _, hF⟩
  obtain ⟨a1, c1, rfl⟩ := hR.slice
  go_wp2
  go_ret
  exact ⟨by rw [← hb]; simp, hF⟩

theorem dist_r {w : World} {pr : Nat} {vK vL : Value} {n : Nat} {key : Nat → Int} {L : List (Nat × Nat)} (h : RefAt w pr vK vL n key L) (hE : EL n L) (a b : Int) :
    Calls Try.prog 45 #[.pointer (some ⟨pr, 0, none⟩), .int .i64 a, .int .i64 b] w fun e w' => e = .returned (.int .i64 (distI n (EK L) a b)) ∧ Fr [] w w' := by
  have hb : ((pathL n (EK L) a b).length : Int) - 1 = distI n (EK L) a b := by
    unfold distI pathL
    by_cases hc : ConnI n (EK L) a b
    · rw [if_pos hc, if_pos hc]
    · rw [if_neg hc, if_neg hc]; rfl
  have hl := pathL_len hE.elt a b
  have hle := hE.le
  have HP := Lib.hid (path_r h hE a b); clear h hE
  generalize distI n (EK L) a b = r at *
  generalize pathL n (EK L) a b = p at *
  subst hb
  go_enter Try.func45, Try.ntmps45
  go_wp2_with fail
  refine HP.out.mono ?_
  rintro _ w1 ⟨v, rfl, hR, _, hF⟩
  obtain ⟨a1, c1, rfl⟩ := hR.slice
  go_wp2
  go_ret
  exact ⟨rfl, hF⟩

noncomputable def vis (nx : Nat → Int) (i : Nat) : Nat := ((List.range i).filter fun x => decide (0 ≤ nx x)).length
theorem vis_succ (nx : Nat → Int) (i : Nat) : vis nx (i + 1) = vis nx i + if 0 ≤ nx i then 1 else 0 := by
  unfold vis
  rw [List.range_succ, List.filter_append, List.length_append]
  by_cases h : 0 ≤ nx i
  · simp [h]
  · simp [h]
theorem vis_le (nx : Nat → Int) (i : Nat) : vis nx i ≤ i := by unfold vis; exact Nat.le_trans (List.length_filter_le _ _) (by simp)

theorem size_r {w : World} {pr : Nat} {vK vL : Value} {n : Nat} {key : Nat → Int} {L : List (Nat × Nat)} (h : RefAt w pr vK vL n key L) (hE : EL n L) (a : Int) :
    Calls Try.prog 46 #[.pointer (some ⟨pr, 0, none⟩), .int .i64 a] w fun e w' => e = .returned (.int .i64 (sizeI n (EK L) a)) ∧ Fr [] w w' := by
  have hle := hE.le
  have HA := Lib.hid (has_r h a)
  cases ha : inV n a with
  | false =>
    rw [ha] at HA
    have e : sizeI n (EK L) a = 0 := by simp [sizeI, ha]
    rw [e]; clear e
    go_enter Try.func46, Try.ntmps46
    go_wp2_with (go_at_call 58; refine HA.out.mono ?_; rintro e w ⟨rfl, rfl⟩)
    go_ret
    exact ⟨rfl, Fr.refl _ _⟩
  | true =>
    rw [ha] at HA
    obtain ⟨x, rfl, hx⟩ := inV_nat ha
    have HTo := Lib.hid (towards_r h hE x hx)
    have hsz : ∀ nx, Bfs n (EK L) x nx [] (fun _ => True) → sizeI n (EK L) (x : Int) = vis nx n := by
      intro nx hB
      unfold sizeI; rw [if_pos ha, Int.toNat_natCast]
      unfold csize vis
      congr 2
      refine List.filter_congr (fun u _ => ?_)
      rw [decide_eq_decide]
      exact ⟨fun hc => (hB.conn hE.frs).2 (hE.frs.csymm hc), fun hc => hE.frs.csymm ((hB.conn hE.frs).1 hc)⟩
    have Hsz := Lib.hid hsz; clear hsz
    generalize sizeI n (EK L) (x : Int) = sz at *
    have HEl := Lib.hid hE; clear hE h ha
    go_enter Try.func46, Try.ntmps46
    go_wp2_with (go_at_call 58; refine HA.out.mono ?_; rintro e w ⟨rfl, rfl⟩)
    clear HA
    refine HTo.out.mono ?_
    rintro _ w1 ⟨nb, nx, rfl, hT, hB⟩
    have hs2 := Hsz.out nx hB
    have HT := Lib.hid hT; clear hT hB HTo Hsz
    subst hs2
    go_wp2
    go_loopw [5, 7] (fun sn si wr => wr = w1 ∧ ∃ i : Nat, i ≤ n ∧ si = .int .i64 i ∧ sn = .int .i64 (vis nx i)) (fun _ si _ => n - (intOf si).toNat)
    case atStart => exact ⟨rfl, 0, Nat.zero_le _, rfl, rfl⟩
    case round =>
      obtain ⟨rfl, i, hi, rfl, rfl⟩ := hrel
      have hvl := vis_le nx i
      by_cases hlt : i < n
      · obtain ⟨e1, e2⟩ := HT.out.at hlt
        have hin : (i : Int) < n := by omega
        have hsucc := vis_succ nx i
        by_cases hv : 0 ≤ nx i
        · have hd : decide (nx i ≥ 0) = true := decide_eq_true hv
          rw [if_pos hv] at hsucc
          have Hs := Lib.hid hsucc; clear hsucc
          go_wp2
          go_roundw
          case rel => exact ⟨by trivial, i + 1, by omega, by go_num, by rw [Hs.out]; go_num⟩
          case measure => simp [intOf]; omega
        · have hd : decide (nx i ≥ 0) = false := decide_eq_false hv
          rw [if_neg hv] at hsucc
          have Hs := Lib.hid hsucc; clear hsucc
          go_wp2
          go_roundw
          case rel => exact ⟨by trivial, i + 1, by omega, by go_num, by rw [Hs.out]; rfl⟩
          case measure => simp [intOf]; omega
      · obtain rfl : i = n := by omega
        have hin : ¬ ((i : Int) < i) := by omega
        go_wp2
        go_ret
        exact ⟨rfl, HT.out.fr⟩

theorem trees_r {w : World} {pr : Nat} {vK vL : Value} {n : Nat} {key : Nat → Int} {L : List (Nat × Nat)} (h : RefAt w pr vK vL n key L) (hE : EL n L) :
    Calls Try.prog 47 #[.pointer (some ⟨pr, 0, none⟩)] w fun e w' => e = .returned (.int .i64 (nc n (EK L) : Nat)) ∧ ∃ k, w' = w.drewN k := by
  obtain ⟨aK, cK, rfl⟩ := h.slK
  obtain ⟨aL, cL, rfl⟩ := h.slL
  have hV := Lib.hid (valid_r h)
  have hle := hE.le
  have ht := hE.trees
  have d1 := h.hd.cell 1
  have d2 := h.hd.cell 2
  simp only [List.getElem?_cons_zero, List.getElem?_cons_succ] at d1 d2
  generalize nc n (EK L) = t at *
  clear h hE
  go_enter Try.func47, Try.ntmps47
  go_wp2_with fail
  refine hV.out.mono ?_
  rintro _ w ⟨rfl, rfl⟩
  go_wp2
  go_quiet (fail)
  go_wp2
  go_ret
  refine ⟨ret_int ?_, _, rfl⟩
  omega
end Go.Proofs.Ytoppjjgecgbbkaa

/- The document's forest: Min, on, Meet. -/
namespace Go.Proofs.Ytoppjjgecgbbkaa
open Go.RowKit Classical
set_option maxRecDepth 10000
set_option maxHeartbeats 800000

theorem first_unique {key : Nat → Int} {p : List Nat} {m m' : Nat} (h : FirstOf key p m) (h' : FirstOf key p m') : m = m' := by
  apply Classical.byContradiction
  intro hne
  have h1 := h.2 m' h'.1 (fun e => hne e.symm)
  have h2 := h'.2 m h.1 hne
  omega
noncomputable def minI (n : Nat) (E : Nat → Nat → Prop) (key : Nat → Int) (a b : Int) : Nat := if h : ∃ m, FirstOf key (pathL n E a b) m then Classical.choose h else 0
theorem minI_eq {n : Nat} {E : Nat → Nat → Prop} {key : Nat → Int} {a b : Int} {m : Nat} (h : FirstOf key (pathL n E a b) m) : minI n E key a b = m := by
  have hx : ∃ m, FirstOf key (pathL n E a b) m := ⟨m, h⟩
  unfold minI; rw [dif_pos hx]; exact first_unique (Classical.choose_spec hx) h
theorem minI_nil {n : Nat} {E : Nat → Nat → Prop} {key : Nat → Int} {a b : Int} (h : pathL n E a b = []) : minI n E key a b = 0 := by
  unfold minI; rw [dif_neg]; rintro ⟨m, hm, _⟩; rw [h] at hm; cases hm
theorem connB_path {n : Nat} {E : Nat → Nat → Prop} {a b : Int} : connB n E a b = decide (0 < (pathL n E a b).length) := by
  unfold connB pathL
  by_cases hc : ConnI n E a b
  · rw [if_pos hc, decide_eq_true hc]; exact (decide_eq_true (List.length_pos_iff.2 (thePath_is hc.2.2).ne)).symm
  · rw [if_neg hc, decide_eq_false hc]; rfl

theorem first_one (key : Nat → Int) (x : Nat) : FirstOf key [x] x := ⟨by simp, fun y hy hne => absurd (by simpa using hy) hne⟩
theorem first_snoc {key : Nat → Int} {p : List Nat} {m x : Nat} (h : FirstOf key p m) (hx : key x < key m ∨ (key x = key m ∧ x < m)) : FirstOf key (p ++ [x]) x := by
  refine ⟨by simp, fun y hy hne => ?_⟩
  have hy' : y ∈ p := by rcases List.mem_append.1 hy with h | h; exact h; exact absurd (by simpa using h) hne
  by_cases e : y = m
  · subst e; exact hx
  · have := h.2 y hy' e; omega
theorem first_keep {key : Nat → Int} {p : List Nat} {m x : Nat} (h : FirstOf key p m) (hne : x ≠ m) (hx : ¬ (key x < key m ∨ (key x = key m ∧ x < m))) : FirstOf key (p ++ [x]) m := by
  refine ⟨List.mem_append_left _ h.1, fun y hy hny => ?_⟩
  rcases List.mem_append.1 hy with hy | hy
  · exact h.2 y hy hny
  · obtain rfl : y = x := by simpa using hy
    omega

theorem min_r {w : World} {pr : Nat} {vK vL : Value} {n : Nat} {key : Nat → Int} {L : List (Nat × Nat)} (h : RefAt w pr vK vL n key L) (hE : EL n L) (a b : Int) :
    Calls Try.prog 41 #[.pointer (some ⟨pr, 0, none⟩), .int .i64 a, .int .i64 b] w fun e w' => e = .returned (.tuple #[.int .i64 (minI n (EK L) key a b : Nat), .bool (connB n (EK L) a b)]) ∧ Fr [] w w' := by
  have hle := hE.le
  have hpl := pathL_len hE.elt a b
  have HP := Lib.hid (path_r h hE a b)
  have hcb := connB_path (n := n) (E := EK L) (a := a) (b := b)
  have hlt := pathL_lt (a := a) (b := b) hE.elt
  have hnd := pathL_nd (n := n) (E := EK L) a b
  have hmi := fun m => minI_eq (n := n) (E := EK L) (key := key) (a := a) (b := b) (m := m)
  have hm0 := minI_nil (n := n) (E := EK L) (key := key) (a := a) (b := b)
  generalize pathL n (EK L) a b = p at *
  generalize minI n (EK L) key a b = mi at *
  generalize connB n (EK L) a b = cb at *
  have HF := Lib.hid (And.intro hlt (And.intro hnd (And.intro hmi hm0))); clear hlt hnd hmi hm0
  clear hE
  have HH := Lib.hid h; clear h
  go_enter Try.func41, Try.ntmps41
  go_wp2_with fail
  refine HP.out.mono ?_
  clear HP
  rintro _ w1 ⟨v, rfl, hR, _, hF⟩
  have HR := Lib.hid hR
  obtain ⟨a1, c1, rfl⟩ := hR.slice
  clear hR
  by_cases h0 : p.length = 0
  · have hb : ((p.length : Int) == 0) = true := beq_iff_eq.2 (by omega)
    have e1 : cb = false := by rw [hcb]; exact decide_eq_false (by omega)
    have Hx := Lib.hid (And.intro e1 h0); clear e1 hcb h0
    go_wp2
    go_ret2
    refine ⟨?_, hF⟩
    rw [Hx.out.1, HF.out.2.2.2 (List.eq_nil_of_length_eq_zero Hx.out.2)]; rfl
  · have hb : ((p.length : Int) == 0) = false := beq_eq_false_iff_ne.2 (by omega)
    have e1 : cb = true := by rw [hcb]; exact decide_eq_true (by omega)
    have Hx := Lib.hid e1; clear e1 hcb
    have hpos : 0 < p.length := by omega
    obtain ⟨b1, c1', e1, _, r1⟩ := HR.out.at hpos
    simp only [Value.slice.injEq, true_and] at e1
    obtain ⟨rfl, rfl⟩ := e1
    have hi0 : (0 : Int) < p.length := by omega
    have HF0 := Lib.hid (show FirstOf key (p.take 1) p[0] by
      cases p with
      | nil => simp at hpos
      | cons x l => simpa using first_one key x)
    have Hm0 := Lib.hid (List.getElem_mem hpos)
    generalize p[0] = p0 at *
    have hH1 := HH.out.fr0 hF
    obtain ⟨aK, cK, rfl⟩ := hH1.slK
    have HH1 := Lib.hid hH1; clear hH1 HH
    go_wp2
    go_loopw [9, 10] (fun sb si wr => (∃ k, wr = w1.drewN k) ∧ ∃ (i best : Nat), 1 ≤ i ∧ i ≤ p.length ∧ si = .int .i64 i ∧ sb = .int .i64 best ∧ Hid (FirstOf key (p.take i) best)) (fun _ si _ => p.length - (intOf si).toNat)
    case atStart => exact ⟨⟨0, rfl⟩, 1, p0, Nat.le_refl _, hpos, rfl, rfl, HF0⟩
    case round =>
      clear HF0 Hm0 r1 h0 hb
      obtain ⟨⟨k, rfl⟩, i, best, hi1, hi, rfl, rfl, HB⟩ := hrel
      by_cases hlt : i < p.length
      · obtain ⟨b1', c1', e1, _, r1⟩ := HR.out.at hlt
        simp only [Value.slice.injEq, Option.some.injEq, Addr.mk.injEq, and_true, true_and] at e1
        obtain ⟨rfl, rfl⟩ := e1
        have hin : (i : Int) < p.length := by omega
        have hbm : best ∈ p := List.mem_of_mem_take HB.out.1
        have hpn := HF.out.1 _ (List.getElem_mem hlt)
        have hbn := HF.out.1 _ hbm
        have htk : p.take (i + 1) = p.take i ++ [p[i]] := by rw [List.take_add_one, List.getElem?_eq_getElem hlt]; rfl
        have hne : p[i] ≠ best := by
          intro e
          obtain ⟨j, hj, he⟩ := List.mem_take_iff_getElem.1 HB.out.1
          exact List.pairwise_iff_getElem.1 HF.out.2.1 j i (by omega) hlt (by omega) (he.trans e.symm)
        generalize p[i] = x at *
        obtain ⟨bK, cK', eK, k1, _⟩ := HH1.out.keyAt hpn
        obtain ⟨bK2, cK2, eK2, k2, _⟩ := HH1.out.keyAt hbn
        simp only [Value.slice.injEq, true_and] at eK eK2
        obtain ⟨rfl, rfl⟩ := eK
        simp only [Option.some.injEq, Addr.mk.injEq, and_true, true_and] at eK2
        obtain ⟨rfl, rfl⟩ := eK2
        have d1 := HH1.out.hd.cell 1
        simp only [List.getElem?_cons_zero, List.getElem?_cons_succ] at d1
        have hxn : (x : Int) < n := by omega
        have hbn2 : (best : Int) < n := by omega
        have Hnx := Lib.hid (And.intro htk hne); clear htk hne hbm
        by_cases t1 : key x < key best
        · have hd1 : decide (key x < key best) = true := decide_eq_true t1
          have Hst := Lib.hid (first_snoc HB.out (.inl t1)); rw [← Hnx.out.1] at Hst
          go_wp2
          go_quiet (fail)
          go_wp2
          go_roundw
          case rel => exact ⟨⟨_, rfl⟩, i + 1, x, by omega, by omega, by go_num, rfl, Hst⟩
          case measure => simp [intOf]; omega
        · have hd1 : decide (key x < key best) = false := decide_eq_false t1
          by_cases t2 : key x = key best
          · have hd2 : (key x == key best) = true := beq_iff_eq.2 t2
            by_cases t3 : x < best
            · have hd3 : decide ((x : Int) < (best : Int)) = true := decide_eq_true (by omega)
              have Hst := Lib.hid (first_snoc HB.out (.inr ⟨t2, t3⟩)); rw [← Hnx.out.1] at Hst
              have Ht := Lib.hid t2; clear t2
              go_wp2
              go_quiet (fail)
              go_wp2
              go_roundw
              case rel => exact ⟨⟨_, rfl⟩, i + 1, x, by omega, by omega, by go_num, rfl, Hst⟩
              case measure => simp [intOf]; omega
            · have hd3 : decide ((x : Int) < (best : Int)) = false := decide_eq_false (by omega)
              have Hst := Lib.hid (first_keep HB.out Hnx.out.2 (by omega)); rw [← Hnx.out.1] at Hst
              have Ht := Lib.hid t2; clear t2
              go_wp2
              go_quiet (fail)
              go_wp2
              go_roundw
              case rel => exact ⟨⟨_, rfl⟩, i + 1, best, by omega, by omega, by go_num, rfl, Hst⟩
              case measure => simp [intOf]; omega
          · have hd2 : (key x == key best) = false := beq_eq_false_iff_ne.2 t2
            have Hst := Lib.hid (first_keep HB.out Hnx.out.2 (by omega)); rw [← Hnx.out.1] at Hst
            go_wp2
            go_quiet (fail)
            go_wp2
            go_roundw
            case rel => exact ⟨⟨_, rfl⟩, i + 1, best, by omega, by omega, by go_num, rfl, Hst⟩
            case measure => simp [intOf]; omega
      · obtain rfl : i = p.length := by omega
        have hin : ¬ ((p.length : Int) < p.length) := by omega
        go_wp2
        go_ret2
        have hfb := HB.out
        rw [List.take_of_length_le (Nat.le_refl _)] at hfb
        exact ⟨by rw [HF.out.2.2.1 _ hfb, Hx.out]; rfl, hF.drewN _⟩

theorem on_r {w : World} {v : Value} {p : List Nat} (h : RowN w v p) (hp : p.length ≤ 65536) (x : Nat) :
    Calls Try.prog 57 #[v, .int .i64 x] w fun e w' => e = .returned (.bool (decide (x ∈ p))) ∧ w' = w := by
  obtain ⟨a1, c1, rfl⟩ := h.slice
  have HR := Lib.hid h; clear h
  go_enter Try.func57, Try.ntmps57
  go_wp2
  go_loopw [5] (fun si wr => wr = w ∧ ∃ i : Nat, i ≤ p.length ∧ si = .int .i64 i ∧ Hid (x ∉ p.take i)) (fun si _ => p.length - (intOf si).toNat)
  case atStart => exact ⟨rfl, 0, Nat.zero_le _, rfl, Lib.hid (by simp)⟩
  case round =>
    obtain ⟨rfl, i, hi, rfl, HN⟩ := hrel
    by_cases hlt : i < p.length
    · obtain ⟨b1, c1', e1, _, r1⟩ := HR.out.at hlt
      simp only [Value.slice.injEq, true_and] at e1
      obtain ⟨rfl, rfl⟩ := e1
      have hin : (i : Int) < p.length := by omega
      have htk : p.take (i + 1) = p.take i ++ [p[i]] := by rw [List.take_add_one, List.getElem?_eq_getElem hlt]; rfl
      have hmem := List.getElem_mem hlt
      generalize p[i] = y at *
      have Hm := Lib.hid (And.intro htk hmem); clear htk hmem
      by_cases hy : y = x
      · have hd : ((y : Int) == (x : Int)) = true := beq_iff_eq.2 (by omega)
        have Hy := Lib.hid hy; clear hy
        go_wp2
        go_ret
        refine ⟨?_, rfl⟩
        rw [decide_eq_true (show x ∈ p from Hy.out ▸ Hm.out.2)]; rfl
      · have hd : ((y : Int) == (x : Int)) = false := beq_eq_false_iff_ne.2 (by omega)
        have Hy := Lib.hid hy; clear hy
        go_wp2
        go_roundw
        case rel => exact ⟨by trivial, i + 1, by omega, by go_num, Lib.hid (by rw [Hm.out.1]; simp only [List.mem_append, List.mem_singleton, not_or]; exact ⟨HN.out, fun e => Hy.out e.symm⟩)⟩
        case measure => simp [intOf]; omega
    · obtain rfl : i = p.length := by omega
      have hin : ¬ ((p.length : Int) < p.length) := by omega
      go_wp2
      go_ret
      refine ⟨?_, rfl⟩
      have := HN.out
      rw [List.take_of_length_le (Nat.le_refl _)] at this
      rw [decide_eq_false this]; rfl

theorem pathL_conn {n : Nat} {E : Nat → Nat → Prop} {a b : Int} {x : Nat} (h : x ∈ pathL n E a b) : ConnI n E a b := by
  apply Classical.byContradiction
  intro hc
  unfold pathL at h; rw [if_neg hc] at h; cases h
theorem pathL_of {n : Nat} {E : Nat → Nat → Prop} (hf : Frs E) {a b : Int} (hc : ConnI n E a b) {p : List Nat} (hp : IsPath E a.toNat b.toNat p) : pathL n E a b = p := by
  unfold pathL; rw [if_pos hc]; exact thePath_eq hf hp
theorem meet_all {n : Nat} {E : Nat → Nat → Prop} (hf : Frs E) {a b c : Int} (h : meetB n E a b c = true) : ∀ x, (x ∈ pathL n E a b ∧ x ∈ pathL n E b c ∧ x ∈ pathL n E c a) ↔ x = meetI n E a b c := by
  have h' := h
  simp only [meetB, Bool.and_eq_true, connB_iff] at h'
  obtain ⟨h1, h2⟩ := h'
  obtain ⟨m, hm⟩ := meets_ex hf h1.2.2 h2.2.2
  have e : meetI n E a b c = m := by unfold meetI; rw [if_pos h]; exact theMeet_eq hf hm
  obtain ⟨p, q, r, hp, hq, hr, hx⟩ := hm
  have h3 : ConnI n E c a := ⟨h2.2.1, h1.1, hf.csymm (hf.ctrans h1.2.2 h2.2.2)⟩
  rw [pathL_of hf h1 hp, pathL_of hf h2 hq, pathL_of hf h3 hr, e]; exact hx
theorem meet_found {n : Nat} {E : Nat → Nat → Prop} (hf : Frs E) {a b c : Int} {x : Nat} (h1 : x ∈ pathL n E a b) (h2 : x ∈ pathL n E b c) (h3 : x ∈ pathL n E c a) : meetB n E a b c = true ∧ meetI n E a b c = x := by
  have h : meetB n E a b c = true := by simp only [meetB, Bool.and_eq_true, connB_iff]; exact ⟨pathL_conn h1, pathL_conn h2⟩
  exact ⟨h, ((meet_all hf h x).1 ⟨h1, h2, h3⟩).symm⟩
theorem meet_none {n : Nat} {E : Nat → Nat → Prop} (hf : Frs E) {a b c : Int} (h : ∀ x ∈ pathL n E a b, ¬ (x ∈ pathL n E b c ∧ x ∈ pathL n E c a)) : meetB n E a b c = false ∧ meetI n E a b c = 0 := by
  have hb : meetB n E a b c = false := by
    cases hb : meetB n E a b c with
    | false => rfl
    | true => have := (meet_all hf hb _).2 rfl; exact absurd this.2 (h _ this.1)
  exact ⟨hb, by unfold meetI; rw [hb]; rfl⟩

theorem meet_r {w : World} {pr : Nat} {vK vL : Value} {n : Nat} {key : Nat → Int} {L : List (Nat × Nat)} (h : RefAt w pr vK vL n key L) (hE : EL n L) (a b c : Int) :
    Calls Try.prog 42 #[.pointer (some ⟨pr, 0, none⟩), .int .i64 a, .int .i64 b, .int .i64 c] w fun e w' => e = .returned (.tuple #[.int .i64 (meetI n (EK L) a b c : Nat), .bool (meetB n (EK L) a b c)]) ∧ Fr [] w w' := by
  have hle := hE.le
  have hl1 := pathL_len hE.elt a b
  have hl2 := pathL_len hE.elt b c
  have hl3 := pathL_len hE.elt c a
  have HP1 := Lib.hid (path_r h hE a b)
  have HP2 := Lib.hid (fun (w' : World) (h' : Fr [] w w') => path_r (h.fr0 h') hE b c)
  have HP3 := Lib.hid (fun (w' : World) (h' : Fr [] w w') => path_r (h.fr0 h') hE c a)
  have hfo := fun x => meet_found (n := n) hE.frs (a := a) (b := b) (c := c) (x := x)
  have hno := meet_none (n := n) hE.frs (a := a) (b := b) (c := c)
  generalize pathL n (EK L) a b = p at *
  generalize pathL n (EK L) b c = q at *
  generalize pathL n (EK L) c a = r at *
  generalize meetI n (EK L) a b c = mi at *
  generalize meetB n (EK L) a b c = mb at *
  have HF := Lib.hid (And.intro hfo hno); clear hfo hno hE h
  go_enter Try.func42, Try.ntmps42
  go_wp2_with fail
  refine HP1.out.mono ?_
  clear HP1
  rintro _ w1 ⟨v1, rfl, R1, _, F1⟩
  have HR1 := Lib.hid R1
  obtain ⟨a1, c1, rfl⟩ := R1.slice
  clear R1
  go_wp2_with fail
  refine (HP2.out w1 F1).mono ?_
  clear HP2
  rintro _ w2 ⟨v2, rfl, R2, _, F2⟩
  have HR2 := Lib.hid R2
  have HR12 := Lib.hid (HR1.out.fr F2 (by simp))
  have F12 := F1.trans' F2
  clear HR1 F1 F2
  obtain ⟨a2, c2, rfl⟩ := R2.slice
  clear R2
  go_wp2_with fail
  refine (HP3.out w2 F12).mono ?_
  clear HP3
  rintro _ w3 ⟨v3, rfl, R3, _, F3⟩
  have HR3 := Lib.hid R3
  have HR23 := Lib.hid (HR2.out.fr F3 (by simp))
  have HR13 := Lib.hid (HR12.out.fr F3 (by simp))
  have F13 := F12.trans' F3
  clear HR12 HR2 F12 F3
  obtain ⟨a3, c3, rfl⟩ := R3.slice
  clear R3
  have HO2 := Lib.hid (fun x => on_r HR23.out (by omega) x)
  have HO3 := Lib.hid (fun x => on_r HR3.out (by omega) x)
  have HFr := Lib.hid F13; clear F13
  go_wp2
  go_loopw [13] (fun si wr => wr = w3 ∧ ∃ i : Nat, i ≤ p.length ∧ si = .int .i64 i ∧ Hid (∀ x ∈ p.take i, ¬ (x ∈ q ∧ x ∈ r))) (fun si _ => p.length - (intOf si).toNat)
  case atStart => exact ⟨rfl, 0, Nat.zero_le _, rfl, Lib.hid (by simp)⟩
  case round =>
    obtain ⟨rfl, i, hi, rfl, HN⟩ := hrel
    by_cases hlt : i < p.length
    · obtain ⟨b1, c1', e1, _, r1⟩ := HR13.out.at hlt
      simp only [Value.slice.injEq, true_and] at e1
      obtain ⟨rfl, rfl⟩ := e1
      have hin : (i : Int) < p.length := by omega
      have htk : p.take (i + 1) = p.take i ++ [p[i]] := by rw [List.take_add_one, List.getElem?_eq_getElem hlt]; rfl
      have hmem := List.getElem_mem hlt
      generalize p[i] = y at *
      have Hm := Lib.hid (And.intro htk hmem); clear htk hmem
      have H2 := Lib.hid (HO2.out y)
      have H3 := Lib.hid (HO3.out y)
      by_cases hy2 : y ∈ q
      · rw [decide_eq_true hy2] at H2
        by_cases hy3 : y ∈ r
        · rw [decide_eq_true hy3] at H3
          have Hy := Lib.hid (And.intro hy2 hy3); clear hy2 hy3
          go_wp2_with fail
          refine H2.out.mono ?_
          rintro _ w3 ⟨rfl, rfl⟩
          go_wp2_with fail
          refine H3.out.mono ?_
          rintro _ w3 ⟨rfl, rfl⟩
          go_wp2
          go_ret2
          obtain ⟨e1, e2⟩ := HF.out.1 y Hm.out.2 Hy.out.1 Hy.out.2
          exact ⟨by rw [e1, e2]; rfl, HFr.out⟩
        · rw [decide_eq_false hy3] at H3
          have Hy := Lib.hid hy3; clear hy2 hy3
          go_wp2_with fail
          refine H2.out.mono ?_
          rintro _ w3 ⟨rfl, rfl⟩
          go_wp2_with fail
          refine H3.out.mono ?_
          rintro _ w3 ⟨rfl, rfl⟩
          go_wp2
          go_roundw
          case rel =>
            refine ⟨by trivial, i + 1, by omega, by go_num, Lib.hid (fun x hx => ?_)⟩
            rw [Hm.out.1] at hx
            rcases List.mem_append.1 hx with hx | hx
            · exact HN.out x hx
            · obtain rfl : x = y := by simpa using hx
              exact fun e => Hy.out e.2
          case measure => simp [intOf]; omega
      · rw [decide_eq_false hy2] at H2
        have Hy := Lib.hid hy2; clear hy2
        go_wp2_with fail
        refine H2.out.mono ?_
        rintro _ w3 ⟨rfl, rfl⟩
        go_wp2
        go_roundw
        case rel =>
          refine ⟨by trivial, i + 1, by omega, by go_num, Lib.hid (fun x hx => ?_)⟩
          rw [Hm.out.1] at hx
          rcases List.mem_append.1 hx with hx | hx
          · exact HN.out x hx
          · obtain rfl : x = y := by simpa using hx
            exact fun e => Hy.out e.1
        case measure => simp [intOf]; omega
    · obtain rfl : i = p.length := by omega
      have hin : ¬ ((p.length : Int) < p.length) := by omega
      go_wp2
      go_ret2
      have := HN.out
      rw [List.take_of_length_le (Nat.le_refl _)] at this
      obtain ⟨e1, e2⟩ := HF.out.2 this
      exact ⟨by rw [e1, e2]; rfl, HFr.out⟩
end Go.Proofs.Ytoppjjgecgbbkaa

/- LctNil: the walk. -/
namespace Go.Proofs.Ytoppjjgecgbbkaa
open Go.RowKit
set_option maxRecDepth 10000
set_option maxHeartbeats 800000

@[go_sem] theorem eq_lct_nil (a : Addr) (w : World) : (binOp .eql 25 (.pointer none) (.pointer (some a))).run Try.prog w = .ok (.bool false) w := by
  have h : ∀ d : Nat, (Op.equalIn (d + 1) 25 (.pointer none) (.pointer (some a))).run Try.prog w = .ok false w := fun d => by
    simp [Op.equalIn, run_underlying Try.underlying25]
  simp only [binOp]
  simp [Op.equal, Op.maxDepth, h 9999]

/-- A nil forest, or one that was not made by New. -/
def BadF (w : World) (q : Option Addr) : Prop := q = none ∨ ∃ p, q = some ⟨p, 0, none⟩ ∧ p < w.heap.size ∧ w.cell? ⟨p, 0, none⟩ = some (.pointer none)
theorem BadF.fr {w w' : World} {q : Option Addr} (h : BadF w q) (hf : Below w.heap.size w w') : BadF w' q := by
  rcases h with h | ⟨p, h1, h2, h3⟩
  · exact .inl h
  · exact .inr ⟨p, h1, Nat.lt_of_lt_of_le h2 hf.size, (hf.cell (p := ⟨p, 0, none⟩) h2).trans h3⟩

section
variable {w : World} {q : Option Addr} (h : BadF w q)
include h
theorem bad_valid : Calls Try.prog 37 #[.pointer q] w fun e w' => e = .returned (.bool false) ∧ w' = w := by
  rcases h with rfl | ⟨pt, rfl, _, hc⟩
  · go_enter Try.func37, Try.ntmps37
    go_wp2
    go_ret
    exact ⟨rfl, rfl⟩
  · go_enter Try.func37, Try.ntmps37
    go_wp2
    go_ret
    exact ⟨rfl, rfl⟩
theorem bad_has (a : Int) : Calls Try.prog 33 #[.pointer q, .int .i64 a] w fun e w' => e = .returned (.bool false) ∧ w' = w := by
  have H := Lib.hid (bad_valid h); clear h
  go_enter Try.func33, Try.ntmps33
  go_wp2_with (go_at_call 37; refine H.out.mono ?_; rintro e w' ⟨rfl, rfl⟩)
  go_ret
  exact ⟨rfl, rfl⟩
theorem bad_check (v : Value) : Calls Try.prog 35 #[.pointer q, v] w fun e w' => e = .returned (.int .i64 1) ∧ w' = w := by
  have H := Lib.hid (bad_valid h); clear h
  go_enter Try.func35, Try.ntmps35
  go_wp2_with (go_at_call 37; refine H.out.mono ?_; rintro e w' ⟨rfl, rfl⟩)
  go_ret
  exact ⟨rfl, rfl⟩
theorem bad_key (a : Int) : Calls Try.prog 27 #[.pointer q, .int .i64 a] w fun e w' => e = .returned (.int .i64 0) ∧ w' = w := by
  have H := Lib.hid (bad_has h a); clear h
  go_enter Try.func27, Try.ntmps27
  go_wp2_with (go_at_call 33; refine H.out.mono ?_; rintro e w' ⟨rfl, rfl⟩)
  go_ret
  exact ⟨rfl, rfl⟩
theorem bad_size (a : Int) : Calls Try.prog 18 #[.pointer q, .int .i64 a] w fun e w' => e = .returned (.int .i64 0) ∧ w' = w := by
  have H := Lib.hid (bad_has h a); clear h
  go_enter Try.func18, Try.ntmps18
  go_wp2_with (go_at_call 33; refine H.out.mono ?_; rintro e w' ⟨rfl, rfl⟩)
  go_ret
  exact ⟨rfl, rfl⟩
theorem bad_connected (a b : Int) : Calls Try.prog 15 #[.pointer q, .int .i64 a, .int .i64 b] w fun e w' => e = .returned (.bool false) ∧ w' = w := by
  have H := Lib.hid (bad_has h a); clear h
  go_enter Try.func15, Try.ntmps15
  go_wp2_with (go_at_call 33; refine H.out.mono ?_; rintro e w' ⟨rfl, rfl⟩)
  go_ret
  exact ⟨rfl, rfl⟩
theorem bad_trees : Calls Try.prog 17 #[.pointer q] w fun e w' => e = .returned (.int .i64 0) ∧ w' = w := by
  have H := Lib.hid (bad_valid h); clear h
  go_enter Try.func17, Try.ntmps17
  go_wp2_with (go_at_call 37; refine H.out.mono ?_; rintro e w' ⟨rfl, rfl⟩)
  go_ret
  exact ⟨rfl, rfl⟩
theorem bad_copy : Calls Try.prog 29 #[.pointer q] w fun e w' => e = .returned (.pointer none) ∧ w' = w := by
  have H := Lib.hid (bad_valid h); clear h
  go_enter Try.func29, Try.ntmps29
  go_wp2_with (go_at_call 37; refine H.out.mono ?_; rintro e w' ⟨rfl, rfl⟩)
  go_ret
  exact ⟨rfl, rfl⟩
theorem bad_path (a b : Int) : Calls Try.prog 22 #[.pointer q, .int .i64 a, .int .i64 b] w fun e w' => e = .returned (.slice none 0 0) ∧ w' = w := by
  have H := Lib.hid (bad_connected h a b); clear h
  go_enter Try.func22, Try.ntmps22
  go_wp2_with (go_at_call 15; refine H.out.mono ?_; rintro e w' ⟨rfl, rfl⟩)
  go_ret
  exact ⟨rfl, rfl⟩
theorem bad_dist (a b : Int) : Calls Try.prog 21 #[.pointer q, .int .i64 a, .int .i64 b] w fun e w' => e = .returned (.int .i64 (-1)) ∧ w' = w := by
  have H := Lib.hid (bad_connected h a b); clear h
  go_enter Try.func21, Try.ntmps21
  go_wp2_with (go_at_call 15; refine H.out.mono ?_; rintro e w' ⟨rfl, rfl⟩)
  go_ret
  exact ⟨rfl, rfl⟩
theorem bad_min (a b : Int) : Calls Try.prog 28 #[.pointer q, .int .i64 a, .int .i64 b] w fun e w' => e = .returned (.tuple #[.int .i64 0, .bool false]) ∧ w' = w := by
  have H := Lib.hid (bad_connected h a b); clear h
  go_enter Try.func28, Try.ntmps28
  go_wp2_with (go_at_call 15; refine H.out.mono ?_; rintro e w' ⟨rfl, rfl⟩)
  go_ret2
  exact ⟨rfl, rfl⟩
theorem bad_meet (a b c : Int) : Calls Try.prog 20 #[.pointer q, .int .i64 a, .int .i64 b, .int .i64 c] w fun e w' => e = .returned (.tuple #[.int .i64 0, .bool false]) ∧ w' = w := by
  have H := Lib.hid (bad_connected h a b); clear h
  go_enter Try.func20, Try.ntmps20
  go_wp2_with (go_at_call 15; refine H.out.mono ?_; rintro e w' ⟨rfl, rfl⟩)
  go_ret2
  exact ⟨rfl, rfl⟩
theorem bad_set (a k : Int) : Calls Try.prog 26 #[.pointer q, .int .i64 a, .int .i64 k] w fun e w' => e = .returned (.int .i64 1) ∧ Below w.heap.size w w' := by
  have hB : Below w.heap.size w (w.alloc (.cells #[.int .i64 a] 3)) := (Below.refl _ w).alloc (Nat.le_refl _) _
  have H := Lib.hid (fun v => bad_check (h.fr hB) v); clear h
  go_enter Try.func26, Try.ntmps26
  go_wp2_with (go_at_call 35; refine (H.out _).mono ?_; rintro e w' ⟨rfl, rfl⟩)
  go_ret
  exact ⟨rfl, hB⟩
theorem bad_link (a b : Int) : Calls Try.prog 16 #[.pointer q, .int .i64 a, .int .i64 b] w fun e w' => e = .returned (.int .i64 1) ∧ Below w.heap.size w w' := by
  have hB : Below w.heap.size w (w.alloc (.cells #[.int .i64 a, .int .i64 b] 3)) := (Below.refl _ w).alloc (Nat.le_refl _) _
  have H := Lib.hid (fun v => bad_check (h.fr hB) v); clear h
  go_enter Try.func16, Try.ntmps16
  go_wp2_with (go_at_call 35; refine (H.out _).mono ?_; rintro e w' ⟨rfl, rfl⟩)
  go_ret
  exact ⟨rfl, hB⟩
theorem bad_cut (a b : Int) : Calls Try.prog 30 #[.pointer q, .int .i64 a, .int .i64 b] w fun e w' => e = .returned (.int .i64 1) ∧ Below w.heap.size w w' := by
  have hB : Below w.heap.size w (w.alloc (.cells #[.int .i64 a, .int .i64 b] 3)) := (Below.refl _ w).alloc (Nat.le_refl _) _
  have H := Lib.hid (fun v => bad_check (h.fr hB) v); clear h
  go_enter Try.func30, Try.ntmps30
  go_wp2_with (go_at_call 35; refine (H.out _).mono ?_; rintro e w' ⟨rfl, rfl⟩)
  go_ret
  exact ⟨rfl, hB⟩
end

theorem walk_lctNil (w : World) (a : Int) (_wa : (Lit.int .i64 a).wf = true) (b : Int) (_wb : (Lit.int .i64 b).wf = true) (c : Int) (_wc : (Lit.int .i64 c).wf = true) (k : Int) (_wk : (Lit.int .i64 k).wf = true) :
    Calls Try.prog 11 #[.int .i64 a, .int .i64 b, .int .i64 c, .int .i64 k] w fun e w' => e = .returned (.bool true) ∧ Below w.heap.size w w' := by
  clear _wa _wb _wc _wk
  go_enter Try.func11, Try.ntmps11
  go_wp2
  obtain ⟨W, hW⟩ : ∃ W, (w.alloc (.cells #[.pointer none, .slice none 0 0, .int .i64 0] 65)).alloc (.cells #[.pointer none, .pointer (some ⟨w.heap.size, 0, none⟩)] 25) = W := ⟨_, rfl⟩
  have e1 : Blk W w.heap.size 65 [.pointer none, .slice none 0 0, .int .i64 0] := by subst hW; exact (Blk.new w _ _).alloc _
  have e2 : Blk W (w.heap.size + 1) 25 [.pointer none, .pointer (some ⟨w.heap.size, 0, none⟩)] := by
    subst hW
    have := Blk.new (w.alloc (.cells #[.pointer none, .slice none 0 0, .int .i64 0] 65)) [.pointer none, .pointer (some ⟨w.heap.size, 0, none⟩)] 25
    rw [World.size_alloc] at this; exact this
  have hB : Below w.heap.size w W := by subst hW; exact ((Below.refl _ w).alloc (Nat.le_refl _) _).alloc (by simp) _
  rw [hW]
  clear hW
  have c0 : W.cell? ⟨w.heap.size + 1, 0, none⟩ = some (.pointer none) := e2.cell 0
  have c1 : W.cell? ⟨w.heap.size + 1, 1, none⟩ = some (.pointer (some ⟨w.heap.size, 0, none⟩)) := e2.cell 1
  have cz : W.cell? ⟨w.heap.size, 0, none⟩ = some (.pointer none) := e1.cell 0
  have l1 := e1.lt
  have l2 := e2.lt
  have HC := Lib.hid (And.intro (And.intro c0 c1) cz); clear c0 c1 cz e1 e2
  go_loopw [11] (fun x wr => ∃ j : Nat, j ≤ 2 ∧ x = .int .i64 j ∧ Below W.heap.size W wr) (fun x _ => 2 - (intOf x).toNat)
  case atStart => exact ⟨0, by omega, rfl, Below.refl _ _⟩
  case round =>
    obtain ⟨j, hj, rfl, hBr⟩ := hrel
    by_cases hlt : j < 2
    · obtain ⟨q, hv, hbt⟩ : ∃ q, wr.cell? ⟨w.heap.size + 1, j, none⟩ = some (.pointer q) ∧ BadF wr q := by
        rcases (show j = 0 ∨ j = 1 by omega) with rfl | rfl
        · exact ⟨_, (hBr.cell (p := ⟨w.heap.size + 1, 0, none⟩) l2).trans HC.out.1.1, .inl rfl⟩
        · exact ⟨_, (hBr.cell (p := ⟨w.heap.size + 1, 1, none⟩) l2).trans HC.out.1.2, .inr ⟨_, rfl, Nat.lt_of_lt_of_le l1 hBr.size, (hBr.cell (p := ⟨w.heap.size, 0, none⟩) l1).trans HC.out.2⟩⟩
      have HB := Lib.hid hbt; clear hbt
      have hj2 : (j : Int) < 2 := by omega
      go_wp2_with fail
      refine (bad_set HB.out a k).mono ?_
      rintro _ w2 ⟨rfl, b2⟩
      have H2 := Lib.hid (HB.out.fr b2)
      go_wp2_with fail
      refine (bad_link H2.out a b).mono ?_
      rintro _ w3 ⟨rfl, b3⟩
      have H3 := Lib.hid (H2.out.fr b3)
      go_wp2_with fail
      refine (bad_cut H3.out a b).mono ?_
      rintro _ w4 ⟨rfl, b4⟩
      have H4 := Lib.hid (H3.out.fr b4)
      have hB4 : Below W.heap.size W w4 := ((hBr.trans (b2.mono hBr.size)).trans (b3.mono (Nat.le_trans hBr.size b2.size))).trans (b4.mono (Nat.le_trans hBr.size (Nat.le_trans b2.size b3.size)))
      clear HB H2 H3 b2 b3 b4 hBr hv
      go_wp2_with (first | (go_at_call 28; refine (bad_min H4.out a b).mono ?_; rintro e w' ⟨rfl, rfl⟩) | (go_at_call 20; refine (bad_meet H4.out a b c).mono ?_; rintro e w' ⟨rfl, rfl⟩) | (go_at_call 27; refine (bad_key H4.out a).mono ?_; rintro e w' ⟨rfl, rfl⟩) | (go_at_call 15; refine (bad_connected H4.out a b).mono ?_; rintro e w' ⟨rfl, rfl⟩) | (go_at_call 18; refine (bad_size H4.out a).mono ?_; rintro e w' ⟨rfl, rfl⟩) | (go_at_call 17; refine (bad_trees H4.out).mono ?_; rintro e w' ⟨rfl, rfl⟩) | (go_at_call 22; refine (bad_path H4.out a b).mono ?_; rintro e w' ⟨rfl, rfl⟩) | (go_at_call 21; refine (bad_dist H4.out a b).mono ?_; rintro e w' ⟨rfl, rfl⟩) | (go_at_call 29; refine (bad_copy H4.out).mono ?_; rintro e w' ⟨rfl, rfl⟩))
      go_roundw
      case rel => exact ⟨j + 1, by omega, by go_num, hB4⟩
      case measure => simp [intOf]; omega
    · go_wp2_with fail
      refine (works_w _).mono ?_
      rintro _ w3 ⟨rfl, hB3⟩
      go_wp2
      go_ret
      exact ⟨rfl, hB.trans ((hBr.trans (hB3.mono hBr.size)).mono hB.size)⟩

end Go.Proofs.Ytoppjjgecgbbkaa

namespace Go.Proofs.Ytoppjjgecgbbkaa
open Go.RowKit Classical
set_option maxRecDepth 10000
set_option maxHeartbeats 800000

theorem min_d {w : World} {pf g n : Nat} {E : Nat → Nat → Prop} {key : Nat → Int} {ed : Int} (h : LG w pf g n E key ed) (a b : Int) :
    Calls Try.prog 28 #[.pointer (some ⟨pf, 0, none⟩), .int .i64 a, .int .i64 b] w fun e w' => e = .returned (.tuple #[.int .i64 (minI n E key a b : Nat), .bool (connB n E a b)]) ∧ LG w' pf g n E key ed ∧ Fr [g] w w' := by
  have hf := h.frs
  refine (min_w h a b).mono ?_
  rintro e w' ⟨hr, h1, h2⟩
  refine ⟨?_, h1, h2⟩
  rcases hr with ⟨hc, rfl⟩ | ⟨v, u, p, m, rfl, rfl, hv, hu, hp, _, hm, rfl⟩
  · have e1 : connB n E a b = false := by unfold connB; exact decide_eq_false hc
    have e2 : pathL n E a b = [] := by unfold pathL; rw [if_neg hc]
    rw [e1, minI_nil e2]; rfl
  · have hc : ConnI n E v u := ⟨by simp [inV]; omega, by simp [inV]; omega, by simpa using ⟨p, hp⟩⟩
    have e1 : connB n E v u = true := connB_iff.2 hc
    have e2 : pathL n E v u = p := pathL_of hf hc (by simpa using hp)
    rw [e1, minI_eq (m := m) (by rw [e2]; exact hm)]

structure Both (w wr : World) (pf g pr : Nat) (vK vL : Value) (n : Nat) (key : Nat → Int) (L : List (Nat × Nat)) : Prop where
  lm : LM wr pf g n (EK L) key
  ref : RefAt wr pr vK vL n key L
  el : EL n L
  fr : Fr [] w wr
  newL : w.heap.size ≤ pf ∧ w.heap.size ≤ g
  newR : ∀ q ∈ rB pr vK vL, w.heap.size ≤ q ∧ q ≠ pf ∧ q ≠ g

section
variable {w wr w' : World} {pf g pr : Nat} {vK vL : Value} {n : Nat} {key : Nat → Int} {L : List (Nat × Nat)} (h : Both w wr pf g pr vK vL n key L)
include h
theorem Both.ask (hl : LM w' pf g n (EK L) key) (hf : Fr [g] wr w') : Both w w' pf g pr vK vL n key L :=
  ⟨hl, h.ref.fr hf (fun q hq hm => (h.newR q hq).2.2 (by simpa using hm)), h.el, h.fr.trans hf (fun q hq => .inr (by simp at hq; subst hq; exact h.newL.2)), h.newL, h.newR⟩
theorem Both.askR (hf : Fr [] wr w') : Both w w' pf g pr vK vL n key L :=
  ⟨LG.fr h.lm hf (by simp) (by simp), h.ref.fr0 hf, h.el, h.fr.trans' hf, h.newL, h.newR⟩
theorem Both.drew (k : Nat) : Both w (wr.drewN k) pf g pr vK vL n key L := h.askR ((Fr.refl _ _).drewN k)
theorem Both.below : Below w.heap.size w wr := h.fr.below (by simp)

theorem agree_w (a b c : Int) :
    Calls Try.prog 25 #[.pointer (some ⟨pf, 0, none⟩), .pointer (some ⟨pr, 0, none⟩), .int .i64 a, .int .i64 b, .int .i64 c] wr fun e w' => e = .returned (.bool true) ∧ Both w w' pf g pr vK vL n key L := by
  have hle := h.el.le
  have hpl := pathL_len h.el.elt a b
  have HB := Lib.hid h; clear h
  go_enter Try.func25, Try.ntmps25
  go_wp2_with fail
  refine (min_d HB.out.lm a b).mono ?_
  rintro _ w1 ⟨rfl, h1, f1⟩
  have HB1 := Lib.hid (HB.out.ask h1 f1); clear HB h1 f1
  go_wp2_with fail
  refine (min_r HB1.out.ref HB1.out.el a b).mono ?_
  rintro _ w2 ⟨rfl, f2⟩
  have HB2 := Lib.hid (HB1.out.askR f2); clear HB1 f2
  go_wp2_with fail
  refine (meet_d HB2.out.lm a b c).mono ?_
  rintro _ w3 ⟨rfl, h3, f3⟩
  have HB3 := Lib.hid (HB2.out.ask h3 f3); clear HB2 h3 f3
  go_wp2_with fail
  refine (meet_r HB3.out.ref HB3.out.el a b c).mono ?_
  rintro _ w4 ⟨rfl, f4⟩
  have HB4 := Lib.hid (HB3.out.askR f4); clear HB3 f4
  have n1 : (((minI n (EK L) key a b : Nat) : Int) != ((minI n (EK L) key a b : Nat) : Int)) = false := by simp
  have n2 : (((meetI n (EK L) a b c : Nat) : Int) != ((meetI n (EK L) a b c : Nat) : Int)) = false := by simp
  have n3 : (connB n (EK L) a b != connB n (EK L) a b) = false := by simp
  have n4 : (meetB n (EK L) a b c != meetB n (EK L) a b c) = false := by simp
  have n5 : (connB n (EK L) a b == connB n (EK L) a b) = true := by simp
  have HC1 := Lib.hid (fun (w' : World) (h : Both w w' pf g pr vK vL n key L) => connected_d h.lm a b)
  have HC2 := Lib.hid (fun (w' : World) (h : Both w w' pf g pr vK vL n key L) => connected_r h.ref h.el a b)
  generalize minI n (EK L) key a b = mi at *
  generalize meetI n (EK L) a b c = me at *
  generalize connB n (EK L) a b = cb at *
  generalize meetB n (EK L) a b c = mb at *
  go_wp2_with fail
  refine (HC1.out _ HB4.out).mono ?_
  rintro _ w5 ⟨rfl, h5, f5⟩
  have HB5 := Lib.hid (HB4.out.ask h5 f5); clear HB4 h5 f5
  go_wp2_with fail
  refine (HC2.out _ HB5.out).mono ?_
  rintro _ w6 ⟨rfl, f6⟩
  have HB6 := Lib.hid (HB5.out.askR f6); clear HB5 f6 HC1 HC2
  go_wp2_with fail
  refine (pathf_w HB6.out.lm a b).mono ?_
  rintro _ w7 ⟨v7, rfl, r7, o7, h7, f7⟩
  have HB7 := Lib.hid (HB6.out.ask h7 f7); clear HB6 h7 f7
  have R7 := Lib.hid (show RowN w7 v7 _ from r7)
  obtain ⟨a7, c7, rfl⟩ := ownsRow_slice r7
  clear r7 o7
  go_wp2_with fail
  refine (path_r HB7.out.ref HB7.out.el a b).mono ?_
  rintro _ w8 ⟨v8, rfl, r8, o8, f8⟩
  have HB8 := Lib.hid (HB7.out.askR f8)
  have R78 := Lib.hid (R7.out.fr f8 (by simp)); clear HB7 f8 R7
  have R8 := Lib.hid r8
  obtain ⟨a8, c8, rfl⟩ := r8.slice
  clear r8 o8
  have hsm := same_w R78.out R8.out (by omega) (by omega)
  rw [decide_eq_true rfl] at hsm
  have HSm := Lib.hid hsm; clear hsm
  go_wp2_with fail
  refine HSm.out.mono ?_
  rintro _ _ ⟨rfl, k9, rfl⟩
  have HB9 := Lib.hid (HB8.out.drew k9); clear HSm R78 R8 HB8
  have HD1 := Lib.hid (fun (w' : World) (h : Both w w' pf g pr vK vL n key L) => dist_d h.lm b a)
  have HD2 := Lib.hid (fun (w' : World) (h : Both w w' pf g pr vK vL n key L) => dist_r h.ref h.el b a)
  have HS1 := Lib.hid (fun (w' : World) (h : Both w w' pf g pr vK vL n key L) => size_d h.lm c)
  have HS2 := Lib.hid (fun (w' : World) (h : Both w w' pf g pr vK vL n key L) => size_r h.ref h.el c)
  have HT1 := Lib.hid (fun (w' : World) (h : Both w w' pf g pr vK vL n key L) => trees_w h.lm)
  have HT2 := Lib.hid (fun (w' : World) (h : Both w w' pf g pr vK vL n key L) => trees_r h.ref h.el)
  have HK1 := Lib.hid (fun (w' : World) (h : Both w w' pf g pr vK vL n key L) => key_w h.lm a)
  have HK2 := Lib.hid (fun (w' : World) (h : Both w w' pf g pr vK vL n key L) => key_r h.ref a)
  generalize distI n (EK L) b a = di at *
  generalize sizeI n (EK L) c = si at *
  generalize keyI n key a = ki at *
  generalize w8.drewN k9 = w9 at *
  go_wp2_with fail
  refine (HD1.out _ HB9.out).mono ?_
  rintro _ w10 ⟨rfl, h10, f10⟩
  have HB10 := Lib.hid (HB9.out.ask h10 f10); clear HB9 h10 f10
  go_wp2_with fail
  refine (HD2.out _ HB10.out).mono ?_
  rintro _ w11 ⟨rfl, f11⟩
  have HB11 := Lib.hid (HB10.out.askR f11); clear HB10 f11 HD1 HD2
  go_wp2_with fail
  refine (HS1.out _ HB11.out).mono ?_
  rintro _ w12 ⟨rfl, h12, f12⟩
  have HB12 := Lib.hid (HB11.out.ask h12 f12); clear HB11 h12 f12
  go_wp2_with fail
  refine (HS2.out _ HB12.out).mono ?_
  rintro _ w13 ⟨rfl, f13⟩
  have HB13 := Lib.hid (HB12.out.askR f13); clear HB12 f13 HS1 HS2
  go_wp2_with fail
  refine (HT1.out _ HB13.out).mono ?_
  rintro _ _ ⟨rfl, k14, rfl⟩
  have HB14 := Lib.hid (HB13.out.drew k14); clear HB13
  generalize w13.drewN k14 = w14 at *
  go_wp2_with fail
  refine (HT2.out _ HB14.out).mono ?_
  rintro _ _ ⟨rfl, k15, rfl⟩
  have HB15 := Lib.hid (HB14.out.drew k15); clear HB14 HT1 HT2
  generalize w14.drewN k15 = w15 at *
  go_wp2_with fail
  refine (HK1.out _ HB15.out).mono ?_
  rintro _ w16 ⟨rfl, e16⟩
  rw [← e16] at HB15
  clear e16
  go_wp2_with fail
  refine (HK2.out _ HB15.out).mono ?_
  rintro _ w17 ⟨rfl, e17⟩
  rw [← e17] at HB15
  clear e17
  go_wp2
  go_ret
  exact ⟨rfl, HB15.out⟩
end

section
variable {w : World}
theorem nil_valid : Calls Try.prog 60 #[.pointer none] w fun e w' => e = .returned (.bool false) ∧ w' = w := by
  go_enter Try.func60, Try.ntmps60
  go_wp2
  go_ret
  exact ⟨rfl, rfl⟩
theorem nil_has (a : Int) : Calls Try.prog 58 #[.pointer none, .int .i64 a] w fun e w' => e = .returned (.bool false) ∧ w' = w := by
  go_enter Try.func58, Try.ntmps58
  go_wp2_with (go_at_call 60; refine nil_valid.mono ?_; rintro e w' ⟨rfl, rfl⟩)
  go_ret
  exact ⟨rfl, rfl⟩
theorem nil_key (a : Int) : Calls Try.prog 48 #[.pointer none, .int .i64 a] w fun e w' => e = .returned (.int .i64 0) ∧ w' = w := by
  go_enter Try.func48, Try.ntmps48
  go_wp2_with (go_at_call 58; refine (nil_has a).mono ?_; rintro e w' ⟨rfl, rfl⟩)
  go_ret
  exact ⟨rfl, rfl⟩
theorem nil_path (a b : Int) : Calls Try.prog 44 #[.pointer none, .int .i64 a, .int .i64 b] w fun e w' => e = .returned (.slice none 0 0) ∧ w' = w := by
  go_enter Try.func44, Try.ntmps44
  go_wp2_with (go_at_call 58; refine (nil_has a).mono ?_; rintro e w' ⟨rfl, rfl⟩)
  go_ret
  exact ⟨rfl, rfl⟩
theorem nil_connected (a b : Int) : Calls Try.prog 43 #[.pointer none, .int .i64 a, .int .i64 b] w fun e w' => e = .returned (.bool false) ∧ w' = w := by
  go_enter Try.func43, Try.ntmps43
  go_wp2_with (go_at_call 44; refine (nil_path a b).mono ?_; rintro e w' ⟨rfl, rfl⟩)
  go_ret
  exact ⟨rfl, rfl⟩
theorem nil_dist (a b : Int) : Calls Try.prog 45 #[.pointer none, .int .i64 a, .int .i64 b] w fun e w' => e = .returned (.int .i64 (-1)) ∧ w' = w := by
  go_enter Try.func45, Try.ntmps45
  go_wp2_with (go_at_call 44; refine (nil_path a b).mono ?_; rintro e w' ⟨rfl, rfl⟩)
  go_ret
  exact ⟨rfl, rfl⟩
theorem nil_min (a b : Int) : Calls Try.prog 41 #[.pointer none, .int .i64 a, .int .i64 b] w fun e w' => e = .returned (.tuple #[.int .i64 0, .bool false]) ∧ w' = w := by
  go_enter Try.func41, Try.ntmps41
  go_wp2_with (go_at_call 44; refine (nil_path a b).mono ?_; rintro e w' ⟨rfl, rfl⟩)
  go_ret2
  exact ⟨rfl, rfl⟩
theorem nil_size (a : Int) : Calls Try.prog 46 #[.pointer none, .int .i64 a] w fun e w' => e = .returned (.int .i64 0) ∧ w' = w := by
  go_enter Try.func46, Try.ntmps46
  go_wp2_with (go_at_call 58; refine (nil_has a).mono ?_; rintro e w' ⟨rfl, rfl⟩)
  go_ret
  exact ⟨rfl, rfl⟩
theorem nil_trees : Calls Try.prog 47 #[.pointer none] w fun e w' => e = .returned (.int .i64 0) ∧ w' = w := by
  go_enter Try.func47, Try.ntmps47
  go_wp2_with (go_at_call 60; refine nil_valid.mono ?_; rintro e w' ⟨rfl, rfl⟩)
  go_ret
  exact ⟨rfl, rfl⟩
theorem nil_meet (a b c : Int) : Calls Try.prog 42 #[.pointer none, .int .i64 a, .int .i64 b, .int .i64 c] w fun e w' => e = .returned (.tuple #[.int .i64 0, .bool false]) ∧ w' = w := by
  go_enter Try.func42, Try.ntmps42
  go_wp2_with fail
  refine (nil_path a b).mono ?_
  rintro _ w ⟨rfl, rfl⟩
  go_wp2_with fail
  refine (nil_path b c).mono ?_
  rintro _ w ⟨rfl, rfl⟩
  go_wp2_with fail
  refine (nil_path c a).mono ?_
  rintro _ w ⟨rfl, rfl⟩
  go_wp2
  go_loopw [13] (fun si wr => wr = w ∧ si = .int .i64 0) (fun _ _ => 0)
  case atStart => exact ⟨rfl, rfl⟩
  case round =>
    obtain ⟨rfl, rfl⟩ := hrel
    go_wp2
    go_ret2
    exact ⟨rfl, rfl⟩

theorem nil_agree (a b c : Int) :
    Calls Try.prog 25 #[.pointer none, .pointer none, .int .i64 a, .int .i64 b, .int .i64 c] w fun e w' => e = .returned (.bool true) ∧ Below w.heap.size w w' := by
  have hB : BadF w none := .inl rfl
  have HR := Lib.hid (show RowN w (.slice none 0 0) [] from World.ownsRow_nil _ _ _ _)
  have HSm := Lib.hid (same_w HR.out HR.out (by simp) (by simp)); clear HR
  rw [decide_eq_true rfl] at HSm
  go_enter Try.func25, Try.ntmps25
  go_wp2_with fail
  refine (bad_min hB a b).mono ?_
  rintro _ w ⟨rfl, rfl⟩
  go_wp2_with fail
  refine (nil_min a b).mono ?_
  rintro _ w ⟨rfl, rfl⟩
  go_wp2_with fail
  refine (bad_meet hB a b c).mono ?_
  rintro _ w ⟨rfl, rfl⟩
  go_wp2_with fail
  refine (nil_meet a b c).mono ?_
  rintro _ w ⟨rfl, rfl⟩
  go_wp2_with fail
  refine (bad_connected hB a b).mono ?_
  rintro _ w ⟨rfl, rfl⟩
  go_wp2_with fail
  refine (nil_connected a b).mono ?_
  rintro _ w ⟨rfl, rfl⟩
  go_wp2_with fail
  refine (bad_path hB a b).mono ?_
  rintro _ w ⟨rfl, rfl⟩
  go_wp2_with fail
  refine (nil_path a b).mono ?_
  rintro _ w ⟨rfl, rfl⟩
  go_wp2_with fail
  refine HSm.out.mono ?_
  rintro _ _ ⟨rfl, k, rfl⟩
  have hB : BadF (w.drewN k) none := .inl rfl
  go_wp2_with fail
  refine (bad_dist hB b a).mono ?_
  rintro _ w1 ⟨rfl, rfl⟩
  go_wp2_with fail
  refine (nil_dist b a).mono ?_
  rintro _ w1 ⟨rfl, rfl⟩
  go_wp2_with fail
  refine (bad_size hB c).mono ?_
  rintro _ w1 ⟨rfl, rfl⟩
  go_wp2_with fail
  refine (nil_size c).mono ?_
  rintro _ w1 ⟨rfl, rfl⟩
  go_wp2_with fail
  refine (bad_trees hB).mono ?_
  rintro _ w1 ⟨rfl, rfl⟩
  go_wp2_with fail
  refine nil_trees.mono ?_
  rintro _ w1 ⟨rfl, rfl⟩
  go_wp2_with fail
  refine (bad_key hB a).mono ?_
  rintro _ w1 ⟨rfl, rfl⟩
  go_wp2_with fail
  refine (nil_key a).mono ?_
  rintro _ w1 ⟨rfl, rfl⟩
  go_wp2
  go_ret
  exact ⟨rfl, (Fr.below ((Fr.refl [] w).drewN k) (by simp))⟩
end
end Go.Proofs.Ytoppjjgecgbbkaa
