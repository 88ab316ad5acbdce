/- The statement 'ForestExpires': for every input the call returns true, and each argument reads afterwards as it read before. -/
import Derived.Test.YthkkelkgfkehlaaForestExpiresZ1
import Derived.Test.YthkkelkgfkehlaaB1
/- ForestExpires: the walk. -/
namespace Go.Proofs.Ythkkelkgfkehlaa
open Go.RowKit Classical
set_option maxRecDepth 10000
set_option maxHeartbeats 1600000

theorem walk_forestExpires (W : World) (n : Int) (_ : (Lit.int .i64 n).wf = true) (a : Option Addr) (len cap : Nat) (z : Nat → Int × Int × Int) (hz : EdgesF W a len z) :
    Calls Try.prog 8 #[.int .i64 n, .slice a len cap] W fun e w' => e = .returned (.bool true) ∧ Below W.heap.size W w' := by
  have HS := Lib.hid (small_w36 W n a len cap hz.1)
  have HWk := Lib.hid (fun w => works_w w)
  cases hsm : smallF n len with
  | false =>
    rw [hsm] at HS
    clear hz hsm
    go_enter Try.func8, Try.ntmps8
    go_wp2_with fail
    refine HS.out.mono ?_
    rintro _ w1 ⟨rfl, rfl⟩
    go_wp2_with fail
    refine (HWk.out _).mono ?_
    rintro _ w2 ⟨rfl, hf⟩
    have HF := Lib.hid hf; clear hf
    go_wp2_with fail
    go_ret
    exact ⟨rfl, HF.out.below (by simp)⟩
  | true =>
    rw [hsm] at HS
    obtain ⟨n, rfl, hn, hl⟩ := small_true hsm
    have HG1 := Lib.hid (grown_w36 W W (Fr.refl _ _) n hn a len cap hl z hz false)
    have HZ := Lib.hid hz
    clear hz hsm
    go_enter Try.func8, Try.ntmps8
    go_wp2_with fail
    refine HS.out.mono ?_
    rintro _ w0 ⟨rfl, rfl⟩
    go_wp2_with fail
    refine HG1.out.mono ?_
    rintro _ w1 ⟨pf, tb, rfl, L, hO, hF, hQ, hB, ht, hnL⟩
    have H1 := Lib.hid (show LK w0 w1 pf len n (EG len n z fun _ => True) tb (fun t => okE n (z t)) from ⟨L, hO, hB, ht, hnL⟩)
    clear hO hF hQ hB ht hnL HG1 HS
    go_wp2_with fail
    go_loopw [7, 8] (fun e x wr => ∃ i : Nat, i ≤ len ∧ x = .int .i64 i ∧ e = .int .i64 (cntT i fun t => okE n (z t) = true : Nat) ∧ Hid (LK w0 wr pf len n (EG len n z fun _ => True) tb (fun t => okE n (z t)))) (fun _ x _ => len - (intOf x).toNat)
    case atStart => exact ⟨0, Nat.zero_le _, rfl, rfl, H1⟩
    case round =>
      clear H1
      obtain ⟨i, hi, rfl, rfl, H⟩ := hrel
      by_cases hlt : i < len
      · have hlt' : (i : Int) < len := by omega
        have hw1 : IntKind.i64.wrap ((i : Int) + 1) = ((i + 1 : Nat) : Int) := by rw [show (i : Int) + 1 = ((i + 1 : Nat) : Int) by omega]; exact IntWalk.i64_in _ (by omega)
        have t0 := H.out.blk.cell i
        rw [bRow_at _ hlt] at t0
        have c1 := cntT_succ i fun t => okE n (z t) = true
        have b1 := cntT_le i fun t => okE n (z t) = true
        have C1 := Lib.hid c1
        clear c1
        generalize (cntT i fun t => okE n (z t) = true) = e1 at *
        have hw2 : IntKind.i64.wrap ((e1 : Int) + 1) = ((e1 + 1 : Nat) : Int) := by rw [show (e1 : Int) + 1 = ((e1 + 1 : Nat) : Int) by omega]; exact IntWalk.i64_in _ (by omega)
        cases ho : okE n (z i) with
        | false =>
          rw [ho] at t0
          have D1 := C1.out; rw [if_neg (by simp [ho])] at D1
          have HD := Lib.hid D1
          clear ho D1
          go_wp2_with fail
          go_roundw
          case rel => exact ⟨i + 1, by omega, rfl, by rw [HD.out]; rfl, H⟩
          case measure => simp [intOf]; omega
        | true =>
          rw [ho] at t0
          have D1 := C1.out; rw [if_pos ho] at D1
          have HD := Lib.hid D1
          clear ho D1
          go_wp2_with fail
          go_roundw
          case rel => exact ⟨i + 1, by omega, rfl, by rw [HD.out]; rfl, H⟩
          case measure => simp [intOf]; omega
      · obtain rfl : i = len := by omega
        have hE1 : ∃ c0, c0 = cntT i fun t => okE n (z t) = true := ⟨_, rfl⟩
        obtain ⟨c0, hE1⟩ := hE1
        rw [← hE1]
        have hb1 : c0 ≤ i := by rw [hE1]; exact cntT_le _ _
        have HE := Lib.hid hE1; clear hE1
        obtain ⟨l0, hl0⟩ : ∃ l0 : Int, l0 = -1 := ⟨_, rfl⟩
        have HP0 : Hid (∃ P : Nat → Prop, LK w0 wr pf i n (EG i n z P) tb (fun t => pB P t && okE n (z t)) ∧ (cntT i fun t => okE n (z t) = true ∧ ¬ P t) = 0 ∧ (l0 = -1 ∨ ∃ u : Nat, l0 = u ∧ u < i ∧ okE n (z u) = true ∧ ∀ t, t < i → okE n (z t) = true → P t → ¬ bef (z t).2.2 t (z u).2.2 u)) := Lib.hid ⟨fun _ => True, by simpa [pB] using H.out, by rw [cntT_congr (T' := fun _ => False) (fun t => by simp), cntT_none], .inl hl0⟩
        have HL0 := Lib.hid hl0; clear hl0
        clear H
        go_wp2_with fail
        go_loopw [7, 9] (fun x y wr => ∃ (q : Nat) (lv : Int), q ≤ c0 ∧ x = .int .i64 ((c0 - q : Nat) : Int) ∧ y = .int .i64 lv ∧ Hid (∃ P : Nat → Prop, LK w0 wr pf i n (EG i n z P) tb (fun t => pB P t && okE n (z t)) ∧ (cntT i fun t => okE n (z t) = true ∧ ¬ P t) = q ∧ (lv = -1 ∨ ∃ u : Nat, lv = u ∧ u < i ∧ okE n (z u) = true ∧ ∀ t, t < i → okE n (z t) = true → P t → ¬ bef (z t).2.2 t (z u).2.2 u))) (fun x _ _ => (intOf x).toNat)
        case atStart => exact ⟨0, l0, Nat.zero_le _, by simp, by rw [HL0.out], HP0⟩
        case round =>
          clear HP0
          obtain ⟨q, lv, hq, rfl, rfl, HP⟩ := hrel
          by_cases hlt : q < c0
          · have hlt' : (0 : Int) < ((c0 - q : Nat) : Int) := by omega
            obtain ⟨P, h1, h2, h3⟩ := HP.out
            obtain ⟨m, p1, p2, p3, p4, p5, p6, p7, p8, p9⟩ := pop_next (S := i) (V := n) (z := z) (P := P) (D := fun _ => True) (fun _ _ _ _ _ _ => trivial) (fun _ _ _ _ => trivial) (by
              have e : (cntT i fun t => okE n (z t) = true ∧ True) = c0 := by rw [HE.out]; exact cntT_congr fun t => by simp
              rw [h2, e]; exact hlt)
            have htp := tree_pop p1 p2 p3 p7
            have A1 := Lib.hid h1.edges
            have HM := Lib.hid (And.intro p1 (And.intro p2 (And.intro p3 (And.intro p5 (And.intro p6 (And.intro p7 (And.intro p9 (And.intro h2 (And.intro h3 htp)))))))))
            clear h1 h2 h3 p1 p2 p3 p4 p5 p6 p7 p8 p9 htp HP
            go_wp2_with fail
            refine A1.out.mono ?_
            rintro _ w2 ⟨v, rfl, r1, r2, r3, r4⟩
            have A2 := r3.exp r1 r2
            have HVt := Lib.hid (fun q (hq : v.ownBlock = some q) => (show tb ≠ q by have := r2 q hq; obtain ⟨_, _, _, _, _, _, h⟩ := r3; omega))
            rw [HM.out.2.2.2.1, HM.out.2.2.2.2.1] at A2
            have A2 := Lib.hid A2
            clear r1 r2 r3 r4 A1
            go_wp2_with fail
            refine A2.out.mono ?_
            rintro _ w3 ⟨rfl, h5, hv5⟩
            have hmi := HM.out.1
            have hmi' : (m : Int) < i := by omega
            have hm0 : ¬ (m : Int) < 0 := by omega
            have hm1 : ¬ i ≤ m := by omega
            have hm2 : ¬ (i : Int) ≤ m := by omega
            have t0 := h5.blk.cell m
            have t1 := h5.blk.frozen m
            rw [bRow_at _ hmi, show (pB P m && okE n (z m)) = true by rw [pB_iff.2 HM.out.2.2.1, HM.out.2.1]; rfl] at t0
            have hset := fun (nq : Nat) => (h5.keep ((Fr.refl [] w3).drewN nq)).set m false
            rw [show updT (fun t => pB P t && okE n (z t)) m false = fun t => pB (fun t => P t ∧ t ≠ m) t && okE n (z t) by
              funext t
              unfold updT
              by_cases e : t = m
              · rw [if_pos e]; simp [e, pB]
              · rw [if_neg e]; simp [e, pB]] at hset
            have hfs : ∀ nq, Fr [tb] w3 ((w3.drewN nq).setCell ⟨tb, m, none⟩ (.bool false)) := fun nq => ((Fr.refl _ _).drewN nq).setCell _ _ (.inl (by simp))
            have H5 := Lib.hid (And.intro h5 (And.intro hset (fun nq => hv5.fr (hfs nq) (fun q hq hm => by simp at hm; exact HVt.out q hq hm.symm))))
            clear h5 hset hv5 A2 hfs
            have HFin : Hid (∀ (w4 : World), LK w0 w4 pf i n (EG i n z fun t => P t ∧ t ≠ m) tb (fun t => pB (fun t => P t ∧ t ≠ m) t && okE n (z t)) → ∃ (q' : Nat) (lv' : Int), q' ≤ c0 ∧ Value.int .i64 ((c0 - q - 1 : Nat) : Int) = .int .i64 ((c0 - q' : Nat) : Int) ∧ Value.int .i64 (m : Int) = .int .i64 lv' ∧ Hid (∃ P : Nat → Prop, LK w0 w4 pf i n (EG i n z P) tb (fun t => pB P t && okE n (z t)) ∧ (cntT i fun t => okE n (z t) = true ∧ ¬ P t) = q' ∧ (lv' = -1 ∨ ∃ u : Nat, lv' = u ∧ u < i ∧ okE n (z u) = true ∧ ∀ t, t < i → okE n (z t) = true → P t → ¬ bef (z t).2.2 t (z u).2.2 u))) := Lib.hid (fun w4 h4 =>
              ⟨q + 1, m, by omega, by rw [show c0 - q - 1 = c0 - (q + 1) by omega], rfl, Lib.hid ⟨_, h4, by rw [HM.out.2.2.2.2.2.2.1, HM.out.2.2.2.2.2.2.2.1], .inr ⟨m, rfl, HM.out.1, HM.out.2.1, fun t h1 h2 h3 => HM.out.2.2.2.2.2.1 t h1 h2 h3.1⟩⟩⟩)
            have hwl : IntKind.i64.wrap (((c0 - q : Nat) : Int) - 1) = ((c0 - q - 1 : Nat) : Int) := by rw [show ((c0 - q : Nat) : Int) - 1 = ((c0 - q - 1 : Nat) : Int) by omega]; exact IntWalk.i64_in _ (by omega)
            rcases HM.out.2.2.2.2.2.2.2.2.1 with e | ⟨u, e, hu, hou, hnb⟩
            · subst e
              go_wp2_with fail
              go_quiet (fail)
              rename Nat => nq
              go_wp2_with fail
              have hr4 := H5.out.2.2 nq
              have HL4 := Lib.hid (And.intro (H5.out.2.1 nq) hr4)
              have hvl := fun q (hq : v.ownBlock = some q) => ownsRow_lt hr4 hq
              have HV := Lib.hid hvl
              clear hvl hr4 t0 t1
              generalize (w3.drewN nq).setCell ⟨tb, m, none⟩ (.bool false) = w4 at *
              have HWs := Lib.hid HL4.out.1.fr.size
              obtain ⟨ws, hws⟩ : ∃ ws, ws = treeL i (EG i n z P) := ⟨_, rfl⟩
              have hwl : ws.length ≤ i := by rw [hws]; exact treeL_le _ _
              have HW := Lib.hid hws
              rw [← hws] at HL4
              clear hws
              go_loopw [13, 14] (fun u y wr => ∃ k : Nat, k ≤ ws.length ∧ y = .int .i64 k ∧ Hid (LKm w0 wr pf i n (EG i n z fun t => P t ∧ t ≠ m) tb (fun t => pB (fun t => P t ∧ t ≠ m) t && okE n (z t)) w4.heap.size ∧ RowN wr v ws ∧ (∀ q, u.ownBlock = some q → w4.heap.size ≤ q) ∧ Fr [] w4 wr) ∧ wr.ownsRow 0 3 1 u ((ws.take k).filter fun t => decide (t ≠ m)).length (encT ((ws.take k).filter fun t => decide (t ≠ m)))) (fun _ y _ => ws.length - (intOf y).toNat)
              case atStart => exact ⟨0, Nat.zero_le _, rfl, Lib.hid ⟨HL4.out.1.now, HL4.out.2, (fun q e => by cases e), Fr.refl _ _⟩, ⟨rfl, .inl ⟨rfl, rfl⟩⟩⟩
              case round =>
                clear HL4
                obtain ⟨k, hk, rfl, HK, hown⟩ := hrel
                obtain ⟨a8, c8, rfl⟩ := ownsRow_slice hown
                obtain ⟨av, cv, rfl⟩ := HK.out.2.1.slice
                have hfl := List.length_filter_le (fun t => decide (t ≠ m)) (ws.take k)
                have htk := List.length_take_le k ws
                by_cases hlt : k < ws.length
                · have hlt' : (k : Int) < ws.length := by omega
                  have hw1 : IntKind.i64.wrap ((k : Int) + 1) = ((k + 1 : Nat) : Int) := by rw [show (k : Int) + 1 = ((k + 1 : Nat) : Int) by omega]; exact IntWalk.i64_in _ (by omega)
                  obtain ⟨bv, cv', ev, _, r0⟩ := HK.out.2.1.at hlt
                  simp only [Value.slice.injEq, true_and] at ev
                  obtain ⟨rfl, rfl⟩ := ev
                  have hst : (ws.take (k + 1)).filter (fun t => decide (t ≠ m)) = (ws.take k).filter (fun t => decide (t ≠ m)) ++ if ws[k] ≠ m then [ws[k]] else [] := by
                    rw [List.take_add_one, List.getElem?_eq_getElem hlt, List.filter_append]
                    congr 1
                    by_cases e : ws[k] = m <;> simp [e]
                  generalize ws[k] = s at *
                  by_cases e : s = m
                  · have d1 : ((s : Int) != (m : Int)) = false := by simp [e]
                    rw [if_neg (fun h => h e), List.append_nil] at hst
                    have HST := Lib.hid hst
                    have HO := Lib.hid hown
                    clear hst hown e
                    go_wp2_with fail
                    go_roundw
                    case rel => exact ⟨k + 1, by omega, rfl, HK, by rw [HST.out]; exact HO.out⟩
                    case measure => simp [intOf]; omega
                  · have d1 : ((s : Int) != (m : Int)) = true := by simp; omega
                    rw [if_pos e] at hst
                    have HST := Lib.hid hst
                    clear hst e
                    generalize (ws.take k).filter (fun t => decide (t ≠ m)) = us at *
                    have hown2 := hown.alloc (.cells #[.int .i64 s] 3)
                    have HO2 := Lib.hid hown2; clear hown2 hown
                    go_wp2_with (first | (at_builtin; refine wpList_app1 rfl _ _ 40 rfl 3 (.int .i64 0) 8 Try.underlying40 Try.info3 rfl (.slice a8 us.length c8) us.length _ rfl HO2.out wr.heap.size (.int .i64 s) rfl (cell_new1 _ _ _ _ rfl) rfl (by omega) (by decide) ?_; intro g' cap' w5 hown5 hgrow5 hg5; have hF5 : Fr (Value.slice a8 us.length c8).ownBlock.toList wr w5 := ((Fr.refl _ _).alloc _).grown hgrow5 (fun q e => .inl (by simp [e]))) | fail)
                    go_roundw
                    case rel =>
                      have hb : ∀ q ∈ (Value.slice a8 us.length c8).ownBlock.toList, w4.heap.size ≤ q := fun q hq => HK.out.2.2.1 q (by simpa using hq)
                      have hs4 : w4.heap.size ≤ wr.heap.size := HK.out.2.2.2.size
                      refine ⟨k + 1, by omega, rfl, Lib.hid ⟨HK.out.1.keep hF5 hb (fun q hq => by have := hb q hq; have := HWs.out; omega), HK.out.2.1.fr hF5 (fun q hq hm => by have := hb q hm; have := HV.out q hq; omega), fun q e => ?_, HK.out.2.2.2.trans hF5 (fun q hq => .inr (hb q hq))⟩, ?_⟩
                      · simp only [Value.ownBlock, Option.some.injEq] at e
                        subst e
                        simp only [World.size_alloc] at hg5
                        rcases hg5 with e | e
                        · exact HK.out.2.2.1 _ e
                        · omega
                      · rw [HST.out, List.length_append]
                        have : encT (us ++ [s]) = encT us ++ [.int .i64 s] := by simp [encT]
                        rw [this]; exact hown5
                    case measure => simp [intOf]; omega
                · obtain rfl : k = ws.length := by omega
                  rw [List.take_of_length_le (Nat.le_refl _)] at hown
                  rw [List.take_of_length_le (Nat.le_refl _)]
                  have hwf : ws.filter (fun t => decide (t ≠ m)) = treeL i (EG i n z fun t => P t ∧ t ≠ m) := by
                    rw [HW.out]; exact HM.out.2.2.2.2.2.2.2.2.2.symm
                  rw [hwf] at hown
                  rw [hwf]
                  have A5 := Lib.hid HK.out.1.lk.edges
                  have HO := Lib.hid (show RowN wr _ _ from hown)
                  clear hown hwf hfl htk
                  have htl := treeL_le i (EG i n z fun t => P t ∧ t ≠ m)
                  go_wp2_with fail
                  refine A5.out.mono ?_
                  rintro _ w6 ⟨v2, rfl, r1, r2, r3, r4⟩
                  have hSame := same_w r1 (HO.out.fr r4 (by simp)) (by omega) (by omega)
                  rw [decide_eq_true rfl] at hSame
                  have A6 := Lib.hid hSame
                  have H6 := Lib.hid r3.lk
                  clear r1 r2 r3 r4 A5 hSame
                  go_wp2_with fail
                  refine A6.out.mono ?_
                  rintro _ w7 ⟨rfl, k7, rfl⟩
                  have A7 := (H6.out.keep ((Fr.refl [] w6).drewN k7)).len
                  have hlen := len_eg (S := i) (V := n) (z := z) (P := fun t => P t ∧ t ≠ m)
                  rw [HM.out.2.2.2.2.2.2.1, HM.out.2.2.2.2.2.2.2.1, ← HE.out] at hlen
                  rw [show lenG i (EG i n z fun t => P t ∧ t ≠ m) = c0 - q - 1 by omega] at A7
                  have A7 := Lib.hid A7
                  clear hlen A6
                  go_wp2_with fail
                  refine A7.out.mono ?_
                  rintro _ w8 ⟨rfl, h8, _⟩
                  have H8 := Lib.hid h8; clear h8 A7
                  go_wp2_with fail
                  go_roundw
                  case rel => exact HFin.out _ H8.out
                  case measure => simp [intOf]; omega
            · subst e
              obtain ⟨b, off, rfl, _, _, _, xm, _⟩ := (HZ.out.fr H5.out.1.fr).2 m hmi
              obtain ⟨b', off', e, _, _, _, xu, _⟩ := (HZ.out.fr H5.out.1.fr).2 u hu
              cases e
              have hnb := hnb m hmi HM.out.2.1 HM.out.2.2.1
              have hui' : (u : Int) < i := by omega
              generalize (z m).2.2 = xm' at *
              generalize (z u).2.2 = xu' at *
              unfold bef at hnb
              have d1 : decide (xm' < xu') = false := decide_eq_false (by omega)
              by_cases hx : xm' = xu'
              · have d2 : ¬ m < u := by omega
                have d3 : ¬ (m : Int) < u := by omega
                clear hnb
                go_wp2_with fail
                go_quiet (fail)
                rename Nat => nq
                go_wp2_with fail
                have hr4 := H5.out.2.2 nq
                have HL4 := Lib.hid (And.intro (H5.out.2.1 nq) hr4)
                have hvl := fun q (hq : v.ownBlock = some q) => ownsRow_lt hr4 hq
                have HV := Lib.hid hvl
                clear hvl hr4 t0 t1
                generalize (w3.drewN nq).setCell ⟨tb, m, none⟩ (.bool false) = w4 at *
                have HWs := Lib.hid HL4.out.1.fr.size
                obtain ⟨ws, hws⟩ : ∃ ws, ws = treeL i (EG i n z P) := ⟨_, rfl⟩
                have hwl : ws.length ≤ i := by rw [hws]; exact treeL_le _ _
                have HW := Lib.hid hws
                rw [← hws] at HL4
                clear hws
                go_loopw [13, 14] (fun u y wr => ∃ k : Nat, k ≤ ws.length ∧ y = .int .i64 k ∧ Hid (LKm w0 wr pf i n (EG i n z fun t => P t ∧ t ≠ m) tb (fun t => pB (fun t => P t ∧ t ≠ m) t && okE n (z t)) w4.heap.size ∧ RowN wr v ws ∧ (∀ q, u.ownBlock = some q → w4.heap.size ≤ q) ∧ Fr [] w4 wr) ∧ wr.ownsRow 0 3 1 u ((ws.take k).filter fun t => decide (t ≠ m)).length (encT ((ws.take k).filter fun t => decide (t ≠ m)))) (fun _ y _ => ws.length - (intOf y).toNat)
                case atStart => exact ⟨0, Nat.zero_le _, rfl, Lib.hid ⟨HL4.out.1.now, HL4.out.2, (fun q e => by cases e), Fr.refl _ _⟩, ⟨rfl, .inl ⟨rfl, rfl⟩⟩⟩
                case round =>
                  clear HL4
                  obtain ⟨k, hk, rfl, HK, hown⟩ := hrel
                  obtain ⟨a8, c8, rfl⟩ := ownsRow_slice hown
                  obtain ⟨av, cv, rfl⟩ := HK.out.2.1.slice
                  have hfl := List.length_filter_le (fun t => decide (t ≠ m)) (ws.take k)
                  have htk := List.length_take_le k ws
                  by_cases hlt : k < ws.length
                  · have hlt' : (k : Int) < ws.length := by omega
                    have hw1 : IntKind.i64.wrap ((k : Int) + 1) = ((k + 1 : Nat) : Int) := by rw [show (k : Int) + 1 = ((k + 1 : Nat) : Int) by omega]; exact IntWalk.i64_in _ (by omega)
                    obtain ⟨bv, cv', ev, _, r0⟩ := HK.out.2.1.at hlt
                    simp only [Value.slice.injEq, true_and] at ev
                    obtain ⟨rfl, rfl⟩ := ev
                    have hst : (ws.take (k + 1)).filter (fun t => decide (t ≠ m)) = (ws.take k).filter (fun t => decide (t ≠ m)) ++ if ws[k] ≠ m then [ws[k]] else [] := by
                      rw [List.take_add_one, List.getElem?_eq_getElem hlt, List.filter_append]
                      congr 1
                      by_cases e : ws[k] = m <;> simp [e]
                    generalize ws[k] = s at *
                    by_cases e : s = m
                    · have d1 : ((s : Int) != (m : Int)) = false := by simp [e]
                      rw [if_neg (fun h => h e), List.append_nil] at hst
                      have HST := Lib.hid hst
                      have HO := Lib.hid hown
                      clear hst hown e
                      go_wp2_with fail
                      go_roundw
                      case rel => exact ⟨k + 1, by omega, rfl, HK, by rw [HST.out]; exact HO.out⟩
                      case measure => simp [intOf]; omega
                    · have d1 : ((s : Int) != (m : Int)) = true := by simp; omega
                      rw [if_pos e] at hst
                      have HST := Lib.hid hst
                      clear hst e
                      generalize (ws.take k).filter (fun t => decide (t ≠ m)) = us at *
                      have hown2 := hown.alloc (.cells #[.int .i64 s] 3)
                      have HO2 := Lib.hid hown2; clear hown2 hown
                      go_wp2_with (first | (at_builtin; refine wpList_app1 rfl _ _ 40 rfl 3 (.int .i64 0) 8 Try.underlying40 Try.info3 rfl (.slice a8 us.length c8) us.length _ rfl HO2.out wr.heap.size (.int .i64 s) rfl (cell_new1 _ _ _ _ rfl) rfl (by omega) (by decide) ?_; intro g' cap' w5 hown5 hgrow5 hg5; have hF5 : Fr (Value.slice a8 us.length c8).ownBlock.toList wr w5 := ((Fr.refl _ _).alloc _).grown hgrow5 (fun q e => .inl (by simp [e]))) | fail)
                      go_roundw
                      case rel =>
                        have hb : ∀ q ∈ (Value.slice a8 us.length c8).ownBlock.toList, w4.heap.size ≤ q := fun q hq => HK.out.2.2.1 q (by simpa using hq)
                        have hs4 : w4.heap.size ≤ wr.heap.size := HK.out.2.2.2.size
                        refine ⟨k + 1, by omega, rfl, Lib.hid ⟨HK.out.1.keep hF5 hb (fun q hq => by have := hb q hq; have := HWs.out; omega), HK.out.2.1.fr hF5 (fun q hq hm => by have := hb q hm; have := HV.out q hq; omega), fun q e => ?_, HK.out.2.2.2.trans hF5 (fun q hq => .inr (hb q hq))⟩, ?_⟩
                        · simp only [Value.ownBlock, Option.some.injEq] at e
                          subst e
                          simp only [World.size_alloc] at hg5
                          rcases hg5 with e | e
                          · exact HK.out.2.2.1 _ e
                          · omega
                        · rw [HST.out, List.length_append]
                          have : encT (us ++ [s]) = encT us ++ [.int .i64 s] := by simp [encT]
                          rw [this]; exact hown5
                      case measure => simp [intOf]; omega
                  · obtain rfl : k = ws.length := by omega
                    rw [List.take_of_length_le (Nat.le_refl _)] at hown
                    rw [List.take_of_length_le (Nat.le_refl _)]
                    have hwf : ws.filter (fun t => decide (t ≠ m)) = treeL i (EG i n z fun t => P t ∧ t ≠ m) := by
                      rw [HW.out]; exact HM.out.2.2.2.2.2.2.2.2.2.symm
                    rw [hwf] at hown
                    rw [hwf]
                    have A5 := Lib.hid HK.out.1.lk.edges
                    have HO := Lib.hid (show RowN wr _ _ from hown)
                    clear hown hwf hfl htk
                    have htl := treeL_le i (EG i n z fun t => P t ∧ t ≠ m)
                    go_wp2_with fail
                    refine A5.out.mono ?_
                    rintro _ w6 ⟨v2, rfl, r1, r2, r3, r4⟩
                    have hSame := same_w r1 (HO.out.fr r4 (by simp)) (by omega) (by omega)
                    rw [decide_eq_true rfl] at hSame
                    have A6 := Lib.hid hSame
                    have H6 := Lib.hid r3.lk
                    clear r1 r2 r3 r4 A5 hSame
                    go_wp2_with fail
                    refine A6.out.mono ?_
                    rintro _ w7 ⟨rfl, k7, rfl⟩
                    have A7 := (H6.out.keep ((Fr.refl [] w6).drewN k7)).len
                    have hlen := len_eg (S := i) (V := n) (z := z) (P := fun t => P t ∧ t ≠ m)
                    rw [HM.out.2.2.2.2.2.2.1, HM.out.2.2.2.2.2.2.2.1, ← HE.out] at hlen
                    rw [show lenG i (EG i n z fun t => P t ∧ t ≠ m) = c0 - q - 1 by omega] at A7
                    have A7 := Lib.hid A7
                    clear hlen A6
                    go_wp2_with fail
                    refine A7.out.mono ?_
                    rintro _ w8 ⟨rfl, h8, _⟩
                    have H8 := Lib.hid h8; clear h8 A7
                    go_wp2_with fail
                    go_roundw
                    case rel => exact HFin.out _ H8.out
                    case measure => simp [intOf]; omega
              · have d2 : (xm' == xu') = false := by simp [hx]
                clear hnb
                go_wp2_with fail
                go_quiet (fail)
                rename Nat => nq
                go_wp2_with fail
                have hr4 := H5.out.2.2 nq
                have HL4 := Lib.hid (And.intro (H5.out.2.1 nq) hr4)
                have hvl := fun q (hq : v.ownBlock = some q) => ownsRow_lt hr4 hq
                have HV := Lib.hid hvl
                clear hvl hr4 t0 t1
                generalize (w3.drewN nq).setCell ⟨tb, m, none⟩ (.bool false) = w4 at *
                have HWs := Lib.hid HL4.out.1.fr.size
                obtain ⟨ws, hws⟩ : ∃ ws, ws = treeL i (EG i n z P) := ⟨_, rfl⟩
                have hwl : ws.length ≤ i := by rw [hws]; exact treeL_le _ _
                have HW := Lib.hid hws
                rw [← hws] at HL4
                clear hws
                go_loopw [13, 14] (fun u y wr => ∃ k : Nat, k ≤ ws.length ∧ y = .int .i64 k ∧ Hid (LKm w0 wr pf i n (EG i n z fun t => P t ∧ t ≠ m) tb (fun t => pB (fun t => P t ∧ t ≠ m) t && okE n (z t)) w4.heap.size ∧ RowN wr v ws ∧ (∀ q, u.ownBlock = some q → w4.heap.size ≤ q) ∧ Fr [] w4 wr) ∧ wr.ownsRow 0 3 1 u ((ws.take k).filter fun t => decide (t ≠ m)).length (encT ((ws.take k).filter fun t => decide (t ≠ m)))) (fun _ y _ => ws.length - (intOf y).toNat)
                case atStart => exact ⟨0, Nat.zero_le _, rfl, Lib.hid ⟨HL4.out.1.now, HL4.out.2, (fun q e => by cases e), Fr.refl _ _⟩, ⟨rfl, .inl ⟨rfl, rfl⟩⟩⟩
                case round =>
                  clear HL4
                  obtain ⟨k, hk, rfl, HK, hown⟩ := hrel
                  obtain ⟨a8, c8, rfl⟩ := ownsRow_slice hown
                  obtain ⟨av, cv, rfl⟩ := HK.out.2.1.slice
                  have hfl := List.length_filter_le (fun t => decide (t ≠ m)) (ws.take k)
                  have htk := List.length_take_le k ws
                  by_cases hlt : k < ws.length
                  · have hlt' : (k : Int) < ws.length := by omega
                    have hw1 : IntKind.i64.wrap ((k : Int) + 1) = ((k + 1 : Nat) : Int) := by rw [show (k : Int) + 1 = ((k + 1 : Nat) : Int) by omega]; exact IntWalk.i64_in _ (by omega)
                    obtain ⟨bv, cv', ev, _, r0⟩ := HK.out.2.1.at hlt
                    simp only [Value.slice.injEq, true_and] at ev
                    obtain ⟨rfl, rfl⟩ := ev
                    have hst : (ws.take (k + 1)).filter (fun t => decide (t ≠ m)) = (ws.take k).filter (fun t => decide (t ≠ m)) ++ if ws[k] ≠ m then [ws[k]] else [] := by
                      rw [List.take_add_one, List.getElem?_eq_getElem hlt, List.filter_append]
                      congr 1
                      by_cases e : ws[k] = m <;> simp [e]
                    generalize ws[k] = s at *
                    by_cases e : s = m
                    · have d1 : ((s : Int) != (m : Int)) = false := by simp [e]
                      rw [if_neg (fun h => h e), List.append_nil] at hst
                      have HST := Lib.hid hst
                      have HO := Lib.hid hown
                      clear hst hown e
                      go_wp2_with fail
                      go_roundw
                      case rel => exact ⟨k + 1, by omega, rfl, HK, by rw [HST.out]; exact HO.out⟩
                      case measure => simp [intOf]; omega
                    · have d1 : ((s : Int) != (m : Int)) = true := by simp; omega
                      rw [if_pos e] at hst
                      have HST := Lib.hid hst
                      clear hst e
                      generalize (ws.take k).filter (fun t => decide (t ≠ m)) = us at *
                      have hown2 := hown.alloc (.cells #[.int .i64 s] 3)
                      have HO2 := Lib.hid hown2; clear hown2 hown
                      go_wp2_with (first | (at_builtin; refine wpList_app1 rfl _ _ 40 rfl 3 (.int .i64 0) 8 Try.underlying40 Try.info3 rfl (.slice a8 us.length c8) us.length _ rfl HO2.out wr.heap.size (.int .i64 s) rfl (cell_new1 _ _ _ _ rfl) rfl (by omega) (by decide) ?_; intro g' cap' w5 hown5 hgrow5 hg5; have hF5 : Fr (Value.slice a8 us.length c8).ownBlock.toList wr w5 := ((Fr.refl _ _).alloc _).grown hgrow5 (fun q e => .inl (by simp [e]))) | fail)
                      go_roundw
                      case rel =>
                        have hb : ∀ q ∈ (Value.slice a8 us.length c8).ownBlock.toList, w4.heap.size ≤ q := fun q hq => HK.out.2.2.1 q (by simpa using hq)
                        have hs4 : w4.heap.size ≤ wr.heap.size := HK.out.2.2.2.size
                        refine ⟨k + 1, by omega, rfl, Lib.hid ⟨HK.out.1.keep hF5 hb (fun q hq => by have := hb q hq; have := HWs.out; omega), HK.out.2.1.fr hF5 (fun q hq hm => by have := hb q hm; have := HV.out q hq; omega), fun q e => ?_, HK.out.2.2.2.trans hF5 (fun q hq => .inr (hb q hq))⟩, ?_⟩
                        · simp only [Value.ownBlock, Option.some.injEq] at e
                          subst e
                          simp only [World.size_alloc] at hg5
                          rcases hg5 with e | e
                          · exact HK.out.2.2.1 _ e
                          · omega
                        · rw [HST.out, List.length_append]
                          have : encT (us ++ [s]) = encT us ++ [.int .i64 s] := by simp [encT]
                          rw [this]; exact hown5
                      case measure => simp [intOf]; omega
                  · obtain rfl : k = ws.length := by omega
                    rw [List.take_of_length_le (Nat.le_refl _)] at hown
                    rw [List.take_of_length_le (Nat.le_refl _)]
                    have hwf : ws.filter (fun t => decide (t ≠ m)) = treeL i (EG i n z fun t => P t ∧ t ≠ m) := by
                      rw [HW.out]; exact HM.out.2.2.2.2.2.2.2.2.2.symm
                    rw [hwf] at hown
                    rw [hwf]
                    have A5 := Lib.hid HK.out.1.lk.edges
                    have HO := Lib.hid (show RowN wr _ _ from hown)
                    clear hown hwf hfl htk
                    have htl := treeL_le i (EG i n z fun t => P t ∧ t ≠ m)
                    go_wp2_with fail
                    refine A5.out.mono ?_
                    rintro _ w6 ⟨v2, rfl, r1, r2, r3, r4⟩
                    have hSame := same_w r1 (HO.out.fr r4 (by simp)) (by omega) (by omega)
                    rw [decide_eq_true rfl] at hSame
                    have A6 := Lib.hid hSame
                    have H6 := Lib.hid r3.lk
                    clear r1 r2 r3 r4 A5 hSame
                    go_wp2_with fail
                    refine A6.out.mono ?_
                    rintro _ w7 ⟨rfl, k7, rfl⟩
                    have A7 := (H6.out.keep ((Fr.refl [] w6).drewN k7)).len
                    have hlen := len_eg (S := i) (V := n) (z := z) (P := fun t => P t ∧ t ≠ m)
                    rw [HM.out.2.2.2.2.2.2.1, HM.out.2.2.2.2.2.2.2.1, ← HE.out] at hlen
                    rw [show lenG i (EG i n z fun t => P t ∧ t ≠ m) = c0 - q - 1 by omega] at A7
                    have A7 := Lib.hid A7
                    clear hlen A6
                    go_wp2_with fail
                    refine A7.out.mono ?_
                    rintro _ w8 ⟨rfl, h8, _⟩
                    have H8 := Lib.hid h8; clear h8 A7
                    go_wp2_with fail
                    go_roundw
                    case rel => exact HFin.out _ H8.out
                    case measure => simp [intOf]; omega
          · obtain rfl : q = c0 := by omega
            obtain ⟨P, h1, h2, h3⟩ := HP.out
            have hnone := pop_none (S := i) (V := n) (z := z) (P := P) (by rw [h2, HE.out])
            rw [hnone] at h1
            have A1 := h1.exp
            have e1 : fstG (fun _ => none) = none := fstG_none fun _ => rfl
            have e2 : popG (fun _ => none) = fun _ => none := by unfold popG; rw [e1]
            rw [e1, e2] at A1
            have A1 := Lib.hid A1
            clear h1 h2 h3 hnone e1 e2 HP
            go_wp2_with fail
            refine A1.out.mono ?_
            rintro _ w2 ⟨rfl, h2⟩
            have A2 := h2.count
            rw [comp_none n i] at A2
            have A2 := Lib.hid A2
            clear h2 A1
            go_wp2_with fail
            refine A2.out.mono ?_
            rintro _ w3 ⟨rfl, h3, _⟩
            have H3 := Lib.hid h3; clear h3 A2
            go_wp2_with fail
            refine (HWk.out _).mono ?_
            rintro _ w4 ⟨rfl, hf⟩
            have HF := Lib.hid (H3.out.fr.trans' hf); clear hf
            go_wp2_with fail
            go_ret
            exact ⟨rfl, HF.out.below (by simp)⟩
end Go.Proofs.Ythkkelkgfkehlaa

namespace Go.Proofs.Ythkkelkgfkehlaa.forestExpires
open Go.ChangeShapes Go.WideShapes Go.ChangeAt Go.RowKit
set_option linter.unusedVariables false

theorem own : ownKnob Try.prog.godebug = none := by kernel_rfl
theorem laidOut : laidOutB Try.prog = true := by kernel_rfl

set_option maxRecDepth 100000 in
theorem lifted (os : Os) (started : os.Started) (H : Type) (enc : TypeId × Value → H) :
    ReturnsInHanded {} Try.checked os 8 .any (Rows.forestExpiresSpec.pre6 enc Try.prog Try.f8 Rows.forestExpiresRow.domain false) (Rows.forestExpiresSpec.post enc Try.prog Try.f8 false true false false) := by
  refine returnsInHanded_of_change (C := Try.checked) own started (by kernel_rfl) Try.func8
    (ChangeSpec.witness6 (enc := enc) (C := Try.checked) false ⟨#[], #[.int .i64 0, .slice none 0 0], []⟩ 8 (by kernel_rfl) (by kernel_rfl) (by kernel_rfl) (by kernel_rfl)) ?_
  intro W base args ds gs before hval0 hW hcnd _
  have hval : ∀ (j : Nat) t v, Try.f8.params[j]? = some t → args[j]? = some v → Value.okWide Try.prog W .any base t v := hval0
  have hW' := hW
  obtain ⟨p, q, hA0, hV, rfl, hfz, hnd⟩ := hW
  have hA : DataW.TrodAll enc Try.prog W 0 (fun _ => true) true Try.f8.params.toList args.toList ds p := hA0
  rw [Try.params8] at hA hval
  obtain ⟨v0, vs0, d0, ds0, p0, q0, hargs, rfl, rfl, h0, r0⟩ := trodAll_cons hA
  obtain ⟨v1, vs1, d1, ds1, p1, q1, rfl, rfl, rfl, h1, r1⟩ := trodAll_cons r0
  obtain ⟨rfl, rfl, rfl⟩ := trodAll_nil r1
  obtain rfl : args = #[v0, v1] := by cases args; simp_all
  obtain ⟨rfl, rfl⟩ := trodVars_none hV
  obtain ⟨a0, rfl, rfl, rfl, w0⟩ := open_int Try.underlying3 (hval 0 3 v0 rfl rfl) h0
  obtain ⟨a1, len1, cap1, rfl⟩ := okWide_slice Try.underlying22 (hval 1 22 v1 rfl rfl)
  have k1 := h1
  have lt1 : ∀ x ∈ p1, x.block < W.heap.size := by obtain ⟨m, hm⟩ := k1; exact DataW.trod_lt m _ _ _ hm
  obtain ⟨z1, w1⟩ := open_edges h1
  clear hA0 hval0
  refine (walk_forestExpires W a0 w0 a1 len1 cap1 z1 w1).mono fun e W' ⟨he, bel⟩ => ?_
  subst he
  exact ⟨_, rfl, _, _, _, [], _, [], hW', trodAll_mk1 (shut_bool Try.underlying4 _), (trodAll_cons_mk (shut_int Try.underlying3 w0) (trodAll_cons_mk (Below.trod laidOut (by kernel_rfl) (of_decide_eq_true (by kernel_rfl)) k1 bel lt1) trodAll_mk0)), rfl, bel.frame _, fun h => by cases h⟩

theorem over : Rows.forestExpiresRow.holds Try.pinned (OpenSpec.ofChange Rows.forestExpiresSpec) :=
  OpenClaim.holds_of_wide 8 Try.f8 rfl rfl rfl rfl rfl rfl rfl ⟨rfl, rfl, rfl, rfl, rfl⟩ rfl rfl rfl rfl rfl (by kernel_rfl) Try.func8 (by kernel_rfl)
    (of_decide_eq_true (by kernel_rfl)) (by unfold Func.isWrapper; first | (rw [if_pos (by decide +kernel)]; kernel_rfl) | (rw [if_neg (by decide +kernel)]; exact ⟨rfl, rfl⟩))
    (fun os started H enc _ => lifted os started H enc)

end Go.Proofs.Ythkkelkgfkehlaa.forestExpires

namespace Go.Proofs.Ythkkelkgfkehlaa
theorem forestExpires_holds : Rows.ForestExpiresSaid := forestExpires.over
#print axioms forestExpires_holds
end Go.Proofs.Ythkkelkgfkehlaa
