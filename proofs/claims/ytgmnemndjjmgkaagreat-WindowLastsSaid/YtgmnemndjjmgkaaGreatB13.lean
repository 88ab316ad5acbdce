/- forest: the first slot of a path of the tree edges. -/
import Derived.Test.YtgmnemndjjmgkaaGreatB12
import Derived.Test.YtgmnemndjjmgkaaGreatB11
set_option linter.unusedSimpArgs false
set_option linter.unusedVariables false
/- lct: check and Link. -/
namespace Go.Proofs.YtgmnemndjjmgkaaGreat
open Go.RowKit Classical
set_option maxRecDepth 10000
set_option maxHeartbeats 800000

theorem check_w {w : World} {pf g n cap : Nat} {σ : Tbl} {ed : Int} (h : LctAt w pf g (n + 1) cap σ ed) (b m : Nat) (f : Nat → Int) (hm : m ≤ 100) (hb : ∀ k, k < m → w.cell? ⟨b, k, none⟩ = some (.int .i64 (f k))) :
    Calls Tryz.prog 178 #[.pointer (some ⟨pf, 0, none⟩), .slice (some ⟨b, 0, none⟩) m m] w fun e w' => ((e = .returned (.int .i64 0) ∧ ∀ k, k < m → inV n (f k) = true) ∨ (e = .returned (.int .i64 3) ∧ ∃ k, k < m ∧ inV n (f k) = false)) ∧ w' = w := by
  have c0 := h.hd.cell 0
  simp only [List.getElem?_cons_zero] at c0
  have hV := Lib.hid (valid_w c0)
  clear c0
  have HB := Lib.hid hb; clear hb
  go_enter Tryz.func178, Tryz.ntmps178
  go_wp2_with fail
  refine hV.out.mono ?_
  rintro _ w ⟨rfl, rfl⟩
  go_wp2
  go_loopw [12] (fun x wr => ∃ k : Nat, k ≤ m ∧ x = .int .i64 k ∧ wr = w ∧ ∀ j, j < k → inV n (f j) = true) (fun x _ => m - (intOf x).toNat)
  case atStart => exact ⟨0, Nat.zero_le _, rfl, rfl, fun j hj => by omega⟩
  case round =>
    obtain ⟨k, hk, rfl, rfl, hall⟩ := hrel
    have Hall := Lib.hid hall; clear hall
    by_cases hlt : k < m
    · have hc := HB.out k hlt
      have hA := has_w h (f k)
      cases hv : inV n (f k) with
      | true =>
        rw [hv] at hA
        have HA := Lib.hid hA; clear hA
        have Hv := Lib.hid hv; clear hv
        go_wp2_with fail
        refine HA.out.mono ?_
        rintro _ w0 ⟨rfl, rfl⟩
        go_wp2
        exact ⟨⟨k + 1, by omega, by go_num, trivial, fun j hj => by
          by_cases e : j = k
          · rw [e]; exact Hv.out
          · exact Hall.out j (by omega)⟩, by simp [intOf]; omega⟩
      | false =>
        rw [hv] at hA
        have HA := Lib.hid hA; clear hA
        have Hv := Lib.hid hv; clear hv
        go_wp2_with fail
        refine HA.out.mono ?_
        rintro _ w0 ⟨rfl, rfl⟩
        go_wp2
        go_ret
        exact ⟨.inr ⟨rfl, k, hlt, Hv.out⟩, rfl⟩
    · go_wp2
      go_ret
      exact ⟨.inl ⟨rfl, fun j hj => Hall.out j (by omega)⟩, rfl⟩

theorem lead_v {w : World} {pf g n cap : Nat} {σ : Tbl} {ed : Int} (h : LctAt w pf g (n + 1) cap σ ed) {par d rt : Nat → Nat} {F : Fst} (hF : LF (n + 1) σ F par d rt) (v : Nat) (hv : v < n) :
    Calls Tryz.prog 172 #[.pointer (some ⟨pf, 0, none⟩), .int .i64 ((v : Int) + 1)] w fun e w' => e = .returned (.tuple #[]) ∧ ∃ τ l R par' d' rt', LctAt w' pf g (n + 1) cap τ ed ∧ LF (n + 1) τ ((.node true l (v + 1) .nil, 0) :: R) par' d' rt' ∧ (∀ x, (τ x).key = (σ x).key) ∧
      (∀ x y, Adj par' x y ↔ Adj par x y) ∧ (∀ x y, rt' x = rt' y ↔ rt x = rt y) ∧ rt' (v + 1) = v + 1 ∧ Fr [g] w w' := lead_w h hF (v + 1) (by omega) (by omega)
theorem refresh_v {w : World} {pf g n cap : Nat} {σ : Tbl} {ed : Int} (h : LctAt w pf g (n + 1) cap σ ed) (v : Nat) (hv : v < n) (hR : InR (n + 1) σ) (h0 : (σ (v + 1)).k0 ≠ v + 1) (h1 : (σ (v + 1)).k1 ≠ v + 1) :
    Calls Tryz.prog 174 #[.pointer (some ⟨pf, 0, none⟩), .int .i64 ((v : Int) + 1)] w fun e w' => e = .returned (.tuple #[]) ∧ LctAt w' pf g (n + 1) cap (refresh σ (v + 1)) ed ∧ Fr [g] w w' := refresh_w h (v + 1) (by omega) hR h0 h1

theorem LctAt.edges {w w0 : World} {pf g N cap : Nat} {σ : Tbl} {ed : Int} (h : LctAt w pf g N cap σ ed) (hF : Fr [g] w0 w) (e : Int) :
    LctAt (w.setCell ⟨pf, 2, none⟩ (.int .i64 e)) pf g N cap σ e ∧ Fr [pf, g] w0 (w.setCell ⟨pf, 2, none⟩ (.int .i64 e)) := by
  refine ⟨⟨?_, h.nodes.same (Below.heap_setCell _ _ _ _ (fun e => h.ne e.symm)), h.ne, h.le, h.cap⟩, (hF.mono (S' := [pf, g]) (fun b hb => .inl (by simp at hb; simp [hb]))).setCell _ _ (.inl (by simp))⟩
  have := h.hd.set 2 (.int .i64 e)
  simpa using this

noncomputable def linkCode (n : Nat) (E : Nat → Nat → Prop) (a b : Int) : Int :=
  if inV n a = true ∧ inV n b = true then (if a = b then 9 else if Conn E a.toNat b.toNat then 6 else 0) else 3
noncomputable def linkE (n : Nat) (E : Nat → Nat → Prop) (a b : Int) : Nat → Nat → Prop := if linkCode n E a b = 0 then addE E a.toNat b.toNat else E

theorem link_w {w : World} {pf g n : Nat} {E : Nat → Nat → Prop} {key : Nat → Int} (h : LM w pf g n E key) (a b : Int) :
    Calls Tryz.prog 197 #[.pointer (some ⟨pf, 0, none⟩), .int .i64 a, .int .i64 b] w fun e w' => e = .returned (.int .i64 (linkCode n E a b)) ∧ LM w' pf g n (linkE n E a b) key ∧ Fr [pf, g] w w' := by
  have H := Lib.hid h
  have hfrs := Lib.hid (LG.frs h)
  obtain ⟨hp1, hg1, hn1⟩ := LG.lts h
  obtain ⟨cap, σ, F, par, d, rt, hL, hF, hE, hk⟩ := h
  clear hF hE hk
  have hLa : LctAt (w.alloc (.cells #[.int .i64 a, .int .i64 b] 3)) pf g (n + 1) cap σ ((n : Int) - nc n E) := hL.below ((Below.refl _ w).alloc (Nat.le_refl _) _) hp1 hg1
  have hblk := Blk.new w [.int .i64 a, .int .i64 b] 3
  have hFa : Fr [] w (w.alloc (.cells #[.int .i64 a, .int .i64 b] 3)) := (Fr.refl _ _).alloc _
  have HMa := Lib.hid (LG.fr H.out hFa (by simp) (by simp))
  have hCk := check_w hLa w.heap.size 2 (fun k => if k = 0 then a else b) (by decide) (fun k hk => by
    rw [hblk.cell]
    rcases (show k = 0 ∨ k = 1 by omega) with rfl | rfl <;> rfl)
  have HCk := Lib.hid hCk; clear hCk hblk
  clear hLa hL
  go_enter Tryz.func197, Tryz.ntmps197
  go_wp2_with fail
  refine HCk.out.mono ?_
  rintro _ w1 ⟨hcode, rfl⟩
  clear HCk
  generalize w.alloc (.cells #[.int .i64 a, .int .i64 b] 3) = w1 at *
  rcases hcode with ⟨rfl, hall⟩ | ⟨rfl, k, hk, hbad⟩
  · have va : inV n a = true := hall 0 (by decide)
    have vb : inV n b = true := hall 1 (by decide)
    clear hall
    by_cases hab : a = b
    · have hlc : linkCode n E a b = 9 := by unfold linkCode; rw [if_pos ⟨va, vb⟩, if_pos hab]
      have hle : linkE n E a b = E := by unfold linkE; rw [hlc]; simp
      have Hlc := Lib.hid (And.intro hlc hle); clear hlc hle
      have hb : (a == b) = true := beq_iff_eq.2 hab
      clear va vb hab
      go_wp2
      go_ret
      rw [Hlc.out.1, Hlc.out.2]
      exact ⟨rfl, HMa.out, hFa.mono (by simp)⟩
    · have hb : (a == b) = false := beq_eq_false_iff_ne.2 hab
      have HL0 := Lib.hid (And.intro va (And.intro vb hab)); clear hab
      go_wp2_with fail
      refine (connected_w HMa.out a b).mono ?_
      rintro _ w2 ⟨r, rfl, hr, hM2, hF2⟩
      cases r with
      | true =>
        obtain ⟨_, _, hc⟩ := hr.1 rfl
        have hlc : linkCode n E a b = 6 := by unfold linkCode; rw [if_pos ⟨va, vb⟩, if_neg HL0.out.2.2, if_pos hc]
        have hle : linkE n E a b = E := by unfold linkE; rw [hlc]; simp
        have Hlc := Lib.hid (And.intro hlc hle); clear hlc hle hr
        have HM2 := Lib.hid hM2; clear hM2 va vb hc
        go_wp2
        go_ret
        rw [Hlc.out.1, Hlc.out.2]
        exact ⟨rfl, HM2.out, (hFa.mono (S' := [pf, g]) (by simp)).trans hF2 (fun q hq => .inl (by simp at hq; simp [hq]))⟩
      | false =>
        have hnc : ¬ Conn E a.toNat b.toNat := fun e => by have := hr.2 ⟨va, vb, e⟩; cases this
        have hlc : linkCode n E a b = 0 := by unfold linkCode; rw [if_pos ⟨va, vb⟩, if_neg HL0.out.2.2, if_neg hnc]
        have hle : linkE n E a b = addE E a.toNat b.toNat := by unfold linkE; rw [hlc]; simp
        have Hlc := Lib.hid (And.intro hlc hle); clear hlc hle hr
        obtain ⟨v, rfl, hv⟩ := inV_nat va
        obtain ⟨u, rfl, hu⟩ := inV_nat vb
        simp only [Int.toNat_natCast] at hnc Hlc
        have HN := Lib.hid hnc
        clear va vb HL0
        obtain ⟨cap2, σ2, F2, par2, d2, rt2, hL2, hLF2, hE2, hk2⟩ := hM2
        have hrt : rt2 (v + 1) ≠ rt2 (u + 1) := fun e => hnc ((conn_rt hLF2.rtd hE2).2 e)
        clear hnc
        have HF2 := Lib.hid hLF2; clear hLF2
        have HE2 := Lib.hid hE2; clear hE2
        have HK2 := Lib.hid hk2; clear hk2
        have HRt := Lib.hid hrt; clear hrt
        have hN := hL2.le
        go_wp2_with fail
        refine (lead_v hL2 HF2.out v hv).mono ?_
        rintro _ w3 ⟨rfl, τ3, l3, R3, par3, d3, rt3, hL3, hLF3, hk3, hadj3, hrt3, hri3, hF3⟩
        have HF3 := Lib.hid hLF3; clear hLF3
        have HQ3 := Lib.hid (And.intro hk3 (And.intro hadj3 (And.intro hrt3 hri3))); clear hk3 hadj3 hrt3 hri3
        go_wp2_with fail
        refine (expose_v hL3 HF3.out u hu).mono ?_
        rintro _ w4 ⟨m4, τ4, l4, R4, rfl, hL4, hE4, hF4⟩
        have key : (∃ par' d' rt' F', LF (n + 1) (refresh (lnk2 τ4 (v + 1) (u + 1)) (u + 1)) F' par' d' rt' ∧ (∀ x y, Adj par' x y ↔ Adj par2 x y ∨ (x = v + 1 ∧ y = u + 1) ∨ (x = u + 1 ∧ y = v + 1))) ∧
            (∀ x, (refresh (lnk2 τ4 (v + 1) (u + 1)) (u + 1) x).key = (σ2 x).key) ∧ (lnk2 τ4 (v + 1) (u + 1) (u + 1)).k0 ≠ u + 1 ∧ (lnk2 τ4 (v + 1) (u + 1) (u + 1)).k1 ≠ u + 1 ∧ InR (n + 1) (lnk2 τ4 (v + 1) (u + 1)) := by
          obtain ⟨hk3, hadj3, hrt3, hri3⟩ := HQ3.out
          have hne3 : rt3 (v + 1) ≠ rt3 (u + 1) := fun e => HRt.out ((hrt3 _ _).1 e)
          have hin := hE4.trees _ (List.mem_cons_self) ⟨v + 1, by simp [BT.nodes], hne3⟩
          obtain ⟨R5, hR5⟩ := mem_split_perm hin
          have hlf := hE4.lf.perm ((List.Perm.cons _ hR5).trans (List.Perm.swap _ _ _))
          obtain ⟨⟨par', d', rt', a1, a2⟩, a3, a4, a5, a6⟩ := hlf.link (a := v + 1) rfl (by omega) hri3 (fun e => hne3 (by rw [hri3, e]))
          exact ⟨⟨par', d', rt', _, a1, fun x y => by rw [a2, hadj3]⟩, fun x => by rw [a3, hE4.key, hk3], a4, a5, a6⟩
        have Key := Lib.hid key; clear key hE4
        have d4 := hL4.hd.cell 1
        simp only [List.getElem?_cons_zero, List.getElem?_cons_succ] at d4
        have hfz4 := hL4.nodes.frozen
        have a2 := hL4.nodes.c2 (v + 1) (by omega)
        obtain ⟨hL5, hF5⟩ := hL4.st2 (Fr.refl [g] w4) (i := v + 1) (by omega) (u + 1)
        have hL5' : LctAt (w4.setCell ⟨g, (v + 1) * 9 + 2, none⟩ (.int .i64 ((u : Int) + 1))) pf g (n + 1) cap2 (lnk1 τ4 (v + 1) (u + 1)) ((n : Int) - nc n E) := hL5
        have hF5' : Fr [g] w4 (w4.setCell ⟨g, (v + 1) * 9 + 2, none⟩ (.int .i64 ((u : Int) + 1))) := hF5
        have HL5 := Lib.hid hL5'; clear hL5 hL5' hF5
        have hv2 : ((v + 1 : Nat) : Int) < ((n + 1 : Nat) : Int) := by omega
        have hu2 : ((u + 1 : Nat) : Int) < ((n + 1 : Nat) : Int) := by omega
        go_wp2
        generalize w4.setCell ⟨g, (v + 1) * 9 + 2, none⟩ (.int .i64 ((u : Int) + 1)) = w5 at *
        have hL5 := HL5.out
        clear HL5 d4 hfz4 a2
        have d5 := hL5.hd.cell 1
        simp only [List.getElem?_cons_zero, List.getElem?_cons_succ] at d5
        have hfz5 := hL5.nodes.frozen
        have b7 := hL5.nodes.c7 (u + 1) (by omega)
        have b8 := hL5.nodes.c8 (v + 1) (by omega)
        have hwu : IntKind.i64.wrap ((u : Int) + 1) = (u : Int) + 1 := IntWalk.i64_in _ (by omega)
        have hwv : IntKind.i64.wrap ((v : Int) + 1) = (v : Int) + 1 := IntWalk.i64_in _ (by omega)
        have htu : ((u : Int) + 1).toNat = u + 1 := by omega
        have htv : ((v : Int) + 1).toNat = v + 1 := by omega
        have hcu : 0 ≤ (u : Int) + 1 := by omega
        have hcv : 0 ≤ (v : Int) + 1 := by omega
        have hcu2 : (u : Int) + 1 < (n : Int) + 1 := by omega
        have hcv2 : (v : Int) + 1 < (n : Int) + 1 := by omega
        refine region_one 21 (fun w' => LctAt w' pf g (n + 1) cap2 (lnk2 τ4 (v + 1) (u + 1)) ((n : Int) - nc n E) ∧ Fr [g] w5 w') (by kernel_rfl) (by kernel_rfl) (by kernel_rfl) ?_
        iterate 21 (refine gWalk_pre (by decide) (fun K hK => ?_); go_simp; refine hK _ ?_; clear hK K)
        refine gWalk_write rfl undef (fun w' hw' => ?_) ?_
        · obtain ⟨nq, rfl⟩ := hw'
          go_simp
          rw [iw64]
          exact (hL5.eqv (Eqv.drewN w5 nq)).st7 ((Fr.refl [g] w5).drewN nq) (i := u + 1) (by omega) _
        refine gWalk_nil ?_
        rintro w6 ⟨hL6, hF6⟩
        clear b7 b8 d5 hfz5
        go_wp2_with fail
        refine (refresh_v hL6 u hu Key.out.2.2.2.2 Key.out.2.2.1 Key.out.2.2.2.1).mono ?_
        rintro _ w7 ⟨rfl, hL7, hF7⟩
        have c7 := hL7.hd.cell 2
        simp only [List.getElem?_cons_zero, List.getElem?_cons_succ] at c7
        have hfz7 := hL7.hd.frozen 2
        obtain ⟨par', d', rt', F', q1, q2⟩ := Key.out.1
        have hAE : ∀ x y, addE E v u x y ↔ Adj par' (x + 1) (y + 1) := by
          intro x y
          rw [q2]
          unfold addE
          rw [HE2.out x y]
          simp only [Nat.add_right_cancel_iff]
        have hcnt := nc_add (n := n) hfrs.out ⟨par', d', rt', q1.rtd, hAE⟩ HN.out hv hu
        have hnc1 := nc_le n (addE E v u)
        have hed : IntKind.i64.wrap ((n : Int) - nc n E + 1) = (n : Int) - nc n (addE E v u) := by
          rw [show (n : Int) - nc n E + 1 = (n : Int) - nc n (addE E v u) by omega]; exact IntWalk.i64_in _ (by omega)
        obtain ⟨hL8, hF8⟩ := hL7.edges (hF2.then (hF3.then (hF4.then (hF5'.then (hF6.then hF7))))) ((n : Int) - nc n (addE E v u))
        have Hfin := Lib.hid (show LM _ pf g n (addE E v u) key from ⟨cap2, _, F', par', d', rt', hL8, q1, hAE, fun x hx => by rw [Key.out.2.1]; exact HK2.out x hx⟩)
        have hnq : nc n E = nc n (addE E v u) + 1 := hcnt.symm
        rw [hnq] at c7
        have hed2 : (n : Int) - ((nc n (addE E v u) + 1 : Nat) : Int) + 1 = (n : Int) - nc n (addE E v u) := by omega
        clear hL8 q1 q2 hAE hcnt hnq hed Key
        generalize nc n (addE E v u) = z at *
        go_wp2
        go_ret
        rw [Hlc.out.1, Hlc.out.2]
        have e : (n : Int) - ((z : Int) + 1) + 1 = (n : Int) - z := by omega
        rw [e]
        exact ⟨rfl, Hfin.out, (hFa.mono (S' := [pf, g]) (by simp)).trans hF8 (fun q hq => .inl hq)⟩
  · have hlc : linkCode n E a b = 3 := by
      unfold linkCode; rw [if_neg]
      rintro ⟨h1, h2⟩
      rcases (show k = 0 ∨ k = 1 by omega) with rfl | rfl
      · have hbad : inV n a = false := hbad; rw [h1] at hbad; cases hbad
      · have hbad : inV n b = false := hbad; rw [h2] at hbad; cases hbad
    have hle : linkE n E a b = E := by unfold linkE; rw [hlc]; simp
    have Hlc := Lib.hid (And.intro hlc hle); clear hlc hle hbad
    go_wp2
    go_ret
    rw [Hlc.out.1, Hlc.out.2]
    exact ⟨rfl, HMa.out, hFa.mono (by simp)⟩

end Go.Proofs.YtgmnemndjjmgkaaGreat

/- lct: New. -/
namespace Go.Proofs.YtgmnemndjjmgkaaGreat
open Go.RowKit
set_option maxRecDepth 10000
set_option maxHeartbeats 800000

def nd0 : Nd := { k0 := 0, k1 := 0, up := 0, flip := false, key := 0, size := 0, first := 0, light := 0, total := 0 }
def ndv : Value := .agg #[.int .i64 0, .int .i64 0, .int .i64 0, .bool false, .int .i64 0, .int .i64 0, .int .i64 0, .int .i64 0, .int .i64 0]
theorem Tryz.info191 : (Tryz.prog.info? 191).map (fun i => (i.zero, i.size, i.bytes)) = some (some ndv, 9, 72) := by kernel_rfl
theorem ndv_cells : ndv.cells = #[.int .i64 0, .int .i64 0, .int .i64 0, .bool false, .int .i64 0, .int .i64 0, .int .i64 0, .int .i64 0, .int .i64 0] := by kernel_rfl

theorem made_nodes (N i f : Nat) (hi : i < N) (hf : f < 9) : (madeCells ndv.cells (N * 9))[i * 9 + f]? = some (fv nd0 f) := by
  rw [ndv_cells]
  unfold madeCells
  have hlt : i * 9 + f < N * 9 := by omega
  have : (i * 9 + f) % 9 = f := by omega
  simp only [Array.getElem?_map, Array.getElem?_range, hlt, if_true, Option.map_some]
  show some (_[(i * 9 + f) % 9]!) = _
  rw [this]
  match f, hf with
  | 0, _ => rfl
  | 1, _ => rfl
  | 2, _ => rfl
  | 3, _ => rfl
  | 4, _ => rfl
  | 5, _ => rfl
  | 6, _ => rfl
  | 7, _ => rfl
  | 8, _ => rfl

def zeroNodes (m : Nat) : Array Value := madeCells ndv.cells (m * 9)
theorem run_make_nodes (n : Nat) (w : World) (hn : n ≤ 1048576) : (Instr.makeSlice 192 (.int .i64 n) (.int .i64 n)).run Tryz.prog w = .ok (.slice (some ⟨w.heap.size, 0, none⟩) n n) (w.alloc (.cells (zeroNodes n) 191)) := by
  obtain ⟨i0, hi, hz0, hz1, hz2⟩ := info_parts Tryz.info191
  have h := run_make (P := Tryz.prog) w 192 191 i0 ndv Tryz.underlying192 hi hz0 .i64 .i64 n n (by omega) (by omega) (by rw [hz2]; omega) (by omega)
  rw [hz1] at h
  simp only [Int.toNat_natCast] at h
  exact h

def newT (k : Nat) : Tbl := fun i => if 0 < i ∧ i ≤ k then { nd0 with size := 1, first := i, total := 1 } else nd0
theorem newT_succ (k : Nat) : refresh (newT k) (k + 1) = newT (k + 1) := by
  have h0 : (newT k (k + 1)).k0 = 0 ∧ (newT k (k + 1)).k1 = 0 ∧ newT k (k + 1) = nd0 := by
    have : newT k (k + 1) = nd0 := by unfold newT; rw [if_neg (by omega)]
    rw [this]; exact ⟨rfl, rfl, rfl⟩
  have e : refresh (newT k) (k + 1) = ref0 (newT k) (k + 1) := by
    show refKid (refKid (ref0 (newT k) (k + 1)) (k + 1) (newT k (k + 1)).k0) (k + 1) (newT k (k + 1)).k1 = _
    rw [h0.1, h0.2.1]; rfl
  rw [e]
  funext i
  unfold ref0
  by_cases hi : i = k + 1
  · subst hi
    rw [upd_same, h0.2.2]
    unfold newT; rw [if_pos (by omega)]
    simp [nd0, wrap64]
  · rw [upd_other hi]
    unfold newT
    by_cases h1 : 0 < i ∧ i ≤ k
    · rw [if_pos h1, if_pos (by omega)]
    · rw [if_neg h1, if_neg (by omega)]
theorem newT_inR (k N : Nat) (_hk : k < N) : InR N (newT k) := by
  intro i hi
  unfold newT
  split
  · exact ⟨by show 0 < N; omega, by show 0 < N; omega, by show 0 < N; omega, hi⟩
  · exact ⟨by show 0 < N; omega, by show 0 < N; omega, by show 0 < N; omega, by show 0 < N; omega⟩

theorem new_w (n : Nat) (w : World) (h : n ≤ 65536) :
    Calls Tryz.prog 166 #[.int .i64 n] w fun e w' => ∃ pf g, e = .returned (.tuple #[.pointer (some ⟨pf, 0, none⟩), .int .i64 0]) ∧ LM w' pf g n (fun _ _ => False) (fun _ => 0) ∧ Fr [] w w' ∧ w.heap.size ≤ pf ∧ w.heap.size ≤ g := by
  have hmk : ∀ W : World, (Instr.makeSlice 192 (.int .i64 ((n : Int) + 1)) (.int .i64 ((n : Int) + 1))).run Tryz.prog W = .ok (.slice (some ⟨W.heap.size, 0, none⟩) (n + 1) (n + 1)) (W.alloc (.cells (zeroNodes (n + 1)) 191)) := fun W => run_make_nodes (n + 1) W (by omega)
  have h0 : ¬ ((n : Int) < 0) := by omega
  have h1 : ¬ (65536 < (n : Int)) := by omega
  go_enter Tryz.func166, Tryz.ntmps166
  go_wp2
  obtain ⟨W0, hW0⟩ : ∃ W0, (w.alloc (.cells (zeroNodes (n + 1)) 191)).alloc (.cells #[.pointer (some ⟨w.heap.size + 1, 0, none⟩), .slice (some ⟨w.heap.size, 0, none⟩) (n + 1) (n + 1), .int .i64 0] 194) = W0 := ⟨_, rfl⟩
  have hL0 : LctAt W0 (w.heap.size + 1) w.heap.size (n + 1) (n + 1) (newT 0) 0 := by
    subst hW0
    refine ⟨?_, ?_, by omega, by omega, Nat.le_refl _⟩
    · have := Blk.new (w.alloc (.cells (zeroNodes (n + 1)) 191)) [.pointer (some ⟨w.heap.size + 1, 0, none⟩), .slice (some ⟨w.heap.size, 0, none⟩) (n + 1) (n + 1), .int .i64 0] 194
      rw [World.size_alloc] at this; exact this
    · refine ⟨zeroNodes (n + 1), ?_, by simp [zeroNodes, size_madeCells], fun i hi f hf => ?_⟩
      · exact (Below.heap_alloc _ _ _ (by simp)).trans (World.alloc_heap_new w _)
      · have : newT 0 i = nd0 := by unfold newT; rw [if_neg (by omega)]
        rw [this]; exact made_nodes (n + 1) i f hi hf
  have hF0 : Fr [] w W0 := by subst hW0; exact ((Fr.refl _ _).alloc _).alloc _
  rw [hW0]
  clear hW0 hmk
  go_loopw [22] (fun x wr => ∃ k : Nat, k ≤ n ∧ x = .int .i64 k ∧ LctAt wr (w.heap.size + 1) w.heap.size (n + 1) (n + 1) (newT k) 0 ∧ Fr [] w wr) (fun x _ => n - (intOf x).toNat)
  case atStart => exact ⟨0, Nat.zero_le _, rfl, hL0, hF0⟩
  case round =>
    clear hL0 hF0
    obtain ⟨k, hk, rfl, hL, hF⟩ := hrel
    by_cases hlt : k < n
    · have hz : newT k (k + 1) = nd0 := by unfold newT; rw [if_neg (by omega)]
      have HQ := Lib.hid (show (newT k (k + 1)).k0 ≠ k + 1 ∧ (newT k (k + 1)).k1 ≠ k + 1 by rw [hz]; simp [nd0])
      clear hz
      go_wp2_with fail
      refine (refresh_v hL k hlt (newT_inR k (n + 1) (by omega)) HQ.out.1 HQ.out.2).mono ?_
      rintro _ w2 ⟨rfl, hL2, hF2⟩
      rw [newT_succ] at hL2
      go_wp2
      exact ⟨⟨k + 1, by omega, by go_num, hL2, hF.trans hF2 (fun b hb => .inr (by simp at hb; omega))⟩, by simp [intOf]; omega⟩
    · obtain rfl : k = n := by omega
      go_wp2
      go_ret2
      have hv : ∀ x, 0 < x → x < k + 1 → newT k x = { nd0 with size := 1, first := x, total := 1 } := fun x h1 h2 => by unfold newT; rw [if_pos (by omega)]
      have h00 : newT k 0 = nd0 := by unfold newT; rw [if_neg (by omega)]
      have hlf := LF.new k (newT k) (by rw [h00]; simp [nd0]) (fun x h1 h2 => by rw [hv x h1 h2]; simp [nd0])
      refine ⟨w.heap.size + 1, w.heap.size, rfl, ⟨k + 1, newT k, _, _, _, _, ?_, hlf, fun v u => ?_, fun v hv' => ?_⟩, hF, by omega, Nat.le_refl _⟩
      · rw [nc_none]; simpa using hL
      · simp [Adj]
      · rw [hv (v + 1) (by omega) (by omega)]; rfl

end Go.Proofs.YtgmnemndjjmgkaaGreat

/- lct: the answers as functions of the forest. -/
namespace Go.Proofs.YtgmnemndjjmgkaaGreat
open Go.RowKit Classical
set_option maxRecDepth 10000
set_option maxHeartbeats 800000

noncomputable def connB (n : Nat) (E : Nat → Nat → Prop) (a b : Int) : Bool := decide (ConnI n E a b)
noncomputable def thePath (E : Nat → Nat → Prop) (a b : Nat) : List Nat := if h : Conn E a b then Classical.choose h else []
noncomputable def distI (n : Nat) (E : Nat → Nat → Prop) (a b : Int) : Int := if ConnI n E a b then ((thePath E a.toNat b.toNat).length : Int) - 1 else -1
section
variable {E : Nat → Nat → Prop} {a b c : Nat}
theorem thePath_eq (h : Frs E) {p : List Nat} (hp : IsPath E a b p) : thePath E a b = p := by
  unfold thePath
  have hc : Conn E a b := ⟨p, hp⟩
  rw [dif_pos hc]
  exact h.unique (Classical.choose_spec hc) hp
theorem connB_iff {n : Nat} {a b : Int} : connB n E a b = true ↔ ConnI n E a b := by unfold connB; exact decide_eq_true_iff
end

section
variable {w : World} {pf g n : Nat} {E : Nat → Nat → Prop} {key : Nat → Int} {ed : Int} (h : LG w pf g n E key ed)
include h
theorem connected_d (a b : Int) : Calls Tryz.prog 83 #[.pointer (some ⟨pf, 0, none⟩), .int .i64 a, .int .i64 b] w fun e w' => e = .returned (.bool (connB n E a b)) ∧ LG w' pf g n E key ed ∧ Fr [g] w w' := by
  refine (connected_w h a b).mono ?_
  rintro e w' ⟨r, rfl, hr, h2, h3⟩
  have : r = connB n E a b := by
    have := (connB_iff (n := n) (E := E) (a := a) (b := b))
    cases r <;> cases hc : connB n E a b <;> simp_all
  rw [this]; exact ⟨rfl, h2, h3⟩
theorem dist_d (a b : Int) : Calls Tryz.prog 179 #[.pointer (some ⟨pf, 0, none⟩), .int .i64 a, .int .i64 b] w fun e w' => e = .returned (.int .i64 (distI n E a b)) ∧ LG w' pf g n E key ed ∧ Fr [g] w w' := by
  have hf := h.frs
  refine (dist_w h a b).mono ?_
  rintro e w' ⟨x, rfl, hr, h2, h3⟩
  refine ⟨?_, h2, h3⟩
  unfold distI
  rcases hr with ⟨hn, rfl⟩ | ⟨v, u, p, rfl, rfl, hv, hu, hp, rfl⟩
  · rw [if_neg hn]
  · have hc : ConnI n E v u := ⟨by simp [inV]; omega, by simp [inV]; omega, p, hp⟩
    rw [if_pos hc, Int.toNat_natCast, Int.toNat_natCast, thePath_eq hf hp]
end

theorem dist_nat {n : Nat} {E : Nat → Nat → Prop} (h : Frs E) {a b : Nat} (ha : a < n) (hb : b < n) {p : List Nat} (hp : IsPath E a b p) : distI n E a b = (p.length : Int) - 1 := by
  unfold distI
  rw [if_pos ⟨by simp [inV]; omega, by simp [inV]; omega, p, hp⟩, Int.toNat_natCast, Int.toNat_natCast, thePath_eq h hp]

/-- Whoever is connected with another vertex has an edge. -/
theorem conn_in {E : Nat → Nat → Prop} {a b : Nat} (h : Conn E a b) (hne : a ≠ b) : ∃ x, E x b := by
  obtain ⟨p, l, rfl, hw, _, hl⟩ := h
  rcases List.eq_nil_or_concat l with rfl | ⟨S, x, rfl⟩
  · simp at hl; exact absurd hl hne
  · rw [List.concat_eq_append] at *
    rw [← List.cons_append, last_snoc] at hl
    cases hl
    rcases List.eq_nil_or_concat S with rfl | ⟨S', y, rfl⟩
    · exact ⟨a, hw.1⟩
    · rw [List.concat_eq_append, List.append_assoc] at hw
      exact ⟨y, (wk_append.1 hw).2.1⟩

theorem linkCode_new {n : Nat} {E : Nat → Nat → Prop} {a b : Nat} (ha : a < n) (hb : b < n) (hne : a ≠ b) (hc : ¬ Conn E a b) : linkCode n E a b = 0 := by
  unfold linkCode
  rw [if_pos ⟨by simp [inV]; omega, by simp [inV]; omega⟩, if_neg (by omega), Int.toNat_natCast, Int.toNat_natCast, if_neg hc]
theorem linkE_new {n : Nat} {E : Nat → Nat → Prop} {a b : Nat} (ha : a < n) (hb : b < n) (hne : a ≠ b) (hc : ¬ Conn E a b) : linkE n E a b = addE E a b := by
  unfold linkE; rw [linkCode_new ha hb hne hc]; simp

theorem link_ok {w : World} {pf g n : Nat} {E : Nat → Nat → Prop} {key : Nat → Int} (h : LM w pf g n E key) (a b : Nat) (ha : a < n) (hb : b < n) (hne : a ≠ b) (hc : ¬ Conn E a b) :
    Calls Tryz.prog 197 #[.pointer (some ⟨pf, 0, none⟩), .int .i64 a, .int .i64 b] w fun e w' => e = .returned (.int .i64 0) ∧ LM w' pf g n (addE E a b) key ∧ Fr [pf, g] w w' := by
  have := link_w h a b
  rw [linkCode_new ha hb hne hc, linkE_new ha hb hne hc] at this
  exact this

end Go.Proofs.YtgmnemndjjmgkaaGreat

/- lct: Cut. -/
namespace Go.Proofs.YtgmnemndjjmgkaaGreat
open Go.RowKit Classical
set_option maxRecDepth 10000
set_option maxHeartbeats 800000

noncomputable def cutCode (n : Nat) (E : Nat → Nat → Prop) (a b : Int) : Int :=
  if inV n a = true ∧ inV n b = true then (if E a.toNat b.toNat then 0 else 5) else 3
noncomputable def cutE (n : Nat) (E : Nat → Nat → Prop) (a b : Int) : Nat → Nat → Prop := if cutCode n E a b = 0 then delE E a.toNat b.toNat else E

theorem dist_one {n : Nat} {E : Nat → Nat → Prop} (h : Frs E) {v u : Nat} (hv : v < n) (hu : u < n) : distI n E v u = 1 ↔ E v u := by
  constructor
  · intro e
    by_cases hc : ConnI n E v u
    · obtain ⟨_, _, p, hp⟩ := hc
      simp only [Int.toNat_natCast] at hp
      rw [dist_nat h hv hu hp] at e
      obtain ⟨l, rfl, hw, _, hl⟩ := hp
      have hlen : l.length = 1 := by simp at e; omega
      match l, hlen with
      | [x], _ =>
        simp at hl; subst hl
        exact hw.1
    · unfold distI at e; rw [if_neg hc] at e; cases e
  · intro e
    rw [dist_nat h hv hu (h.edge e)]; rfl

theorem cut_w {w : World} {pf g n : Nat} {E : Nat → Nat → Prop} {key : Nat → Int} (h : LM w pf g n E key) (a b : Int) :
    Calls Tryz.prog 138 #[.pointer (some ⟨pf, 0, none⟩), .int .i64 a, .int .i64 b] w fun e w' => e = .returned (.int .i64 (cutCode n E a b)) ∧ LM w' pf g n (cutE n E a b) key ∧ Fr [pf, g] w w' := by
  have H := Lib.hid h
  have hfrs := Lib.hid (LG.frs h)
  obtain ⟨hp1, hg1, hn1⟩ := LG.lts h
  obtain ⟨cap, σ, F, par, d, rt, hL, hF, hE, hk⟩ := h
  clear hF hE hk
  have hLa : LctAt (w.alloc (.cells #[.int .i64 a, .int .i64 b] 3)) pf g (n + 1) cap σ ((n : Int) - nc n E) := hL.below ((Below.refl _ w).alloc (Nat.le_refl _) _) hp1 hg1
  have hblk := Blk.new w [.int .i64 a, .int .i64 b] 3
  have hFa : Fr [] w (w.alloc (.cells #[.int .i64 a, .int .i64 b] 3)) := (Fr.refl _ _).alloc _
  have HMa := Lib.hid (LG.fr H.out hFa (by simp) (by simp))
  have hCk := check_w hLa w.heap.size 2 (fun k => if k = 0 then a else b) (by decide) (fun k hk => by
    rw [hblk.cell]
    rcases (show k = 0 ∨ k = 1 by omega) with rfl | rfl <;> rfl)
  have HCk := Lib.hid hCk; clear hCk hblk
  clear hLa hL
  go_enter Tryz.func138, Tryz.ntmps138
  go_wp2_with fail
  refine HCk.out.mono ?_
  rintro _ w1 ⟨hcode, rfl⟩
  clear HCk
  generalize w.alloc (.cells #[.int .i64 a, .int .i64 b] 3) = w1 at *
  rcases hcode with ⟨rfl, hall⟩ | ⟨rfl, k, hk, hbad⟩
  · have va : inV n a = true := hall 0 (by decide)
    have vb : inV n b = true := hall 1 (by decide)
    clear hall
    obtain ⟨v, rfl, hv⟩ := inV_nat va
    obtain ⟨u, rfl, hu⟩ := inV_nat vb
    have hd1 := dist_one (n := n) hfrs.out hv hu
    go_wp2_with fail
    refine (dist_d HMa.out (v : Int) (u : Int)).mono ?_
    rintro _ w2 ⟨rfl, hM2, hF2⟩
    by_cases he : E v u
    · have hlc : cutCode n E v u = 0 := by unfold cutCode; rw [if_pos ⟨va, vb⟩, Int.toNat_natCast, Int.toNat_natCast, if_pos he]
      have hle : cutE n E v u = delE E v u := by unfold cutE; rw [hlc, if_pos rfl, Int.toNat_natCast, Int.toNat_natCast]
      have Hlc := Lib.hid (And.intro hlc hle); clear hlc hle
      have Hd := Lib.hid (hd1.2 he)
      rw [Hd.out]
      have He := Lib.hid he
      clear va vb hd1
      obtain ⟨cap2, σ2, F2, par2, d2, rt2, hL2, hLF2, hE2, hk2⟩ := hM2
      have hrt : rt2 (v + 1) = rt2 (u + 1) := (conn_rt hLF2.rtd hE2).1 (conn_of_edge hfrs.out he)
      have HF2 := Lib.hid hLF2; clear hLF2
      have HE2 := Lib.hid hE2; clear hE2
      have HK2 := Lib.hid hk2; clear hk2
      clear he
      have hN := hL2.le
      go_wp2_with fail
      refine (path_v hL2 HF2.out v u hv hu).mono ?_
      rintro _ w3 ⟨rfl, τ, l, R, par', d', rt', hL3, hP, hF3⟩
      obtain ⟨p, hp1', hp2', _⟩ := hP.at HE2.out hrt
      have hpe : p = [v, u] := hfrs.out.unique hp1' (hfrs.out.edge He.out)
      have hls : l.seq = [v + 1] := by
        rw [hpe] at hp2'
        simp only [List.map_cons, List.map_nil] at hp2'
        have e : [v + 1] ++ [u + 1] = l.seq ++ [u + 1] := hp2'
        exact (List.append_cancel_right e).symm
      have HCt := Lib.hid (hP.lf.cut hls)
      have HPk := Lib.hid (And.intro hP.key hP.adj)
      clear hP hp1' hp2' hpe hls hrt
      have d3 := hL3.hd.cell 1
      simp only [List.getElem?_cons_zero, List.getElem?_cons_succ] at d3
      have hfz3 := hL3.nodes.frozen
      have a2 := hL3.nodes.c2 (v + 1) (by omega)
      obtain ⟨hL4, hF4⟩ : LctAt (w3.setCell ⟨g, (v + 1) * 9 + 2, none⟩ (.int .i64 0)) pf g (n + 1) cap2 (τ.upd (v + 1) { τ (v + 1) with up := 0 }) ((n : Int) - nc n E) ∧ Fr [g] w3 (w3.setCell ⟨g, (v + 1) * 9 + 2, none⟩ (.int .i64 0)) := hL3.st2 (Fr.refl [g] w3) (i := v + 1) (by omega) 0
      have hv2 : ((v + 1 : Nat) : Int) < ((n + 1 : Nat) : Int) := by omega
      have hu2 : ((u + 1 : Nat) : Int) < ((n + 1 : Nat) : Int) := by omega
      have d4 := hL4.hd.cell 1
      simp only [List.getElem?_cons_zero, List.getElem?_cons_succ] at d4
      have hfz4 := hL4.nodes.frozen
      have b0 := hL4.nodes.c0 (u + 1) (by omega)
      obtain ⟨hL5, hF5⟩ := hL4.st0 hF4 (i := u + 1) (by omega) 0
      have HL5 : Hid (LctAt ((w3.setCell ⟨g, (v + 1) * 9 + 2, none⟩ (.int .i64 0)).setCell ⟨g, (u + 1) * 9, none⟩ (.int .i64 0)) pf g (n + 1) cap2 (cut2 τ (v + 1) (u + 1)) ((n : Int) - nc n E) ∧ Fr [g] w3 ((w3.setCell ⟨g, (v + 1) * 9 + 2, none⟩ (.int .i64 0)).setCell ⟨g, (u + 1) * 9, none⟩ (.int .i64 0))) := Lib.hid (And.intro hL5 hF5)
      clear hL5 hF5 hL4 hF4
      go_wp2_with fail
      refine (refresh_v HL5.out.1 u hu HCt.out.2.2.2.2 HCt.out.2.2.1 HCt.out.2.2.2.1).mono ?_
      rintro _ w6 ⟨rfl, hL6, hF6⟩
      have hF36 : Fr [g] w3 w6 := HL5.out.2.then hF6
      clear HL5 d3 hfz3 a2 d4 hfz4 b0
      have c6 := hL6.hd.cell 2
      simp only [List.getElem?_cons_zero, List.getElem?_cons_succ] at c6
      have hfz6 := hL6.hd.frozen 2
      obtain ⟨par3, d3', rt3, F3, q1, q2⟩ := HCt.out.1
      have hDE : ∀ x y, delE E v u x y ↔ Adj par3 (x + 1) (y + 1) := by
        intro x y
        rw [q2, HPk.out.2]
        unfold delE
        rw [HE2.out x y]
        simp only [Nat.add_right_cancel_iff]
      have hcnt := nc_del (n := n) hfrs.out ⟨par3, d3', rt3, q1.rtd, hDE⟩ He.out hv hu
      have hnc1 := nc_le n (delE E v u)
      obtain ⟨hL8, hF8⟩ := hL6.edges (hF2.then (hF3.then hF36)) ((n : Int) - nc n (delE E v u))
      have Hfin := Lib.hid (show LM _ pf g n (delE E v u) key from ⟨cap2, _, F3, par3, d3', rt3, hL8, q1, hDE, fun x hx => by rw [HCt.out.2.1, HPk.out.1]; exact HK2.out x hx⟩)
      have he2 : (n : Int) - nc n E - 1 = (n : Int) - nc n (delE E v u) := by omega
      have He2 := Lib.hid he2
      clear hL8 q1 q2 hDE hcnt he2 HCt
      have hncE := nc_le n E
      generalize nc n E = z1 at *
      generalize nc n (delE E v u) = z2 at *
      go_wp2
      go_ret
      rw [Hlc.out.1, Hlc.out.2, He2.out]
      exact ⟨rfl, Hfin.out, (hFa.mono (S' := [pf, g]) (by simp)).trans hF8 (fun q hq => .inl hq)⟩
    · have hlc : cutCode n E v u = 5 := by unfold cutCode; rw [if_pos ⟨va, vb⟩, Int.toNat_natCast, Int.toNat_natCast, if_neg he]
      have hle : cutE n E v u = E := by unfold cutE; rw [hlc]; simp
      have Hlc := Lib.hid (And.intro hlc hle); clear hlc hle
      have hne : (distI n E v u != 1) = true := bne_iff_ne.2 (fun e => he (hd1.1 e))
      have HM2 := Lib.hid hM2
      clear va vb hd1 he hM2
      go_wp2
      go_ret
      rw [Hlc.out.1, Hlc.out.2]
      exact ⟨rfl, HM2.out, (hFa.mono (S' := [pf, g]) (by simp)).trans hF2 (fun q hq => .inl (by simp at hq; simp [hq]))⟩
  · have hlc : cutCode n E a b = 3 := by
      unfold cutCode; rw [if_neg]
      rintro ⟨h1, h2⟩
      rcases (show k = 0 ∨ k = 1 by omega) with rfl | rfl
      · have hbad : inV n a = false := hbad; rw [h1] at hbad; cases hbad
      · have hbad : inV n b = false := hbad; rw [h2] at hbad; cases hbad
    have hle : cutE n E a b = E := by unfold cutE; rw [hlc]; simp
    have Hlc := Lib.hid (And.intro hlc hle); clear hlc hle hbad
    go_wp2
    go_ret
    rw [Hlc.out.1, Hlc.out.2]
    exact ⟨rfl, HMa.out, hFa.mono (by simp)⟩

end Go.Proofs.YtgmnemndjjmgkaaGreat

/- forest: the forest of the tree edges, whose vertices are the slots and then the vertices. -/
namespace Go.Proofs.YtgmnemndjjmgkaaGreat
open Classical

def TE (S : Nat) (G : EMap) (T : Nat → Prop) (v u : Nat) : Prop :=
  ∃ s a b x, G s = some (a, b, x) ∧ T s ∧ ((v = s ∧ (u = S + a ∨ u = S + b)) ∨ (u = s ∧ (v = S + a ∨ v = S + b)))

section
variable {S : Nat} {G : EMap} {T W : Nat → Prop} {a b : Nat} {p : List Nat}
theorem te_symm {v u : Nat} (h : TE S G T v u) : TE S G T u v := by
  obtain ⟨s, a, b, x, h1, h2, h3⟩ := h
  exact ⟨s, a, b, x, h1, h2, h3.symm⟩
theorem te_mono {T' : Nat → Prop} (ht : ∀ s, T s → T' s) {v u : Nat} (h : TE S G T v u) : TE S G T' v u := by
  obtain ⟨s, a, b, x, h1, h2, h3⟩ := h
  exact ⟨s, a, b, x, h1, ht s h2, h3⟩

/-- What a walk over the tree edges reaches. -/
theorem te_reach (hS : ∀ s e, G s = some e → s < S) : ∀ {l : List Nat} {v : Nat}, Wk (TE S G T) v l → (∀ y ∈ v :: l, y < S → W y) →
    ((S ≤ v → Cx G (fun t => T t ∧ W t) a (v - S)) ∧ (v < S → ∃ c d x, G v = some (c, d, x) ∧ Cx G (fun t => T t ∧ W t) a c ∧ Cx G (fun t => T t ∧ W t) a d)) →
    ∀ y ∈ v :: l, (S ≤ y → Cx G (fun t => T t ∧ W t) a (y - S)) ∧ (y < S → ∃ c d x, G y = some (c, d, x) ∧ Cx G (fun t => T t ∧ W t) a c ∧ Cx G (fun t => T t ∧ W t) a d)
  | [], v, _, _, hv, y, hy => by simp at hy; subst hy; exact hv
  | z :: l, v, ⟨h1, h2⟩, hW, hv, y, hy => by
    rcases List.mem_cons.1 hy with rfl | hy
    · exact hv
    refine te_reach hS h2 (fun y hy => hW y (by simp at hy ⊢; exact .inr hy)) ?_ y hy
    obtain ⟨s, c, d, x, hg, ht, h3⟩ := h1
    have hs := hS s _ hg
    rcases h3 with ⟨rfl, h3⟩ | ⟨rfl, h3⟩
    · obtain ⟨c', d', x', hg', h4, h5⟩ := hv.2 hs
      rw [hg] at hg'; simp only [Option.some.injEq, Prod.mk.injEq] at hg'
      obtain ⟨rfl, rfl, rfl⟩ := hg'
      rcases h3 with rfl | rfl
      · exact ⟨fun _ => by rw [Nat.add_sub_cancel_left]; exact h4, fun e => by omega⟩
      · exact ⟨fun _ => by rw [Nat.add_sub_cancel_left]; exact h5, fun e => by omega⟩
    · have hw := hW z (by simp) hs
      have ed : Cx G (fun t => T t ∧ W t) c d := Cx.edge (s := z) ⟨ht, hw⟩ hg
      refine ⟨fun e => by omega, fun _ => ⟨c, d, x, hg, ?_⟩⟩
      rcases h3 with rfl | rfl
      · have h4 := hv.1 (by omega)
        rw [Nat.add_sub_cancel_left] at h4
        exact ⟨h4, h4.trans ed⟩
      · have h4 := hv.1 (by omega)
        rw [Nat.add_sub_cancel_left] at h4
        exact ⟨h4.trans ed.symm, h4⟩
theorem te_path (hS : ∀ s e, G s = some e → s < S) (hp : IsPath (TE S G T) (S + a) (S + b) p) (hW : ∀ y ∈ p, y < S → W y) : Cx G (fun t => T t ∧ W t) a b := by
  obtain ⟨l, rfl, h2, _, h4⟩ := hp
  have hb : S + b ∈ (S + a) :: l := List.mem_of_getLast? h4
  have := (te_reach hS h2 hW ⟨fun _ => by rw [Nat.add_sub_cancel_left]; exact .refl a, fun e => by omega⟩ _ hb).1 (by omega)
  rw [Nat.add_sub_cancel_left] at this
  exact this
theorem te_slots (_hS : ∀ s e, G s = some e → s < S) (hp : IsPath (TE S G T) (S + a) (S + b) p) {m : Nat} (hm : m ∈ p) (hms : m < S) : ∃ c d x, G m = some (c, d, x) ∧ T m := by
  obtain ⟨l, rfl, h2, _, h4⟩ := hp
  have key : ∀ {l : List Nat} {v : Nat}, Wk (TE S G T) v l → m ∈ l → ∃ c d x, G m = some (c, d, x) ∧ T m := by
    intro l
    induction l with
    | nil => intro v _ h; simp at h
    | cons z l ih =>
      intro v ⟨h1, h2⟩ hm
      rcases List.mem_cons.1 hm with rfl | hm
      · obtain ⟨s, c, d, x, hg, ht, h3⟩ := h1
        rcases h3 with ⟨_, h3⟩ | ⟨rfl, _⟩
        · omega
        · exact ⟨c, d, x, hg, ht⟩
      · exact ih h2 hm
  rcases List.mem_cons.1 hm with rfl | hm
  · omega
  · exact key h2 hm
/-- A path between two vertices leads over a slot. -/
theorem te_has (hp : IsPath (TE S G T) (S + a) (S + b) p) (hS : ∀ s e, G s = some e → s < S) (hab : a ≠ b) : ∃ s, s ∈ p ∧ s < S := by
  obtain ⟨l, rfl, h2, _, h4⟩ := hp
  cases l with
  | nil => simp at h4; exact absurd h4 hab
  | cons z l =>
    refine ⟨z, by simp, ?_⟩
    obtain ⟨s, c, d, x, hg, _, h3⟩ := h2.1
    have := hS s _ hg
    rcases h3 with ⟨h3, _⟩ | ⟨rfl, _⟩
    · omega
    · exact this
theorem te_conn (hf : Frs (TE S G T)) (h : Cx G T a b) : Conn (TE S G T) (S + a) (S + b) := by
  induction h with
  | refl => exact Conn.refl _ _
  | @step c d s x _ h1 h2 ih =>
    refine hf.ctrans ih ?_
    rcases h2 with h2 | h2
    · exact hf.ctrans (conn_of_edge hf ⟨s, c, d, x, h2, h1, .inr ⟨rfl, .inl rfl⟩⟩) (conn_of_edge hf ⟨s, c, d, x, h2, h1, .inl ⟨rfl, .inr rfl⟩⟩)
    · exact hf.ctrans (conn_of_edge hf ⟨s, d, c, x, h2, h1, .inr ⟨rfl, .inr rfl⟩⟩) (conn_of_edge hf ⟨s, d, c, x, h2, h1, .inl ⟨rfl, .inl rfl⟩⟩)
theorem te_iff (hS : ∀ s e, G s = some e → s < S) (hf : Frs (TE S G T)) : Conn (TE S G T) (S + a) (S + b) ↔ Cx G T a b :=
  ⟨fun ⟨_, hp⟩ => (te_path (W := fun _ => True) hS hp (fun _ _ _ => trivial)).mono (fun _ _ h _ => h.1), te_conn hf⟩
/-- Without a slot of the path there is no connection. -/
theorem te_cut (hf : Frs (TE S G T)) {m : Nat} (hf' : Frs (TE S G (fun t => T t ∧ t ≠ m))) (hp : IsPath (TE S G T) (S + a) (S + b) p) (hm : m ∈ p) (hms : m < S) : ¬ Cx G (fun t => T t ∧ t ≠ m) a b := by
  intro h
  obtain ⟨q, hq⟩ := te_conn hf' h
  have e := hf.unique hp (hq.mono (fun x y => te_mono (fun s h => h.1)))
  rw [e] at hm
  obtain ⟨l, rfl, h2, _, _⟩ := hq
  have key : ∀ {l : List Nat} {v : Nat}, Wk (TE S G (fun t => T t ∧ t ≠ m)) v l → m ∈ l → False := by
    intro l
    induction l with
    | nil => intro v _ h; simp at h
    | cons z l ih =>
      intro v ⟨h1, h2⟩ hm
      rcases List.mem_cons.1 hm with rfl | hm
      · obtain ⟨s, c, d, x, hg, ht, h3⟩ := h1
        rcases h3 with ⟨_, h3⟩ | ⟨rfl, _⟩
        · omega
        · exact ht.2 rfl
      · exact ih h2 hm
  rcases List.mem_cons.1 hm with rfl | hm
  · omega
  · exact key h2 hm

theorem te_add {s : Nat} {x : Int} (hg : G s = some (a, b, x)) : addE (addE (TE S G T) s (S + a)) s (S + b) = TE S G (fun t => T t ∨ t = s) := by
  refine E_ext fun v u => ?_
  unfold addE
  constructor
  · rintro ((h | ⟨rfl, rfl⟩ | ⟨rfl, rfl⟩) | ⟨rfl, rfl⟩ | ⟨rfl, rfl⟩)
    · exact te_mono (fun _ => .inl) h
    · exact ⟨v, a, b, x, hg, .inr rfl, .inl ⟨rfl, .inl rfl⟩⟩
    · exact ⟨u, a, b, x, hg, .inr rfl, .inr ⟨rfl, .inl rfl⟩⟩
    · exact ⟨v, a, b, x, hg, .inr rfl, .inl ⟨rfl, .inr rfl⟩⟩
    · exact ⟨u, a, b, x, hg, .inr rfl, .inr ⟨rfl, .inr rfl⟩⟩
  · rintro ⟨t, c, d, y, h1, h2 | rfl, h3⟩
    · exact .inl (.inl ⟨t, c, d, y, h1, h2, h3⟩)
    · rw [hg] at h1; simp only [Option.some.injEq, Prod.mk.injEq] at h1
      obtain ⟨rfl, rfl, rfl⟩ := h1
      rcases h3 with ⟨rfl, rfl | rfl⟩ | ⟨rfl, rfl | rfl⟩ <;> simp
theorem te_del (hS : ∀ s e, G s = some e → s < S) {s : Nat} {x : Int} (hg : G s = some (a, b, x)) : delE (delE (TE S G T) s (S + a)) s (S + b) = TE S G (fun t => T t ∧ t ≠ s) := by
  have hs := hS s _ hg
  refine E_ext fun v u => ?_
  unfold delE
  constructor
  · rintro ⟨⟨⟨t, c, d, y, h1, h2, h3⟩, n1, n2⟩, n3, n4⟩
    refine ⟨t, c, d, y, h1, ⟨h2, ?_⟩, h3⟩
    rintro rfl
    rw [hg] at h1; simp only [Option.some.injEq, Prod.mk.injEq] at h1
    obtain ⟨rfl, rfl, rfl⟩ := h1
    rcases h3 with ⟨rfl, rfl | rfl⟩ | ⟨rfl, rfl | rfl⟩
    · exact n1 ⟨rfl, rfl⟩
    · exact n3 ⟨rfl, rfl⟩
    · exact n2 ⟨rfl, rfl⟩
    · exact n4 ⟨rfl, rfl⟩
  · rintro ⟨t, c, d, y, h1, ⟨h2, hne⟩, h3⟩
    have ht := hS t _ h1
    exact ⟨⟨⟨t, c, d, y, h1, h2, h3⟩, by omega, by omega⟩, by omega, by omega⟩
theorem te_congr {G' : EMap} {T' : Nat → Prop} (h1 : ∀ s, T s ↔ T' s) (h2 : ∀ s, T s → G s = G' s) : TE S G T = TE S G' T' := by
  refine E_ext fun v u => ?_
  constructor
  · rintro ⟨t, c, d, y, e1, e2, e3⟩
    exact ⟨t, c, d, y, by rw [← h2 t e2]; exact e1, (h1 t).1 e2, e3⟩
  · rintro ⟨t, c, d, y, e1, e2, e3⟩
    have := (h1 t).2 e2
    exact ⟨t, c, d, y, by rw [h2 t this]; exact e1, this, e3⟩
theorem te_out {s v : Nat} (hT : ¬ T s) (hs : s < S) : ¬ TE S G T v s := by
  rintro ⟨t, c, d, y, h1, h2, ⟨_, h3⟩ | ⟨rfl, _⟩⟩
  · omega
  · exact hT h2
/-- A slot that is not in the forest is alone. -/
theorem te_alone {s v : Nat} (hT : ¬ T s) (hs : s < S) (hv : v ≠ s) (hf : Frs (TE S G T)) : ¬ Conn (TE S G T) s v := by
  intro h
  obtain ⟨x, hx⟩ := conn_in (hf.csymm h) (fun e => hv e)
  exact te_out hT hs hx
theorem te_none : TE S (fun _ => none) T = fun _ _ => False := by
  refine E_ext fun v u => ?_
  simp [TE]
end
end Go.Proofs.YtgmnemndjjmgkaaGreat

namespace Go.Proofs.YtgmnemndjjmgkaaGreat
open Classical

/-- Slots, ends and times are in their ranges. -/
structure GW (S V : Nat) (G : EMap) : Prop where
  slot : ∀ s e, G s = some e → s < S
  ends : ∀ s a b x, G s = some (a, b, x) → a < V ∧ b < V ∧ a ≠ b
  rng : ∀ s a b x, G s = some (a, b, x) → -9223372036854775808 ≤ x ∧ x ≤ 9223372036854775807
structure KeyOK (S V : Nat) (G : EMap) (T : Nat → Prop) (key : Nat → Int) : Prop where
  slot : ∀ s a b x, G s = some (a, b, x) → T s → key s = x
  vert : ∀ v, v < V → key (S + v) = 9223372036854775807

section
variable {S V : Nat} {G : EMap} {a b m : Nat} {p : List Nat} {key : Nat → Int}
theorem GW.no (S V : Nat) : GW S V (fun _ => none) := ⟨fun _ _ h => (by cases h), fun _ _ _ _ h => (by cases h), fun _ _ _ _ h => (by cases h)⟩
theorem GW.put (h : GW S V G) {s : Nat} {x : Int} (hs : s < S) (ha : a < V) (hb : b < V) (hab : a ≠ b) (hx : -9223372036854775808 ≤ x ∧ x ≤ 9223372036854775807) : GW S V (updG G s (some (a, b, x))) := by
  have key : ∀ t e, updG G s (some (a, b, x)) t = some e → (t = s ∧ e = (a, b, x)) ∨ G t = some e := by
    intro t e ht
    by_cases h1 : t = s
    · subst h1; rw [updG_same] at ht; cases ht; exact .inl ⟨rfl, rfl⟩
    · rw [updG_other h1] at ht; exact .inr ht
  refine ⟨fun t e ht => ?_, fun t c d y ht => ?_, fun t c d y ht => ?_⟩
  · rcases key _ _ ht with ⟨rfl, _⟩ | h1
    · exact hs
    · exact h.slot _ _ h1
  · rcases key _ _ ht with ⟨rfl, e⟩ | h1
    · cases e; exact ⟨ha, hb, hab⟩
    · exact h.ends _ _ _ _ h1
  · rcases key _ _ ht with ⟨rfl, e⟩ | h1
    · cases e; exact hx
    · exact h.rng _ _ _ _ h1
theorem GW.del (h : GW S V G) (s : Nat) : GW S V (updG G s none) := by
  have key : ∀ t e, updG G s none t = some e → G t = some e := by
    intro t e ht
    by_cases h1 : t = s
    · subst h1; rw [updG_same] at ht; cases ht
    · rw [updG_other h1] at ht; exact ht
  exact ⟨fun t e ht => h.slot _ _ (key _ _ ht), fun t c d y ht => h.ends _ _ _ _ (key _ _ ht), fun t c d y ht => h.rng _ _ _ _ (key _ _ ht)⟩

theorem first_slot (h : GW S V G) (hk : KeyOK S V G (isTree G) key) (hp : IsPath (TE S G (isTree G)) (S + a) (S + b) p) (hab : a ≠ b) (hf : FirstOf key p m) (hn : ∀ x ∈ p, x < S + V) :
    ∃ ma mb y, m < S ∧ G m = some (ma, mb, y) ∧ isTree G m ∧ Cx G (fun t => isTree G t ∧ (t = m ∨ Aft G m y t)) a b := by
  have hms : m < S := by
    apply Classical.byContradiction
    intro hms
    obtain ⟨s, hs, hsS⟩ := te_has hp h.slot hab
    obtain ⟨c, d, x, hg, ht⟩ := te_slots h.slot hp hs hsS
    have h1 := hk.slot s c d x hg ht
    have h2 := hk.vert (m - S) (by have := hn m hf.1; omega)
    rw [show S + (m - S) = m by omega] at h2
    have h3 := h.rng s c d x hg
    rcases hf.2 s hs (by omega) with e | ⟨_, e⟩ <;> omega
  obtain ⟨ma, mb, y, hg, ht⟩ := te_slots h.slot hp hf.1 hms
  refine ⟨ma, mb, y, hms, hg, ht, te_path h.slot hp fun t htp htS => ?_⟩
  by_cases e : t = m
  · exact .inl e
  obtain ⟨c, d, x, hg', ht'⟩ := te_slots h.slot hp htp htS
  have h1 := hk.slot t c d x hg' ht'
  have h2 := hk.slot m ma mb y hg ht
  refine .inr ⟨c, d, x, hg', ?_⟩
  rw [← h1, ← h2]
  rcases hf.2 t htp e with e1 | ⟨e1, e2⟩
  · exact .inl e1
  · exact .inr ⟨e1, e2⟩
end

/-- How many slots have a tree edge. -/
noncomputable def cntT (S : Nat) (T : Nat → Prop) : Nat := ((List.range S).filter fun s => decide (T s)).length
theorem cntT_le (S : Nat) (T : Nat → Prop) : cntT S T ≤ S := by
  unfold cntT
  have := List.length_filter_le (fun s => decide (T s)) (List.range S)
  simpa using this
theorem cntT_congr {S : Nat} {T T' : Nat → Prop} (h : ∀ s, T s ↔ T' s) : cntT S T = cntT S T' := by
  have : T = T' := funext fun s => propext (h s)
  rw [this]
theorem cntT_one {S : Nat} {T T' : Nat → Prop} {m : Nat} (hm : m < S) (ht : T m) (hn : ¬ T' m) (h : ∀ x, x ≠ m → (T' x ↔ T x)) : cntT S T' + 1 = cntT S T := by
  unfold cntT
  exact filter_drop_one (P := fun s => decide (T s)) (P' := fun s => decide (T' s)) (m := m) List.nodup_range (List.mem_range.2 hm) (by simp [ht]) (by simp [hn]) (fun x _ hx => by simp [h x hx])
theorem cntT_drop {S : Nat} {T : Nat → Prop} {m : Nat} (hm : m < S) (ht : T m) : cntT S (fun t => T t ∧ t ≠ m) + 1 = cntT S T :=
  cntT_one hm ht (fun h => h.2 rfl) (fun _ hx => ⟨fun h => h.1, fun h => ⟨h, hx⟩⟩)
theorem cntT_put {S : Nat} {T : Nat → Prop} {m : Nat} (hm : m < S) (ht : ¬ T m) : cntT S (fun t => T t ∨ t = m) = cntT S T + 1 := by
  have := cntT_drop (T := fun t => T t ∨ t = m) hm (.inr rfl)
  rw [← this, cntT_congr (T := fun t => (T t ∨ t = m) ∧ t ≠ m) (T' := T)]
  intro s
  constructor
  · rintro ⟨h | h, h2⟩
    · exact h
    · exact absurd h h2
  · intro h
    exact ⟨.inl h, by rintro rfl; exact ht h⟩
theorem cntT_none (S : Nat) : cntT S (fun _ => False) = 0 := by simp [cntT]
end Go.Proofs.YtgmnemndjjmgkaaGreat
