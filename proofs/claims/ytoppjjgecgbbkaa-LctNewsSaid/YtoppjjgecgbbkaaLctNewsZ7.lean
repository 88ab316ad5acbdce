/- How a slice of pairs of integers reads. -/
import Derived.Test.YtoppjjgecgbbkaaLctNewsZ6
import Derived.Deep.Slices
import Derived.ChangeSame
import Derived.OpenShut
import Derived.Test.YtoppjjgecgbbkaaLctNewsZ1
/- lct: check and Link. -/
namespace Go.Proofs.Ytoppjjgecgbbkaa
open Go.RowKit Classical
set_option maxRecDepth 10000
set_option maxHeartbeats 800000

theorem check_w {w : World} {pf g n cap : Nat} {σ : Tbl} {ed : Int} (h : LctAt w pf g (n + 1) cap σ ed) (b m : Nat) (f : Nat → Int) (hm : m ≤ 100) (hb : ∀ k, k < m → w.cell? ⟨b, k, none⟩ = some (.int .i64 (f k))) :
    Calls Try.prog 35 #[.pointer (some ⟨pf, 0, none⟩), .slice (some ⟨b, 0, none⟩) m m] w fun e w' => ((e = .returned (.int .i64 0) ∧ ∀ k, k < m → inV n (f k) = true) ∨ (e = .returned (.int .i64 3) ∧ ∃ k, k < m ∧ inV n (f k) = false)) ∧ w' = w := by
  have c0 := h.hd.cell 0
  simp only [List.getElem?_cons_zero] at c0
  have hV := Lib.hid (valid_w c0)
  clear c0
  have HB := Lib.hid hb; clear hb
  go_enter Try.func35, Try.ntmps35
  go_wp2_with fail
  refine hV.out.mono ?_
  rintro _ w ⟨rfl, rfl⟩
  go_wp2
  go_loopw [12] (fun x wr => ∃ k : Nat, k ≤ m ∧ x = .int .i64 k ∧ wr = w ∧ ∀ j, j < k → inV n (f j) = true) (fun x _ => m - (intOf x).toNat)
  case atStart => exact ⟨0, Nat.zero_le _, rfl, rfl, fun j hj => by omega⟩
  case round =>
    obtain ⟨k, hk, rfl, rfl, hall⟩ := hrel
    have Hall := Lib.hid hall; clear hall
    by_cases hlt : k < m
    · have hc := HB.out k hlt
      have hA := has_w h (f k)
      cases hv : inV n (f k) with
      | true =>
        rw [hv] at hA
        have HA := Lib.hid hA; clear hA
        have Hv := Lib.hid hv; clear hv
        go_wp2_with fail
        refine HA.out.mono ?_
        rintro _ w0 ⟨rfl, rfl⟩
        go_wp2
        exact ⟨⟨k + 1, by omega, by go_num, trivial, fun j hj => by
          by_cases e : j = k
          · rw [e]; exact Hv.out
          · exact Hall.out j (by omega)⟩, by simp [intOf]; omega⟩
      | false =>
        rw [hv] at hA
        have HA := Lib.hid hA; clear hA
        have Hv := Lib.hid hv; clear hv
        go_wp2_with fail
        refine HA.out.mono ?_
        rintro _ w0 ⟨rfl, rfl⟩
        go_wp2
        go_ret
        exact ⟨.inr ⟨rfl, k, hlt, Hv.out⟩, rfl⟩
    · go_wp2
      go_ret
      exact ⟨.inl ⟨rfl, fun j hj => Hall.out j (by omega)⟩, rfl⟩

theorem lead_v {w : World} {pf g n cap : Nat} {σ : Tbl} {ed : Int} (h : LctAt w pf g (n + 1) cap σ ed) {par d rt : Nat → Nat} {F : Fst} (hF : LF (n + 1) σ F par d rt) (v : Nat) (hv : v < n) :
    Calls Try.prog 36 #[.pointer (some ⟨pf, 0, none⟩), .int .i64 ((v : Int) + 1)] w fun e w' => e = .returned (.tuple #[]) ∧ ∃ τ l R par' d' rt', LctAt w' pf g (n + 1) cap τ ed ∧ LF (n + 1) τ ((.node true l (v + 1) .nil, 0) :: R) par' d' rt' ∧ (∀ x, (τ x).key = (σ x).key) ∧
      (∀ x y, Adj par' x y ↔ Adj par x y) ∧ (∀ x y, rt' x = rt' y ↔ rt x = rt y) ∧ rt' (v + 1) = v + 1 ∧ Fr [g] w w' := lead_w h hF (v + 1) (by omega) (by omega)
theorem refresh_v {w : World} {pf g n cap : Nat} {σ : Tbl} {ed : Int} (h : LctAt w pf g (n + 1) cap σ ed) (v : Nat) (hv : v < n) (hR : InR (n + 1) σ) (h0 : (σ (v + 1)).k0 ≠ v + 1) (h1 : (σ (v + 1)).k1 ≠ v + 1) :
    Calls Try.prog 32 #[.pointer (some ⟨pf, 0, none⟩), .int .i64 ((v : Int) + 1)] w fun e w' => e = .returned (.tuple #[]) ∧ LctAt w' pf g (n + 1) cap (refresh σ (v + 1)) ed ∧ Fr [g] w w' := refresh_w h (v + 1) (by omega) hR h0 h1

theorem LctAt.edges {w w0 : World} {pf g N cap : Nat} {σ : Tbl} {ed : Int} (h : LctAt w pf g N cap σ ed) (hF : Fr [g] w0 w) (e : Int) :
    LctAt (w.setCell ⟨pf, 2, none⟩ (.int .i64 e)) pf g N cap σ e ∧ Fr [pf, g] w0 (w.setCell ⟨pf, 2, none⟩ (.int .i64 e)) := by
  refine ⟨⟨?_, h.nodes.same (Below.heap_setCell _ _ _ _ (fun e => h.ne e.symm)), h.ne, h.le, h.cap⟩, (hF.mono (S' := [pf, g]) (fun b hb => .inl (by simp at hb; simp [hb]))).setCell _ _ (.inl (by simp))⟩
  have := h.hd.set 2 (.int .i64 e)
  simpa using this

noncomputable def linkCode (n : Nat) (E : Nat → Nat → Prop) (a b : Int) : Int :=
  if inV n a = true ∧ inV n b = true then (if a = b then 9 else if Conn E a.toNat b.toNat then 6 else 0) else 3
noncomputable def linkE (n : Nat) (E : Nat → Nat → Prop) (a b : Int) : Nat → Nat → Prop := if linkCode n E a b = 0 then addE E a.toNat b.toNat else E

theorem link_w {w : World} {pf g n : Nat} {E : Nat → Nat → Prop} {key : Nat → Int} (h : LM w pf g n E key) (a b : Int) :
    Calls Try.prog 16 #[.pointer (some ⟨pf, 0, none⟩), .int .i64 a, .int .i64 b] w fun e w' => e = .returned (.int .i64 (linkCode n E a b)) ∧ LM w' pf g n (linkE n E a b) key ∧ Fr [pf, g] w w' := by
  have H := Lib.hid h
  have hfrs := Lib.hid (LG.frs h)
  obtain ⟨hp1, hg1, hn1⟩ := LG.lts h
  obtain ⟨cap, σ, F, par, d, rt, hL, hF, hE, hk⟩ := h
  clear hF hE hk
  have hLa : LctAt (w.alloc (.cells #[.int .i64 a, .int .i64 b] 3)) pf g (n + 1) cap σ ((n : Int) - nc n E) := hL.below ((Below.refl _ w).alloc (Nat.le_refl _) _) hp1 hg1
  have hblk := Blk.new w [.int .i64 a, .int .i64 b] 3
  have hFa : Fr [] w (w.alloc (.cells #[.int .i64 a, .int .i64 b] 3)) := (Fr.refl _ _).alloc _
  have HMa := Lib.hid (LG.fr H.out hFa (by simp) (by simp))
  have hCk := check_w hLa w.heap.size 2 (fun k => if k = 0 then a else b) (by decide) (fun k hk => by
    rw [hblk.cell]
    rcases (show k = 0 ∨ k = 1 by omega) with rfl | rfl <;> rfl)
  have HCk := Lib.hid hCk; clear hCk hblk
  clear hLa hL
  go_enter Try.func16, Try.ntmps16
  go_wp2_with fail
  refine HCk.out.mono ?_
  rintro _ w1 ⟨hcode, rfl⟩
  clear HCk
  generalize w.alloc (.cells #[.int .i64 a, .int .i64 b] 3) = w1 at *
  rcases hcode with ⟨rfl, hall⟩ | ⟨rfl, k, hk, hbad⟩
  · have va : inV n a = true := hall 0 (by decide)
    have vb : inV n b = true := hall 1 (by decide)
    clear hall
    by_cases hab : a = b
    · have hlc : linkCode n E a b = 9 := by unfold linkCode; rw [if_pos ⟨va, vb⟩, if_pos hab]
      have hle : linkE n E a b = E := by unfold linkE; rw [hlc]; simp
      have Hlc := Lib.hid (And.intro hlc hle); clear hlc hle
      have hb : (a == b) = true := beq_iff_eq.2 hab
      clear va vb hab
      go_wp2
      go_ret
      rw [Hlc.out.1, Hlc.out.2]
      exact ⟨rfl, HMa.out, hFa.mono (by simp)⟩
    · have hb : (a == b) = false := beq_eq_false_iff_ne.2 hab
      have HL0 := Lib.hid (And.intro va (And.intro vb hab)); clear hab
      go_wp2_with fail
      refine (connected_w HMa.out a b).mono ?_
      rintro _ w2 ⟨r, rfl, hr, hM2, hF2⟩
      cases r with
      | true =>
        obtain ⟨_, _, hc⟩ := hr.1 rfl
        have hlc : linkCode n E a b = 6 := by unfold linkCode; rw [if_pos ⟨va, vb⟩, if_neg HL0.out.2.2, if_pos hc]
        have hle : linkE n E a b = E := by unfold linkE; rw [hlc]; simp
        have Hlc := Lib.hid (And.intro hlc hle); clear hlc hle hr
        have HM2 := Lib.hid hM2; clear hM2 va vb hc
        go_wp2
        go_ret
        rw [Hlc.out.1, Hlc.out.2]
        exact ⟨rfl, HM2.out, (hFa.mono (S' := [pf, g]) (by simp)).trans hF2 (fun q hq => .inl (by simp at hq; simp [hq]))⟩
      | false =>
        have hnc : ¬ Conn E a.toNat b.toNat := fun e => by have := hr.2 ⟨va, vb, e⟩; cases this
        have hlc : linkCode n E a b = 0 := by unfold linkCode; rw [if_pos ⟨va, vb⟩, if_neg HL0.out.2.2, if_neg hnc]
        have hle : linkE n E a b = addE E a.toNat b.toNat := by unfold linkE; rw [hlc]; simp
        have Hlc := Lib.hid (And.intro hlc hle); clear hlc hle hr
        obtain ⟨v, rfl, hv⟩ := inV_nat va
        obtain ⟨u, rfl, hu⟩ := inV_nat vb
        simp only [Int.toNat_natCast] at hnc Hlc
        have HN := Lib.hid hnc
        clear va vb HL0
        obtain ⟨cap2, σ2, F2, par2, d2, rt2, hL2, hLF2, hE2, hk2⟩ := hM2
        have hrt : rt2 (v + 1) ≠ rt2 (u + 1) := fun e => hnc ((conn_rt hLF2.rtd hE2).2 e)
        clear hnc
        have HF2 := Lib.hid hLF2; clear hLF2
        have HE2 := Lib.hid hE2; clear hE2
        have HK2 := Lib.hid hk2; clear hk2
        have HRt := Lib.hid hrt; clear hrt
        have hN := hL2.le
        go_wp2_with fail
        refine (lead_v hL2 HF2.out v hv).mono ?_
        rintro _ w3 ⟨rfl, τ3, l3, R3, par3, d3, rt3, hL3, hLF3, hk3, hadj3, hrt3, hri3, hF3⟩
        have HF3 := Lib.hid hLF3; clear hLF3
        have HQ3 := Lib.hid (And.intro hk3 (And.intro hadj3 (And.intro hrt3 hri3))); clear hk3 hadj3 hrt3 hri3
        go_wp2_with fail
        refine (expose_v hL3 HF3.out u hu).mono ?_
        rintro _ w4 ⟨m4, τ4, l4, R4, rfl, hL4, hE4, hF4⟩
        have key : (∃ par' d' rt' F', LF (n + 1) (refresh (lnk2 τ4 (v + 1) (u + 1)) (u + 1)) F' par' d' rt' ∧ (∀ x y, Adj par' x y ↔ Adj par2 x y ∨ (x = v + 1 ∧ y = u + 1) ∨ (x = u + 1 ∧ y = v + 1))) ∧
            (∀ x, (refresh (lnk2 τ4 (v + 1) (u + 1)) (u + 1) x).key = (σ2 x).key) ∧ (lnk2 τ4 (v + 1) (u + 1) (u + 1)).k0 ≠ u + 1 ∧ (lnk2 τ4 (v + 1) (u + 1) (u + 1)).k1 ≠ u + 1 ∧ InR (n + 1) (lnk2 τ4 (v + 1) (u + 1)) := by
          obtain ⟨hk3, hadj3, hrt3, hri3⟩ := HQ3.out
          have hne3 : rt3 (v + 1) ≠ rt3 (u + 1) := fun e => HRt.out ((hrt3 _ _).1 e)
          have hin := hE4.trees _ (List.mem_cons_self) ⟨v + 1, by simp [BT.nodes], hne3⟩
          obtain ⟨R5, hR5⟩ := mem_split_perm hin
          have hlf := hE4.lf.perm ((List.Perm.cons _ hR5).trans (List.Perm.swap _ _ _))
          obtain ⟨⟨par', d', rt', a1, a2⟩, a3, a4, a5, a6⟩ := hlf.link (a := v + 1) rfl (by omega) hri3 (fun e => hne3 (by rw [hri3, e]))
          exact ⟨⟨par', d', rt', _, a1, fun x y => by rw [a2, hadj3]⟩, fun x => by rw [a3, hE4.key, hk3], a4, a5, a6⟩
        have Key := Lib.hid key; clear key hE4
        have d4 := hL4.hd.cell 1
        simp only [List.getElem?_cons_zero, List.getElem?_cons_succ] at d4
        have hfz4 := hL4.nodes.frozen
        have a2 := hL4.nodes.c2 (v + 1) (by omega)
        obtain ⟨hL5, hF5⟩ := hL4.st2 (Fr.refl [g] w4) (i := v + 1) (by omega) (u + 1)
        have hL5' : LctAt (w4.setCell ⟨g, (v + 1) * 9 + 2, none⟩ (.int .i64 ((u : Int) + 1))) pf g (n + 1) cap2 (lnk1 τ4 (v + 1) (u + 1)) ((n : Int) - nc n E) := hL5
        have hF5' : Fr [g] w4 (w4.setCell ⟨g, (v + 1) * 9 + 2, none⟩ (.int .i64 ((u : Int) + 1))) := hF5
        have HL5 := Lib.hid hL5'; clear hL5 hL5' hF5
        have hv2 : ((v + 1 : Nat) : Int) < ((n + 1 : Nat) : Int) := by omega
        have hu2 : ((u + 1 : Nat) : Int) < ((n + 1 : Nat) : Int) := by omega
        go_wp2
        generalize w4.setCell ⟨g, (v + 1) * 9 + 2, none⟩ (.int .i64 ((u : Int) + 1)) = w5 at *
        have hL5 := HL5.out
        clear HL5 d4 hfz4 a2
        have d5 := hL5.hd.cell 1
        simp only [List.getElem?_cons_zero, List.getElem?_cons_succ] at d5
        have hfz5 := hL5.nodes.frozen
        have b7 := hL5.nodes.c7 (u + 1) (by omega)
        have b8 := hL5.nodes.c8 (v + 1) (by omega)
        have hwu : IntKind.i64.wrap ((u : Int) + 1) = (u : Int) + 1 := IntWalk.i64_in _ (by omega)
        have hwv : IntKind.i64.wrap ((v : Int) + 1) = (v : Int) + 1 := IntWalk.i64_in _ (by omega)
        have htu : ((u : Int) + 1).toNat = u + 1 := by omega
        have htv : ((v : Int) + 1).toNat = v + 1 := by omega
        have hcu : 0 ≤ (u : Int) + 1 := by omega
        have hcv : 0 ≤ (v : Int) + 1 := by omega
        have hcu2 : (u : Int) + 1 < (n : Int) + 1 := by omega
        have hcv2 : (v : Int) + 1 < (n : Int) + 1 := by omega
        refine region_one 21 (fun w' => LctAt w' pf g (n + 1) cap2 (lnk2 τ4 (v + 1) (u + 1)) ((n : Int) - nc n E) ∧ Fr [g] w5 w') (by kernel_rfl) (by kernel_rfl) (by kernel_rfl) ?_
        iterate 21 (refine gWalk_pre (by decide) (fun K hK => ?_); go_simp; refine hK _ ?_; clear hK K)
        refine gWalk_write rfl undef (fun w' hw' => ?_) ?_
        · obtain ⟨nq, rfl⟩ := hw'
          go_simp
          rw [iw64]
          exact (hL5.eqv (Eqv.drewN w5 nq)).st7 ((Fr.refl [g] w5).drewN nq) (i := u + 1) (by omega) _
        refine gWalk_nil ?_
        rintro w6 ⟨hL6, hF6⟩
        clear b7 b8 d5 hfz5
        go_wp2_with fail
        refine (refresh_v hL6 u hu Key.out.2.2.2.2 Key.out.2.2.1 Key.out.2.2.2.1).mono ?_
        rintro _ w7 ⟨rfl, hL7, hF7⟩
        have c7 := hL7.hd.cell 2
        simp only [List.getElem?_cons_zero, List.getElem?_cons_succ] at c7
        have hfz7 := hL7.hd.frozen 2
        obtain ⟨par', d', rt', F', q1, q2⟩ := Key.out.1
        have hAE : ∀ x y, addE E v u x y ↔ Adj par' (x + 1) (y + 1) := by
          intro x y
          rw [q2]
          unfold addE
          rw [HE2.out x y]
          simp only [Nat.add_right_cancel_iff]
        have hcnt := nc_add (n := n) hfrs.out ⟨par', d', rt', q1.rtd, hAE⟩ HN.out hv hu
        have hnc1 := nc_le n (addE E v u)
        have hed : IntKind.i64.wrap ((n : Int) - nc n E + 1) = (n : Int) - nc n (addE E v u) := by
          rw [show (n : Int) - nc n E + 1 = (n : Int) - nc n (addE E v u) by omega]; exact IntWalk.i64_in _ (by omega)
        obtain ⟨hL8, hF8⟩ := hL7.edges (hF2.then (hF3.then (hF4.then (hF5'.then (hF6.then hF7))))) ((n : Int) - nc n (addE E v u))
        have Hfin := Lib.hid (show LM _ pf g n (addE E v u) key from ⟨cap2, _, F', par', d', rt', hL8, q1, hAE, fun x hx => by rw [Key.out.2.1]; exact HK2.out x hx⟩)
        have hnq : nc n E = nc n (addE E v u) + 1 := hcnt.symm
        rw [hnq] at c7
        have hed2 : (n : Int) - ((nc n (addE E v u) + 1 : Nat) : Int) + 1 = (n : Int) - nc n (addE E v u) := by omega
        clear hL8 q1 q2 hAE hcnt hnq hed Key
        generalize nc n (addE E v u) = z at *
        go_wp2
        go_ret
        rw [Hlc.out.1, Hlc.out.2]
        have e : (n : Int) - ((z : Int) + 1) + 1 = (n : Int) - z := by omega
        rw [e]
        exact ⟨rfl, Hfin.out, (hFa.mono (S' := [pf, g]) (by simp)).trans hF8 (fun q hq => .inl hq)⟩
  · have hlc : linkCode n E a b = 3 := by
      unfold linkCode; rw [if_neg]
      rintro ⟨h1, h2⟩
      rcases (show k = 0 ∨ k = 1 by omega) with rfl | rfl
      · have hbad : inV n a = false := hbad; rw [h1] at hbad; cases hbad
      · have hbad : inV n b = false := hbad; rw [h2] at hbad; cases hbad
    have hle : linkE n E a b = E := by unfold linkE; rw [hlc]; simp
    have Hlc := Lib.hid (And.intro hlc hle); clear hlc hle hbad
    go_wp2
    go_ret
    rw [Hlc.out.1, Hlc.out.2]
    exact ⟨rfl, HMa.out, hFa.mono (by simp)⟩

end Go.Proofs.Ytoppjjgecgbbkaa

/- lct: New. -/
namespace Go.Proofs.Ytoppjjgecgbbkaa
open Go.RowKit
set_option maxRecDepth 10000
set_option maxHeartbeats 800000

theorem new_no (n : Int) (w : World) (h : n < 0 ∨ 65536 < n) :
    Calls Try.prog 14 #[.int .i64 n] w fun e w' => e = .returned (.tuple #[.pointer none, .int .i64 2]) ∧ w' = w := by
  rcases h with h | h
  · go_enter Try.func14, Try.ntmps14
    go_wp2
    go_ret2
    exact ⟨rfl, rfl⟩
  · have h0 : ¬ n < 0 := by omega
    go_enter Try.func14, Try.ntmps14
    go_wp2
    go_ret2
    exact ⟨rfl, rfl⟩

def nd0 : Nd := { k0 := 0, k1 := 0, up := 0, flip := false, key := 0, size := 0, first := 0, light := 0, total := 0 }
def ndv : Value := .agg #[.int .i64 0, .int .i64 0, .int .i64 0, .bool false, .int .i64 0, .int .i64 0, .int .i64 0, .int .i64 0, .int .i64 0]
theorem Try.info71 : (Try.prog.info? 71).map (fun i => (i.zero, i.size, i.bytes)) = some (some ndv, 9, 72) := by kernel_rfl
theorem ndv_cells : ndv.cells = #[.int .i64 0, .int .i64 0, .int .i64 0, .bool false, .int .i64 0, .int .i64 0, .int .i64 0, .int .i64 0, .int .i64 0] := by kernel_rfl

theorem made_nodes (N i f : Nat) (hi : i < N) (hf : f < 9) : (madeCells ndv.cells (N * 9))[i * 9 + f]? = some (fv nd0 f) := by
  rw [ndv_cells]
  unfold madeCells
  have hlt : i * 9 + f < N * 9 := by omega
  have : (i * 9 + f) % 9 = f := by omega
  simp only [Array.getElem?_map, Array.getElem?_range, hlt, if_true, Option.map_some]
  show some (_[(i * 9 + f) % 9]!) = _
  rw [this]
  match f, hf with
  | 0, _ => rfl
  | 1, _ => rfl
  | 2, _ => rfl
  | 3, _ => rfl
  | 4, _ => rfl
  | 5, _ => rfl
  | 6, _ => rfl
  | 7, _ => rfl
  | 8, _ => rfl

def zeroNodes (m : Nat) : Array Value := madeCells ndv.cells (m * 9)
theorem run_make_nodes (n : Nat) (w : World) (hn : n ≤ 1048576) : (Instr.makeSlice 63 (.int .i64 n) (.int .i64 n)).run Try.prog w = .ok (.slice (some ⟨w.heap.size, 0, none⟩) n n) (w.alloc (.cells (zeroNodes n) 71)) := by
  obtain ⟨i0, hi, hz0, hz1, hz2⟩ := info_parts Try.info71
  have h := run_make (P := Try.prog) w 63 71 i0 ndv Try.underlying63 hi hz0 .i64 .i64 n n (by omega) (by omega) (by rw [hz2]; omega) (by omega)
  rw [hz1] at h
  simp only [Int.toNat_natCast] at h
  exact h

def newT (k : Nat) : Tbl := fun i => if 0 < i ∧ i ≤ k then { nd0 with size := 1, first := i, total := 1 } else nd0
theorem newT_succ (k : Nat) : refresh (newT k) (k + 1) = newT (k + 1) := by
  have h0 : (newT k (k + 1)).k0 = 0 ∧ (newT k (k + 1)).k1 = 0 ∧ newT k (k + 1) = nd0 := by
    have : newT k (k + 1) = nd0 := by unfold newT; rw [if_neg (by omega)]
    rw [this]; exact ⟨rfl, rfl, rfl⟩
  have e : refresh (newT k) (k + 1) = ref0 (newT k) (k + 1) := by
    show refKid (refKid (ref0 (newT k) (k + 1)) (k + 1) (newT k (k + 1)).k0) (k + 1) (newT k (k + 1)).k1 = _
    rw [h0.1, h0.2.1]; rfl
  rw [e]
  funext i
  unfold ref0
  by_cases hi : i = k + 1
  · subst hi
    rw [upd_same, h0.2.2]
    unfold newT; rw [if_pos (by omega)]
    simp [nd0, wrap64]
  · rw [upd_other hi]
    unfold newT
    by_cases h1 : 0 < i ∧ i ≤ k
    · rw [if_pos h1, if_pos (by omega)]
    · rw [if_neg h1, if_neg (by omega)]
theorem newT_inR (k N : Nat) (_hk : k < N) : InR N (newT k) := by
  intro i hi
  unfold newT
  split
  · exact ⟨by show 0 < N; omega, by show 0 < N; omega, by show 0 < N; omega, hi⟩
  · exact ⟨by show 0 < N; omega, by show 0 < N; omega, by show 0 < N; omega, by show 0 < N; omega⟩

theorem new_w (n : Nat) (w : World) (h : n ≤ 65536) :
    Calls Try.prog 14 #[.int .i64 n] w fun e w' => ∃ pf g, e = .returned (.tuple #[.pointer (some ⟨pf, 0, none⟩), .int .i64 0]) ∧ LM w' pf g n (fun _ _ => False) (fun _ => 0) ∧ Fr [] w w' ∧ w.heap.size ≤ pf ∧ w.heap.size ≤ g := by
  have hmk : ∀ W : World, (Instr.makeSlice 63 (.int .i64 ((n : Int) + 1)) (.int .i64 ((n : Int) + 1))).run Try.prog W = .ok (.slice (some ⟨W.heap.size, 0, none⟩) (n + 1) (n + 1)) (W.alloc (.cells (zeroNodes (n + 1)) 71)) := fun W => run_make_nodes (n + 1) W (by omega)
  have h0 : ¬ ((n : Int) < 0) := by omega
  have h1 : ¬ (65536 < (n : Int)) := by omega
  go_enter Try.func14, Try.ntmps14
  go_wp2
  obtain ⟨W0, hW0⟩ : ∃ W0, (w.alloc (.cells (zeroNodes (n + 1)) 71)).alloc (.cells #[.pointer (some ⟨w.heap.size + 1, 0, none⟩), .slice (some ⟨w.heap.size, 0, none⟩) (n + 1) (n + 1), .int .i64 0] 65) = W0 := ⟨_, rfl⟩
  have hL0 : LctAt W0 (w.heap.size + 1) w.heap.size (n + 1) (n + 1) (newT 0) 0 := by
    subst hW0
    refine ⟨?_, ?_, by omega, by omega, Nat.le_refl _⟩
    · have := Blk.new (w.alloc (.cells (zeroNodes (n + 1)) 71)) [.pointer (some ⟨w.heap.size + 1, 0, none⟩), .slice (some ⟨w.heap.size, 0, none⟩) (n + 1) (n + 1), .int .i64 0] 65
      rw [World.size_alloc] at this; exact this
    · refine ⟨zeroNodes (n + 1), ?_, by simp [zeroNodes, size_madeCells], fun i hi f hf => ?_⟩
      · exact (Below.heap_alloc _ _ _ (by simp)).trans (World.alloc_heap_new w _)
      · have : newT 0 i = nd0 := by unfold newT; rw [if_neg (by omega)]
        rw [this]; exact made_nodes (n + 1) i f hi hf
  have hF0 : Fr [] w W0 := by subst hW0; exact ((Fr.refl _ _).alloc _).alloc _
  rw [hW0]
  clear hW0 hmk
  go_loopw [22] (fun x wr => ∃ k : Nat, k ≤ n ∧ x = .int .i64 k ∧ LctAt wr (w.heap.size + 1) w.heap.size (n + 1) (n + 1) (newT k) 0 ∧ Fr [] w wr) (fun x _ => n - (intOf x).toNat)
  case atStart => exact ⟨0, Nat.zero_le _, rfl, hL0, hF0⟩
  case round =>
    clear hL0 hF0
    obtain ⟨k, hk, rfl, hL, hF⟩ := hrel
    by_cases hlt : k < n
    · have hz : newT k (k + 1) = nd0 := by unfold newT; rw [if_neg (by omega)]
      have HQ := Lib.hid (show (newT k (k + 1)).k0 ≠ k + 1 ∧ (newT k (k + 1)).k1 ≠ k + 1 by rw [hz]; simp [nd0])
      clear hz
      go_wp2_with fail
      refine (refresh_v hL k hlt (newT_inR k (n + 1) (by omega)) HQ.out.1 HQ.out.2).mono ?_
      rintro _ w2 ⟨rfl, hL2, hF2⟩
      rw [newT_succ] at hL2
      go_wp2
      exact ⟨⟨k + 1, by omega, by go_num, hL2, hF.trans hF2 (fun b hb => .inr (by simp at hb; omega))⟩, by simp [intOf]; omega⟩
    · obtain rfl : k = n := by omega
      go_wp2
      go_ret2
      have hv : ∀ x, 0 < x → x < k + 1 → newT k x = { nd0 with size := 1, first := x, total := 1 } := fun x h1 h2 => by unfold newT; rw [if_pos (by omega)]
      have h00 : newT k 0 = nd0 := by unfold newT; rw [if_neg (by omega)]
      have hlf := LF.new k (newT k) (by rw [h00]; simp [nd0]) (fun x h1 h2 => by rw [hv x h1 h2]; simp [nd0])
      refine ⟨w.heap.size + 1, w.heap.size, rfl, ⟨k + 1, newT k, _, _, _, _, ?_, hlf, fun v u => ?_, fun v hv' => ?_⟩, hF, by omega, Nat.le_refl _⟩
      · rw [nc_none]; simpa using hL
      · simp [Adj]
      · rw [hv (v + 1) (by omega) (by omega)]; rfl

end Go.Proofs.Ytoppjjgecgbbkaa

/- lct: Meet. -/
namespace Go.Proofs.Ytoppjjgecgbbkaa
open Go.RowKit
set_option maxRecDepth 10000
set_option maxHeartbeats 800000

/-- The one vertex that lies on all three paths. -/
def MeetsAt (E : Nat → Nat → Prop) (a b c m : Nat) : Prop := ∃ p q r, IsPath E a b p ∧ IsPath E b c q ∧ IsPath E c a r ∧ ∀ x, (x ∈ p ∧ x ∈ q ∧ x ∈ r) ↔ x = m

theorem meet_paths {E : Nat → Nat → Prop} (h : Frs E) {a b c m : Nat} {A Rq Bq : List Nat} (h1 : IsPath E a b (A ++ m :: Rq)) (h2 : IsPath E a c (A ++ m :: Bq)) (hd : ∀ x ∈ Bq, x ∉ A ++ m :: Rq) : MeetsAt E a b c m := by
  have hs : ∀ v u, E v u → E u v := fun _ _ e => h.symm e
  have r2 := h2.rev hs
  have e1 := h1.split.2.rev hs
  have e2 := h2.split.2
  rw [List.reverse_cons] at e1
  have n1 := List.nodup_append.1 h1.nd
  have n2 := List.nodup_append.1 h2.nd
  have n1c := List.nodup_cons.1 n1.2.1
  have n2c := List.nodup_cons.1 n2.2.1
  have hq : IsPath E b c (Rq.reverse ++ m :: Bq) := by
    refine e1.join e2 ?_
    rw [List.nodup_append]
    refine ⟨(List.reverse_perm _).nodup_iff.2 n1c.2, n2.2.1, fun x hx y hy => ?_⟩
    rw [List.mem_reverse] at hx
    rintro rfl
    rcases List.mem_cons.1 hy with rfl | hy
    · exact n1c.1 hx
    · exact hd x hy (by simp [hx])
  refine ⟨_, _, _, h1, hq, r2, fun x => ⟨?_, ?_⟩⟩
  · rintro ⟨p1, p2, p3⟩
    simp only [List.mem_append, List.mem_cons, List.mem_reverse] at p1 p2 p3
    rcases p2 with p2 | p2 | p2
    · rcases p3 with p3 | p3 | p3
      · exact absurd rfl (n1.2.2 x p3 x (by simp [p2]))
      · exact p3
      · exact absurd (by simp [p2]) (hd x p3)
    · exact p2
    · exact absurd (by simpa using p1) (hd x p2)
  · rintro rfl; simp

theorem meet_w {w : World} {pf g n : Nat} {E : Nat → Nat → Prop} {key : Nat → Int} {ed : Int} (h : LG w pf g n E key ed) (a b c : Int) :
    Calls Try.prog 20 #[.pointer (some ⟨pf, 0, none⟩), .int .i64 a, .int .i64 b, .int .i64 c] w fun e w' =>
      ((¬ (ConnI n E a b ∧ ConnI n E b c) ∧ e = .returned (.tuple #[.int .i64 0, .bool false])) ∨ ∃ v u x m : Nat, a = v ∧ b = u ∧ c = x ∧ v < n ∧ u < n ∧ x < n ∧ m < n ∧ MeetsAt E v u x m ∧ e = .returned (.tuple #[.int .i64 m, .bool true])) ∧ LG w' pf g n E key ed ∧ Fr [g] w w' := by
  go_enter Try.func20, Try.ntmps20
  go_wp2_with fail
  refine (connected_w h a b).mono ?_
  rintro _ w2 ⟨r, rfl, hr, h2, hF2⟩
  have HR := Lib.hid hr; clear hr
  cases r with
  | false =>
    have H2 := Lib.hid h2; clear h2 h
    go_wp2
    go_ret2
    exact ⟨.inl ⟨fun e => (by have := HR.out.2 e.1; cases this), rfl⟩, H2.out, hF2⟩
  | true =>
    have HC := Lib.hid (HR.out.1 rfl)
    clear HR
    go_wp2_with fail
    refine (connected_w h2 b c).mono ?_
    rintro _ w3 ⟨r, rfl, hr, h3, hF3⟩
    have HR2 := Lib.hid hr; clear hr
    cases r with
    | false =>
      have H3 := Lib.hid h3; clear h3 h2 h
      go_wp2
      go_ret2
      exact ⟨.inl ⟨fun e => (by have := HR2.out.2 e.2; cases this), rfl⟩, H3.out, hF2.then hF3⟩
    | true =>
      obtain ⟨va, vb, hc⟩ := HC.out
      obtain ⟨_, vc, hc2⟩ := HR2.out.1 rfl
      obtain ⟨v, rfl, hv⟩ := inV_nat va
      obtain ⟨u, rfl, hu⟩ := inV_nat vb
      obtain ⟨x, rfl, hx⟩ := inV_nat vc
      clear va vb vc HC HR2 h h2
      have hfrs := h3.frs
      obtain ⟨cap, σ, F, par, d, rt, hL, hF, hE, hk⟩ := h3
      have hrt := (conn_rt hF.rtd hE).1 hc
      have hrt2 := (conn_rt hF.rtd hE).1 hc2
      simp only [Int.toNat_natCast] at hrt hrt2
      have HF := Lib.hid hF; clear hF
      have HE := Lib.hid hE; clear hE
      have HK := Lib.hid hk; clear hk
      have HFs := Lib.hid hfrs; clear hfrs
      have hN := hL.le
      go_wp2_with fail
      refine (path_v hL HF.out v u hv hu).mono ?_
      rintro _ w4 ⟨rfl, τ, l, R, par', d', rt', hL4, hP, hF4⟩
      have HP := Lib.hid hP; clear hP
      go_wp2_with fail
      refine (expose_v hL4 HP.out.lf x hx).mono ?_
      rintro _ w5 ⟨m, τ5, l5, R5, rfl, hL5, hE5, hF5⟩
      have hm : ∃ m', m = m' + 1 ∧ m' < n ∧ MeetsAt E v u x m' := by
        have hP := HP.out
        obtain ⟨T0, A, Bq, Rq, q1, q2, q3, q4⟩ := hE5.meets
        obtain ⟨p, hp1, hp2, hp3⟩ := hP.at HE.out hrt
        obtain ⟨hn, hz, hcc⟩ := hE5.lf.top_seq
        -- the top path is that of u
        have rxu : rt' (x + 1) = rt' (u + 1) := (hP.rts _ _).2 hrt2.symm
        have hmT : m ∈ T0.nodes := seq_mem.1 (by rw [q2]; simp)
        have hmN := hP.lf.lt q1 hmT
        have hmx : rt' m = rt' (x + 1) := by
          have hmS : m ∈ l5.seq ++ [x + 1] := by rw [q3]; simp
          have hxS : x + 1 ∈ l5.seq ++ [x + 1] := by simp
          generalize l5.seq ++ [x + 1] = s at *
          cases s with
          | nil => cases hmS
          | cons y s => rw [ch_rt_head hE5.lf.rt0 hE5.lf.rt1 hcc hz m hmS, ch_rt_head hE5.lf.rt0 hE5.lf.rt1 hcc hz _ hxS]
        have hT0 : T0 = .node false l (u + 1) .nil := by
          rcases List.mem_cons.1 q1 with e | e
          · exact (Prod.mk.inj e).1
          · exfalso
            have c1 := hP.lf.ch _ (List.mem_cons_self)
            have c2 := hP.lf.ch _ q1
            have z1 := hP.lf.seq0 (List.mem_cons_self)
            have z2 := hP.lf.seq0 q1
            have su : u + 1 ∈ (BT.node false l (u + 1) .nil).seq := seq_mem.2 (by simp [BT.nodes])
            have sm := seq_mem.2 hmT
            have hdis := hP.lf.disj e
            dsimp only at c1 c2 z1 z2 hdis
            cases hs1 : (BT.node false l (u + 1) BT.nil).seq with
            | nil => rw [hs1] at su; cases su
            | cons y1 s1 =>
              cases hs2 : T0.seq with
              | nil => rw [hs2] at sm; cases sm
              | cons y2 s2 =>
                have my1 : y1 ∈ (BT.node false l (u + 1) BT.nil).nodes := seq_mem.1 (by rw [hs1]; simp)
                have my2 : y2 ∈ T0.nodes := seq_mem.1 (by rw [hs2]; simp)
                rw [hs1] at c1 z1 su; rw [hs2] at c2 z2 sm
                have ra := ch_rt_head hP.lf.rt0 hP.lf.rt1 c1 z1 _ su
                have rb := ch_rt_head hP.lf.rt0 hP.lf.rt1 c2 z2 _ sm
                have hyy : y1 = y2 := by rw [← ra, ← rb, hmx, rxu]
                exact hdis y1 my1 (hyy ▸ my2)
        subst hT0
        have hs : (BT.node false l (u + 1) BT.nil).seq = p.map (· + 1) := by rw [hp2]; simp [BT.seq]
        rw [hs] at q2
        -- both paths over the vertices
        have h1 : IsPath (Adj par) (v + 1) (u + 1) (A ++ m :: Rq) := by rw [← q2]; exact (path_shift HE.out).1 hp1
        have h2 : IsPath (Adj par) (v + 1) (x + 1) (A ++ m :: Bq) := by
          rw [← q3]
          have hl : (l5.seq ++ [x + 1]).getLast? = some (x + 1) := last_snoc _ _
          have hxS : x + 1 ∈ l5.seq ++ [x + 1] := by simp
          have rv : rt' (x + 1) = v + 1 := by rw [rxu, ← (hP.rts _ _).2 hrt, hP.rti]
          generalize l5.seq ++ [x + 1] = s at *
          cases s with
          | nil => cases hxS
          | cons y s =>
            have hy : y = v + 1 := by rw [← ch_rt_head hE5.lf.rt0 hE5.lf.rt1 hcc hz _ hxS, rv]
            subst hy
            have : IsPath (Adj par') (v + 1) (x + 1) ((v + 1) :: s) := ⟨s, rfl, ch_wk (by omega) (fun z hz' => hz z (by simp [hz'])) hcc.2, hn, hl⟩
            exact this.mono (fun a b => (hP.adj a b).1)
        obtain ⟨m', rfl⟩ : ∃ m', m = m' + 1 := ⟨m - 1, by omega⟩
        have g1 := (path_unshift HE.out h1).1
        have g2 := (path_unshift HE.out h2).1
        rw [List.map_append, List.map_cons] at g1 g2
        have z3 : ∀ z ∈ Bq, z ≠ 0 := fun z hz' => hz z (by rw [q3]; simp [hz'])
        refine ⟨m', rfl, by omega, meet_paths HFs.out g1 g2 (fun y hy hy2 => ?_)⟩
        obtain ⟨z, hz1, rfl⟩ := List.mem_map.1 hy
        have hzn : z ∈ A ++ (m' + 1) :: Rq := by
          have e2 : (A ++ (m' + 1) :: Rq).map (· - 1) = A.map (· - 1) ++ m' :: Rq.map (· - 1) := by simp
          rw [← e2] at hy2
          obtain ⟨z', hz2, e⟩ := List.mem_map.1 hy2
          have h0' : z' ≠ 0 := by rw [← q2] at hz2; obtain ⟨k, _, rfl⟩ := List.mem_map.1 hz2; omega
          have := z3 z hz1
          have : z' = z := by omega
          rw [← this]; exact hz2
        refine q4 z hz1 (seq_mem.1 ?_)
        rw [hs, q2]; exact hzn
      obtain ⟨m', rfl, hmn, hm⟩ := hm
      have HM := Lib.hid hm; clear hm
      have HE5 := Lib.hid hE5; clear hE5
      have hw1 : ((m' + 1 : Nat) : Int) - 1 = m' := by omega
      go_wp2
      go_ret2
      refine ⟨.inr ⟨v, u, x, m', rfl, rfl, rfl, hv, hu, hx, hmn, HM.out, rfl⟩, ⟨cap, τ5, _, par', d', rt', hL5, HE5.out.lf, fun a b => (HE.out a b).trans (HP.out.adj _ _).symm, fun y hy => by rw [HE5.out.key, HP.out.key]; exact HK.out y hy⟩, hF2.then (hF3.then (hF4.then hF5))⟩

end Go.Proofs.Ytoppjjgecgbbkaa

/- lct: the answers as functions of the forest. -/
namespace Go.Proofs.Ytoppjjgecgbbkaa
open Go.RowKit Classical
set_option maxRecDepth 10000
set_option maxHeartbeats 800000

noncomputable def connB (n : Nat) (E : Nat → Nat → Prop) (a b : Int) : Bool := decide (ConnI n E a b)
noncomputable def thePath (E : Nat → Nat → Prop) (a b : Nat) : List Nat := if h : Conn E a b then Classical.choose h else []
noncomputable def theMeet (E : Nat → Nat → Prop) (a b c : Nat) : Nat := if h : ∃ m, MeetsAt E a b c m then Classical.choose h else 0
noncomputable def distI (n : Nat) (E : Nat → Nat → Prop) (a b : Int) : Int := if ConnI n E a b then ((thePath E a.toNat b.toNat).length : Int) - 1 else -1
noncomputable def meetB (n : Nat) (E : Nat → Nat → Prop) (a b c : Int) : Bool := connB n E a b && connB n E b c
noncomputable def meetI (n : Nat) (E : Nat → Nat → Prop) (a b c : Int) : Nat := if meetB n E a b c then theMeet E a.toNat b.toNat c.toNat else 0

section
variable {E : Nat → Nat → Prop} {a b c : Nat}
theorem thePath_eq (h : Frs E) {p : List Nat} (hp : IsPath E a b p) : thePath E a b = p := by
  unfold thePath
  have hc : Conn E a b := ⟨p, hp⟩
  rw [dif_pos hc]
  exact h.unique (Classical.choose_spec hc) hp
theorem thePath_is (hc : Conn E a b) : IsPath E a b (thePath E a b) := by
  unfold thePath; rw [dif_pos hc]; exact Classical.choose_spec hc
theorem meetsAt_unique (h : Frs E) {m m' : Nat} (h1 : MeetsAt E a b c m) (h2 : MeetsAt E a b c m') : m = m' := by
  obtain ⟨p, q, r, a1, a2, a3, a4⟩ := h1
  obtain ⟨p', q', r', b1, b2, b3, b4⟩ := h2
  rw [← h.unique a1 b1, ← h.unique a2 b2, ← h.unique a3 b3] at b4
  exact (b4 m).1 ((a4 m).2 rfl)
theorem theMeet_eq (h : Frs E) {m : Nat} (h1 : MeetsAt E a b c m) : theMeet E a b c = m := by
  unfold theMeet
  have hc : ∃ m, MeetsAt E a b c m := ⟨m, h1⟩
  rw [dif_pos hc]
  exact meetsAt_unique h (Classical.choose_spec hc) h1
theorem connB_iff {n : Nat} {a b : Int} : connB n E a b = true ↔ ConnI n E a b := by unfold connB; exact decide_eq_true_iff
theorem connB_nat {n : Nat} (ha : a < n) (hb : b < n) : connB n E a b = true ↔ Conn E a b := by
  rw [connB_iff]
  refine ⟨fun h => h.2.2, fun h => ⟨?_, ?_, h⟩⟩ <;> · simp [inV]; omega
end

section
variable {w : World} {pf g n : Nat} {E : Nat → Nat → Prop} {key : Nat → Int} {ed : Int} (h : LG w pf g n E key ed)
include h
theorem connected_d (a b : Int) : Calls Try.prog 15 #[.pointer (some ⟨pf, 0, none⟩), .int .i64 a, .int .i64 b] w fun e w' => e = .returned (.bool (connB n E a b)) ∧ LG w' pf g n E key ed ∧ Fr [g] w w' := by
  refine (connected_w h a b).mono ?_
  rintro e w' ⟨r, rfl, hr, h2, h3⟩
  have : r = connB n E a b := by
    have := (connB_iff (n := n) (E := E) (a := a) (b := b))
    cases r <;> cases hc : connB n E a b <;> simp_all
  rw [this]; exact ⟨rfl, h2, h3⟩
theorem dist_d (a b : Int) : Calls Try.prog 21 #[.pointer (some ⟨pf, 0, none⟩), .int .i64 a, .int .i64 b] w fun e w' => e = .returned (.int .i64 (distI n E a b)) ∧ LG w' pf g n E key ed ∧ Fr [g] w w' := by
  have hf := h.frs
  refine (dist_w h a b).mono ?_
  rintro e w' ⟨x, rfl, hr, h2, h3⟩
  refine ⟨?_, h2, h3⟩
  unfold distI
  rcases hr with ⟨hn, rfl⟩ | ⟨v, u, p, rfl, rfl, hv, hu, hp, rfl⟩
  · rw [if_neg hn]
  · have hc : ConnI n E v u := ⟨by simp [inV]; omega, by simp [inV]; omega, p, hp⟩
    rw [if_pos hc, Int.toNat_natCast, Int.toNat_natCast, thePath_eq hf hp]
theorem meet_d (a b c : Int) : Calls Try.prog 20 #[.pointer (some ⟨pf, 0, none⟩), .int .i64 a, .int .i64 b, .int .i64 c] w fun e w' => e = .returned (.tuple #[.int .i64 (meetI n E a b c), .bool (meetB n E a b c)]) ∧ LG w' pf g n E key ed ∧ Fr [g] w w' := by
  have hf := h.frs
  refine (meet_w h a b c).mono ?_
  rintro e w' ⟨hr, h2, h3⟩
  refine ⟨?_, h2, h3⟩
  rcases hr with ⟨hn, rfl⟩ | ⟨v, u, x, m, rfl, rfl, rfl, hv, hu, hx, _, hm, rfl⟩
  · have : meetB n E a b c = false := by
      unfold meetB
      cases h1 : connB n E a b
      · rfl
      · cases h2 : connB n E b c
        · rfl
        · exact absurd ⟨connB_iff.1 h1, connB_iff.1 h2⟩ hn
    unfold meetI
    rw [this]; rfl
  · have hc : meetB n E v u x = true := by
      obtain ⟨p, q, r, q1, q2, q3, _⟩ := hm
      unfold meetB
      rw [Bool.and_eq_true, connB_nat hv hu, connB_nat hu hx]
      exact ⟨⟨p, q1⟩, ⟨q, q2⟩⟩
    unfold meetI
    rw [hc, if_pos rfl, Int.toNat_natCast, Int.toNat_natCast, Int.toNat_natCast, theMeet_eq hf hm]
end

theorem dist_nat {n : Nat} {E : Nat → Nat → Prop} (h : Frs E) {a b : Nat} (ha : a < n) (hb : b < n) {p : List Nat} (hp : IsPath E a b p) : distI n E a b = (p.length : Int) - 1 := by
  unfold distI
  rw [if_pos ⟨by simp [inV]; omega, by simp [inV]; omega, p, hp⟩, Int.toNat_natCast, Int.toNat_natCast, thePath_eq h hp]

/-- Whoever is connected with another vertex has an edge. -/
theorem conn_in {E : Nat → Nat → Prop} {a b : Nat} (h : Conn E a b) (hne : a ≠ b) : ∃ x, E x b := by
  obtain ⟨p, l, rfl, hw, _, hl⟩ := h
  rcases List.eq_nil_or_concat l with rfl | ⟨S, x, rfl⟩
  · simp at hl; exact absurd hl hne
  · rw [List.concat_eq_append] at *
    rw [← List.cons_append, last_snoc] at hl
    cases hl
    rcases List.eq_nil_or_concat S with rfl | ⟨S', y, rfl⟩
    · exact ⟨a, hw.1⟩
    · rw [List.concat_eq_append, List.append_assoc] at hw
      exact ⟨y, (wk_append.1 hw).2.1⟩

def E0 : Nat → Nat → Prop := fun _ _ => False
def E1 := addE E0 0 1
def E2 := addE E1 1 2
def E3 := addE E2 1 3
theorem e3_iff (v u : Nat) : E3 v u ↔ (v = 0 ∧ u = 1) ∨ (v = 1 ∧ u = 0) ∨ (v = 1 ∧ u = 2) ∨ (v = 2 ∧ u = 1) ∨ (v = 1 ∧ u = 3) ∨ (v = 3 ∧ u = 1) := by
  simp only [E3, E2, E1, E0, addE, false_or]; omega
theorem inV6 (v : Nat) (h : v < 6) : inV 6 (v : Int) = true := by simp [inV]; omega
theorem linkCode_new {n : Nat} {E : Nat → Nat → Prop} {a b : Nat} (ha : a < n) (hb : b < n) (hne : a ≠ b) (hc : ¬ Conn E a b) : linkCode n E a b = 0 := by
  unfold linkCode
  rw [if_pos ⟨by simp [inV]; omega, by simp [inV]; omega⟩, if_neg (by omega), Int.toNat_natCast, Int.toNat_natCast, if_neg hc]
theorem linkE_new {n : Nat} {E : Nat → Nat → Prop} {a b : Nat} (ha : a < n) (hb : b < n) (hne : a ≠ b) (hc : ¬ Conn E a b) : linkE n E a b = addE E a b := by
  unfold linkE; rw [linkCode_new ha hb hne hc]; simp

theorem link_ok {w : World} {pf g n : Nat} {E : Nat → Nat → Prop} {key : Nat → Int} (h : LM w pf g n E key) (a b : Nat) (ha : a < n) (hb : b < n) (hne : a ≠ b) (hc : ¬ Conn E a b) :
    Calls Try.prog 16 #[.pointer (some ⟨pf, 0, none⟩), .int .i64 a, .int .i64 b] w fun e w' => e = .returned (.int .i64 0) ∧ LM w' pf g n (addE E a b) key ∧ Fr [pf, g] w w' := by
  have := link_w h a b
  rw [linkCode_new ha hb hne hc, linkE_new ha hb hne hc] at this
  exact this

theorem path_e3 (a b : Nat) (ha : a = 0 ∨ a = 2 ∨ a = 3) (hb : b = 0 ∨ b = 2 ∨ b = 3) (hne : a ≠ b) : IsPath E3 a b [a, 1, b] := by
  refine ⟨[1, b], rfl, ⟨(e3_iff _ _).2 (by omega), (e3_iff _ _).2 (by omega), trivial⟩, ?_, rfl⟩
  have h1 : a ≠ 1 := by omega
  have h2 : (1 : Nat) ≠ b := by omega
  simp [h1, h2, hne]
theorem e3_conn (v : Nat) (hv : v < 4) : Conn E3 3 v := by
  by_cases h3 : v = 3
  · rw [h3]; exact Conn.refl _ _
  · by_cases h1 : v = 1
    · subst h1
      exact ⟨[3, 1], [1], rfl, ⟨(e3_iff _ _).2 (by omega), trivial⟩, by simp, rfl⟩
    · exact ⟨_, path_e3 3 v (by omega) (by omega) (by omega)⟩
theorem meets_e3 : MeetsAt E3 0 2 3 1 := ⟨_, _, _, path_e3 0 2 (by omega) (by omega) (by omega), path_e3 2 3 (by omega) (by omega) (by omega), path_e3 3 0 (by omega) (by omega) (by omega), fun x => by simp; omega⟩

/-- The example of the chapter, which every statement about layer 12 runs. -/
theorem works_w (w : World) : Calls Try.prog 13 #[] w fun e w' => e = .returned (.bool true) ∧ Below w.heap.size w w' := by
  go_enter Try.func13, Try.ntmps13
  go_wp2_with fail
  refine (new_w 6 w (by decide)).mono ?_
  rintro e w1 ⟨pf, g, rfl, h1, f1, hp, hg⟩
  go_wp2_with fail
  refine (link_ok h1 0 1 (by decide) (by decide) (by decide) (fun hc => by obtain ⟨x, hx⟩ := conn_in hc (by decide); exact hx)).mono ?_
  rintro e w2 ⟨rfl, h2, f2⟩
  change LM w2 pf g 6 E1 _ at h2
  go_wp2_with fail
  refine (link_ok h2 1 2 (by decide) (by decide) (by decide) (fun hc => by obtain ⟨x, hx⟩ := conn_in hc (by decide); simp [E1, E0, addE] at hx)).mono ?_
  rintro e w3 ⟨rfl, h3, f3⟩
  change LM w3 pf g 6 E2 _ at h3
  go_wp2_with fail
  refine (link_ok h3 1 3 (by decide) (by decide) (by decide) (fun hc => by obtain ⟨x, hx⟩ := conn_in hc (by decide); simp [E2, E1, E0, addE] at hx)).mono ?_
  rintro e w4 ⟨rfl, h4, f4⟩
  change LM w4 pf g 6 E3 _ at h4
  have q1 := LG.frs h1
  have q2 := LG.frs h2
  have q3 := LG.frs h3
  have q4 := LG.frs h4
  have hnc : nc 6 E3 = 3 := by
    have a1 := nc_add (n := 6) (a := 0) (b := 1) q1 q2 (fun hc => by obtain ⟨x, hx⟩ := conn_in hc (by decide); exact hx) (by decide) (by decide)
    have a2 := nc_add (n := 6) (a := 1) (b := 2) q2 q3 (fun hc => by obtain ⟨x, hx⟩ := conn_in hc (by decide); simp [E1, E0, addE] at hx) (by decide) (by decide)
    have a3 := nc_add (n := 6) (a := 1) (b := 3) q3 q4 (fun hc => by obtain ⟨x, hx⟩ := conn_in hc (by decide); simp [E2, E1, E0, addE] at hx) (by decide) (by decide)
    have a0 := nc_none 6
    have a1 : nc 6 E1 + 1 = nc 6 (fun _ _ => False) := a1
    have a2 : nc 6 E2 + 1 = nc 6 E1 := a2
    have a3 : nc 6 E3 + 1 = nc 6 E2 := a3
    omega
  have hlc : linkCode 6 E3 (2 : Nat) (0 : Nat) = 6 := by
    unfold linkCode
    rw [if_pos ⟨rfl, rfl⟩, if_neg (by decide), if_pos ⟨_, path_e3 2 0 (by omega) (by omega) (by omega)⟩]
  have hle : linkE 6 E3 (2 : Nat) (0 : Nat) = E3 := by unfold linkE; rw [hlc]; simp
  have L4 := link_w h4 (2 : Nat) (0 : Nat)
  rw [hlc, hle] at L4
  have HL4 := Lib.hid L4; clear L4 hlc hle
  have hmb : meetB 6 E3 (0 : Nat) (2 : Nat) (3 : Nat) = true := by
    unfold meetB
    rw [Bool.and_eq_true, connB_nat (by decide) (by decide), connB_nat (by decide) (by decide)]
    exact ⟨⟨_, path_e3 0 2 (by omega) (by omega) (by omega)⟩, ⟨_, path_e3 2 3 (by omega) (by omega) (by omega)⟩⟩
  have hmi : meetI 6 E3 (0 : Nat) (2 : Nat) (3 : Nat) = 1 := by
    unfold meetI; rw [hmb, if_pos rfl]; exact theMeet_eq q4 meets_e3
  have hdi : distI 6 E3 (2 : Nat) (3 : Nat) = 2 := by
    unfold distI
    have hp := path_e3 2 3 (by omega) (by omega) (by omega)
    rw [if_pos ⟨rfl, rfl, _, hp⟩]
    show ((thePath E3 2 3).length : Int) - 1 = 2
    rw [thePath_eq q4 hp]; rfl
  have hcs : csize 6 E3 3 = 4 := by
    unfold csize
    have : (List.range 6).filter (fun u => decide (Conn E3 3 u)) = (List.range 6).filter (fun u => decide (u < 4)) := by
      refine List.filter_congr (fun u hu => decide_eq_decide.2 ⟨fun hc => ?_, fun h => e3_conn u h⟩)
      by_cases e : 3 = u
      · omega
      · obtain ⟨x, hx⟩ := conn_in hc e
        have := (e3_iff x u).1 hx; omega
    rw [this]; rfl
  have HQ := Lib.hid (And.intro (And.intro hmb hmi) (And.intro hdi (And.intro hcs hnc))); clear hmb hmi hdi hcs hnc q1 q2 q3 q4
  go_wp2_with fail
  refine HL4.out.mono ?_
  rintro e w5 ⟨rfl, h5, f5⟩
  go_wp2_with fail
  refine (meet_d h5 (0 : Nat) (2 : Nat) (3 : Nat)).mono ?_
  rintro e w6 ⟨rfl, h6, f6⟩
  rw [HQ.out.1.1, HQ.out.1.2]
  go_wp2_with fail
  refine (dist_d h6 (2 : Nat) (3 : Nat)).mono ?_
  rintro e w7 ⟨rfl, h7, f7⟩
  rw [HQ.out.2.1]
  go_wp2_with fail
  refine (size_w h7 (3 : Nat)).mono ?_
  rintro e w8 ⟨rfl, h8, f8⟩
  rw [if_pos (show inV 6 ((3 : Nat) : Int) = true from rfl), show ((3 : Nat) : Int).toNat = 3 from rfl, HQ.out.2.2.1]
  go_wp2_with fail
  refine (trees_w h8).mono ?_
  rintro e w9 ⟨rfl, k, rfl⟩
  rw [HQ.out.2.2.2]
  go_wp2
  go_ret
  have fx : Fr [pf, g] w1 w8 := ((((((f2.trans' f3).trans' f4).trans' f5).trans f6 (fun b hb => .inl (by simp at hb; simp [hb]))).trans f7 (fun b hb => .inl (by simp at hb; simp [hb]))).trans f8 (fun b hb => .inl (by simp at hb; simp [hb])))
  have fy : Fr [] w w8 := f1.trans fx (fun b hb => .inr (by simp at hb; omega))
  exact ⟨rfl, (fy.drewN k).below (by simp)⟩

end Go.Proofs.Ytoppjjgecgbbkaa

namespace Go.Proofs.Ytoppjjgecgbbkaa
open Go.ChangeShapes Go.WideShapes Go.ChangeAt Go.RowKit Go.Deep

/-- A slice of len pairs reads z. -/
def PairsF (w : World) (a : Option Addr) (len : Nat) (z : Nat → Int × Int) : Prop :=
  len ≤ 9223372036854775807 ∧ ∀ i, i < len → ∃ b off, a = some ⟨b, off, none⟩ ∧ b < w.heap.size ∧ w.cell? ⟨b, off + i * 2, none⟩ = some (.int .i64 (z i).1) ∧ w.cell? ⟨b, off + i * 2 + 1, none⟩ = some (.int .i64 (z i).2)

theorem PairsF.below {w w' : World} {a : Option Addr} {len : Nat} {z : Nat → Int × Int} (h : PairsF w a len z) (hb : Below w.heap.size w w') : PairsF w' a len z := by
  refine ⟨h.1, fun i hi => ?_⟩
  obtain ⟨b, off, rfl, hlt, h1, h2⟩ := h.2 i hi
  exact ⟨b, off, rfl, Nat.lt_of_lt_of_le hlt hb.size, (hb.cell (p := ⟨b, off + i * 2, none⟩) hlt).trans h1, (hb.cell (p := ⟨b, off + i * 2 + 1, none⟩) hlt).trans h2⟩

theorem cell_no_spot {W : World} {y : Addr} {v : Value} (h : W.cell? y = some v) : y.spot = none := by
  unfold World.cell? at h
  split at h
  · by_cases hs : y.spot.isSome = true
    · rw [if_pos hs] at h; cases h
    · cases hy : y.spot with
      | none => rfl
      | some s => rw [hy] at hs; exact absurd rfl hs
  · cases h

theorem open_pairs {H : Type} {enc : TypeId × Value → H} {W : World} {a : Option Addr} {len cap : Nat} {d : DataW H} {p : List MemPlace}
    (h : DataW.Trod enc Try.prog W 0 (fun _ => true) true 22 (.slice a len cap) d p) : ∃ z, PairsF W a len z := by
  obtain ⟨fuel, hf⟩ := h
  have c3 : Try.prog.cellsOf 3 = 1 := by kernel_rfl
  have c30 : Try.prog.cellsOf 30 = 2 := by kernel_rfl
  rcases open_slice Try.underlying22 hf with ⟨hcs, _⟩ | ⟨x, l, c, m, n, D, Pl, hcs, _, hl, hm, hmm, _, hel⟩
  · simp [Value.cells] at hcs
    obtain ⟨rfl, rfl, rfl⟩ := hcs
    exact ⟨fun _ => (0, 0), by omega, fun i hi => absurd hi (Nat.not_lt_zero _)⟩
  · simp [Value.cells] at hcs
    obtain ⟨rfl, rfl, rfl⟩ := hcs
    have hml : len ≤ m := by rw [hmm]; simpa using hl
    have key : ∀ i, i < len → ∃ u : Int × Int, W.cell? (x.add (i * 2)) = some (.int .i64 u.1) ∧ W.cell? ((x.add (i * 2)).add 1) = some (.int .i64 u.2) := by
      intro i hi
      obtain ⟨cs', hc, ht⟩ := hel i (by omega)
      rw [c30] at hc
      obtain ⟨xs, n', _, _, hlen, hxl, hall⟩ := DataW.trod_array Try.underlying30 ht
      obtain ⟨_, _, hat⟩ := World.cells?_some hc
      rw [c3] at hall
      have h0 := hall 0 (by decide)
      have h1 := hall 1 (by decide)
      rw [List.getElem?_eq_getElem (by omega)] at h0 h1
      obtain ⟨n0, e0, _, _⟩ := DataW.trod_int Try.underlying3 h0
      obtain ⟨n1, e1, _, _⟩ := DataW.trod_int Try.underlying3 h1
      have g0 := hat 0 (by decide)
      have g1 := hat 1 (by decide)
      have q0 : cs'[0]? = some (.int .i64 n0) := by
        have := congrArg (fun l => l[0]?) e0; simpa using this
      have q1 : cs'[1]? = some (.int .i64 n1) := by
        have := congrArg (fun l => l[0]?) e1; simpa using this
      have z0 : ∀ y : Addr, y.add 0 = y := fun y => by simp [Addr.add]
      rw [z0] at g0
      exact ⟨(n0, n1), g0.trans q0, g1.trans q1⟩
    have key2 : ∀ i, ∃ u : Int × Int, i < len → W.cell? (x.add (i * 2)) = some (.int .i64 u.1) ∧ W.cell? ((x.add (i * 2)).add 1) = some (.int .i64 u.2) := by
      intro i
      by_cases hi : i < len
      · obtain ⟨u, h⟩ := key i hi
        exact ⟨u, fun _ => h⟩
      · exact ⟨(0, 0), fun h => absurd h hi⟩
    obtain ⟨F, hF⟩ := Classical.axiomOfChoice key2
    refine ⟨F, by unfold maxLen at hm; omega, fun i hi => ?_⟩
    obtain ⟨h1, h2⟩ := hF i hi
    have hsp := cell_no_spot (hF 0 (by omega)).1
    have z0 : ∀ y : Addr, y.add (0 * 2) = y := fun y => by simp [Addr.add]
    rw [z0] at hsp
    obtain ⟨b, off, sp⟩ := x
    simp only at hsp
    subst hsp
    rw [Addr.add_lit] at h1
    rw [Addr.add_lit, Addr.add_lit] at h2
    exact ⟨b, off, rfl, cell_lt h1, h1, h2⟩

end Go.Proofs.Ytoppjjgecgbbkaa
