/- lct: check and Link. -/
import Derived.Test.YtoppjjgecgbbkaaLctAsk
namespace Go.Proofs.Ytoppjjgecgbbkaa
open Go.RowKit Classical
set_option maxRecDepth 10000
set_option maxHeartbeats 800000

theorem check_w {w : World} {pf g n cap : Nat} {σ : Tbl} {ed : Int} (h : LctAt w pf g (n + 1) cap σ ed) (b m : Nat) (f : Nat → Int) (hm : m ≤ 100) (hb : ∀ k, k < m → w.cell? ⟨b, k, none⟩ = some (.int .i64 (f k))) :
    Calls Try.prog 35 #[.pointer (some ⟨pf, 0, none⟩), .slice (some ⟨b, 0, none⟩) m m] w fun e w' => ((e = .returned (.int .i64 0) ∧ ∀ k, k < m → inV n (f k) = true) ∨ (e = .returned (.int .i64 3) ∧ ∃ k, k < m ∧ inV n (f k) = false)) ∧ w' = w := by
  have c0 := h.hd.cell 0
  simp only [List.getElem?_cons_zero] at c0
  have hV := Lib.hid (valid_w c0)
  clear c0
  have HB := Lib.hid hb; clear hb
  go_enter Try.func35, Try.ntmps35
  go_wp2_with fail
  refine hV.out.mono ?_
  rintro _ w ⟨rfl, rfl⟩
  go_wp2
  go_loopw [12] (fun x wr => ∃ k : Nat, k ≤ m ∧ x = .int .i64 k ∧ wr = w ∧ ∀ j, j < k → inV n (f j) = true) (fun x _ => m - (intOf x).toNat)
  case atStart => exact ⟨0, Nat.zero_le _, rfl, rfl, fun j hj => by omega⟩
  case round =>
    obtain ⟨k, hk, rfl, rfl, hall⟩ := hrel
    have Hall := Lib.hid hall; clear hall
    by_cases hlt : k < m
    · have hc := HB.out k hlt
      have hA := has_w h (f k)
      cases hv : inV n (f k) with
      | true =>
        rw [hv] at hA
        have HA := Lib.hid hA; clear hA
        have Hv := Lib.hid hv; clear hv
        go_wp2_with fail
        refine HA.out.mono ?_
        rintro _ w0 ⟨rfl, rfl⟩
        go_wp2
        exact ⟨⟨k + 1, by omega, by go_num, trivial, fun j hj => by
          by_cases e : j = k
          · rw [e]; exact Hv.out
          · exact Hall.out j (by omega)⟩, by simp [intOf]; omega⟩
      | false =>
        rw [hv] at hA
        have HA := Lib.hid hA; clear hA
        have Hv := Lib.hid hv; clear hv
        go_wp2_with fail
        refine HA.out.mono ?_
        rintro _ w0 ⟨rfl, rfl⟩
        go_wp2
        go_ret
        exact ⟨.inr ⟨rfl, k, hlt, Hv.out⟩, rfl⟩
    · go_wp2
      go_ret
      exact ⟨.inl ⟨rfl, fun j hj => Hall.out j (by omega)⟩, rfl⟩

theorem lead_v {w : World} {pf g n cap : Nat} {σ : Tbl} {ed : Int} (h : LctAt w pf g (n + 1) cap σ ed) {par d rt : Nat → Nat} {F : Fst} (hF : LF (n + 1) σ F par d rt) (v : Nat) (hv : v < n) :
    Calls Try.prog 36 #[.pointer (some ⟨pf, 0, none⟩), .int .i64 ((v : Int) + 1)] w fun e w' => e = .returned (.tuple #[]) ∧ ∃ τ l R par' d' rt', LctAt w' pf g (n + 1) cap τ ed ∧ LF (n + 1) τ ((.node true l (v + 1) .nil, 0) :: R) par' d' rt' ∧ (∀ x, (τ x).key = (σ x).key) ∧
      (∀ x y, Adj par' x y ↔ Adj par x y) ∧ (∀ x y, rt' x = rt' y ↔ rt x = rt y) ∧ rt' (v + 1) = v + 1 ∧ Fr [g] w w' := lead_w h hF (v + 1) (by omega) (by omega)
theorem refresh_v {w : World} {pf g n cap : Nat} {σ : Tbl} {ed : Int} (h : LctAt w pf g (n + 1) cap σ ed) (v : Nat) (hv : v < n) (hR : InR (n + 1) σ) (h0 : (σ (v + 1)).k0 ≠ v + 1) (h1 : (σ (v + 1)).k1 ≠ v + 1) :
    Calls Try.prog 32 #[.pointer (some ⟨pf, 0, none⟩), .int .i64 ((v : Int) + 1)] w fun e w' => e = .returned (.tuple #[]) ∧ LctAt w' pf g (n + 1) cap (refresh σ (v + 1)) ed ∧ Fr [g] w w' := refresh_w h (v + 1) (by omega) hR h0 h1

theorem LctAt.edges {w w0 : World} {pf g N cap : Nat} {σ : Tbl} {ed : Int} (h : LctAt w pf g N cap σ ed) (hF : Fr [g] w0 w) (e : Int) :
    LctAt (w.setCell ⟨pf, 2, none⟩ (.int .i64 e)) pf g N cap σ e ∧ Fr [pf, g] w0 (w.setCell ⟨pf, 2, none⟩ (.int .i64 e)) := by
  refine ⟨⟨?_, h.nodes.same (Below.heap_setCell _ _ _ _ (fun e => h.ne e.symm)), h.ne, h.le, h.cap⟩, (hF.mono (S' := [pf, g]) (fun b hb => .inl (by simp at hb; simp [hb]))).setCell _ _ (.inl (by simp))⟩
  have := h.hd.set 2 (.int .i64 e)
  simpa using this

noncomputable def linkCode (n : Nat) (E : Nat → Nat → Prop) (a b : Int) : Int :=
  if inV n a = true ∧ inV n b = true then (if a = b then 9 else if Conn E a.toNat b.toNat then 6 else 0) else 3
noncomputable def linkE (n : Nat) (E : Nat → Nat → Prop) (a b : Int) : Nat → Nat → Prop := if linkCode n E a b = 0 then addE E a.toNat b.toNat else E

theorem link_w {w : World} {pf g n : Nat} {E : Nat → Nat → Prop} {key : Nat → Int} (h : LM w pf g n E key) (a b : Int) :
    Calls Try.prog 16 #[.pointer (some ⟨pf, 0, none⟩), .int .i64 a, .int .i64 b] w fun e w' => e = .returned (.int .i64 (linkCode n E a b)) ∧ LM w' pf g n (linkE n E a b) key ∧ Fr [pf, g] w w' := by
  have H := Lib.hid h
  have hfrs := Lib.hid (LG.frs h)
  obtain ⟨hp1, hg1, hn1⟩ := LG.lts h
  obtain ⟨cap, σ, F, par, d, rt, hL, hF, hE, hk⟩ := h
  clear hF hE hk
  have hLa : LctAt (w.alloc (.cells #[.int .i64 a, .int .i64 b] 3)) pf g (n + 1) cap σ ((n : Int) - nc n E) := hL.below ((Below.refl _ w).alloc (Nat.le_refl _) _) hp1 hg1
  have hblk := Blk.new w [.int .i64 a, .int .i64 b] 3
  have hFa : Fr [] w (w.alloc (.cells #[.int .i64 a, .int .i64 b] 3)) := (Fr.refl _ _).alloc _
  have HMa := Lib.hid (LG.fr H.out hFa (by simp) (by simp))
  have hCk := check_w hLa w.heap.size 2 (fun k => if k = 0 then a else b) (by decide) (fun k hk => by
    rw [hblk.cell]
    rcases (show k = 0 ∨ k = 1 by omega) with rfl | rfl <;> rfl)
  have HCk := Lib.hid hCk; clear hCk hblk
  clear hLa hL
  go_enter Try.func16, Try.ntmps16
  go_wp2_with fail
  refine HCk.out.mono ?_
  rintro _ w1 ⟨hcode, rfl⟩
  clear HCk
  generalize w.alloc (.cells #[.int .i64 a, .int .i64 b] 3) = w1 at *
  rcases hcode with ⟨rfl, hall⟩ | ⟨rfl, k, hk, hbad⟩
  · have va : inV n a = true := hall 0 (by decide)
    have vb : inV n b = true := hall 1 (by decide)
    clear hall
    by_cases hab : a = b
    · have hlc : linkCode n E a b = 9 := by unfold linkCode; rw [if_pos ⟨va, vb⟩, if_pos hab]
      have hle : linkE n E a b = E := by unfold linkE; rw [hlc]; simp
      have Hlc := Lib.hid (And.intro hlc hle); clear hlc hle
      have hb : (a == b) = true := beq_iff_eq.2 hab
      clear va vb hab
      go_wp2
      go_ret
      rw [Hlc.out.1, Hlc.out.2]
      exact ⟨rfl, HMa.out, hFa.mono (by simp)⟩
    · have hb : (a == b) = false := beq_eq_false_iff_ne.2 hab
      have HL0 := Lib.hid (And.intro va (And.intro vb hab)); clear hab
      go_wp2_with fail
      refine (connected_w HMa.out a b).mono ?_
      rintro _ w2 ⟨r, rfl, hr, hM2, hF2⟩
      cases r with
      | true =>
        obtain ⟨_, _, hc⟩ := hr.1 rfl
        have hlc : linkCode n E a b = 6 := by unfold linkCode; rw [if_pos ⟨va, vb⟩, if_neg HL0.out.2.2, if_pos hc]
        have hle : linkE n E a b = E := by unfold linkE; rw [hlc]; simp
        have Hlc := Lib.hid (And.intro hlc hle); clear hlc hle hr
        have HM2 := Lib.hid hM2; clear hM2 va vb hc
        go_wp2
        go_ret
        rw [Hlc.out.1, Hlc.out.2]
        exact ⟨rfl, HM2.out, (hFa.mono (S' := [pf, g]) (by simp)).trans hF2 (fun q hq => .inl (by simp at hq; simp [hq]))⟩
      | false =>
        have hnc : ¬ Conn E a.toNat b.toNat := fun e => by have := hr.2 ⟨va, vb, e⟩; cases this
        have hlc : linkCode n E a b = 0 := by unfold linkCode; rw [if_pos ⟨va, vb⟩, if_neg HL0.out.2.2, if_neg hnc]
        have hle : linkE n E a b = addE E a.toNat b.toNat := by unfold linkE; rw [hlc]; simp
        have Hlc := Lib.hid (And.intro hlc hle); clear hlc hle hr
        obtain ⟨v, rfl, hv⟩ := inV_nat va
        obtain ⟨u, rfl, hu⟩ := inV_nat vb
        simp only [Int.toNat_natCast] at hnc Hlc
        have HN := Lib.hid hnc
        clear va vb HL0
        obtain ⟨cap2, σ2, F2, par2, d2, rt2, hL2, hLF2, hE2, hk2⟩ := hM2
        have hrt : rt2 (v + 1) ≠ rt2 (u + 1) := fun e => hnc ((conn_rt hLF2.rtd hE2).2 e)
        clear hnc
        have HF2 := Lib.hid hLF2; clear hLF2
        have HE2 := Lib.hid hE2; clear hE2
        have HK2 := Lib.hid hk2; clear hk2
        have HRt := Lib.hid hrt; clear hrt
        have hN := hL2.le
        go_wp2_with fail
        refine (lead_v hL2 HF2.out v hv).mono ?_
        rintro _ w3 ⟨rfl, τ3, l3, R3, par3, d3, rt3, hL3, hLF3, hk3, hadj3, hrt3, hri3, hF3⟩
        have HF3 := Lib.hid hLF3; clear hLF3
        have HQ3 := Lib.hid (And.intro hk3 (And.intro hadj3 (And.intro hrt3 hri3))); clear hk3 hadj3 hrt3 hri3
        go_wp2_with fail
        refine (expose_v hL3 HF3.out u hu).mono ?_
        rintro _ w4 ⟨m4, τ4, l4, R4, rfl, hL4, hE4, hF4⟩
        have key : (∃ par' d' rt' F', LF (n + 1) (refresh (lnk2 τ4 (v + 1) (u + 1)) (u + 1)) F' par' d' rt' ∧ (∀ x y, Adj par' x y ↔ Adj par2 x y ∨ (x = v + 1 ∧ y = u + 1) ∨ (x = u + 1 ∧ y = v + 1))) ∧
            (∀ x, (refresh (lnk2 τ4 (v + 1) (u + 1)) (u + 1) x).key = (σ2 x).key) ∧ (lnk2 τ4 (v + 1) (u + 1) (u + 1)).k0 ≠ u + 1 ∧ (lnk2 τ4 (v + 1) (u + 1) (u + 1)).k1 ≠ u + 1 ∧ InR (n + 1) (lnk2 τ4 (v + 1) (u + 1)) := by
          obtain ⟨hk3, hadj3, hrt3, hri3⟩ := HQ3.out
          have hne3 : rt3 (v + 1) ≠ rt3 (u + 1) := fun e => HRt.out ((hrt3 _ _).1 e)
          have hin := hE4.trees _ (List.mem_cons_self) ⟨v + 1, by simp [BT.nodes], hne3⟩
          obtain ⟨R5, hR5⟩ := mem_split_perm hin
          have hlf := hE4.lf.perm ((List.Perm.cons _ hR5).trans (List.Perm.swap _ _ _))
          obtain ⟨⟨par', d', rt', a1, a2⟩, a3, a4, a5, a6⟩ := hlf.link (a := v + 1) rfl (by omega) hri3 (fun e => hne3 (by rw [hri3, e]))
          exact ⟨⟨par', d', rt', _, a1, fun x y => by rw [a2, hadj3]⟩, fun x => by rw [a3, hE4.key, hk3], a4, a5, a6⟩
        have Key := Lib.hid key; clear key hE4
        have d4 := hL4.hd.cell 1
        simp only [List.getElem?_cons_zero, List.getElem?_cons_succ] at d4
        have hfz4 := hL4.nodes.frozen
        have a2 := hL4.nodes.c2 (v + 1) (by omega)
        obtain ⟨hL5, hF5⟩ := hL4.st2 (Fr.refl [g] w4) (i := v + 1) (by omega) (u + 1)
        have hL5' : LctAt (w4.setCell ⟨g, (v + 1) * 9 + 2, none⟩ (.int .i64 ((u : Int) + 1))) pf g (n + 1) cap2 (lnk1 τ4 (v + 1) (u + 1)) ((n : Int) - nc n E) := hL5
        have hF5' : Fr [g] w4 (w4.setCell ⟨g, (v + 1) * 9 + 2, none⟩ (.int .i64 ((u : Int) + 1))) := hF5
        have HL5 := Lib.hid hL5'; clear hL5 hL5' hF5
        have hv2 : ((v + 1 : Nat) : Int) < ((n + 1 : Nat) : Int) := by omega
        have hu2 : ((u + 1 : Nat) : Int) < ((n + 1 : Nat) : Int) := by omega
        go_wp2
        generalize w4.setCell ⟨g, (v + 1) * 9 + 2, none⟩ (.int .i64 ((u : Int) + 1)) = w5 at *
        have hL5 := HL5.out
        clear HL5 d4 hfz4 a2
        have d5 := hL5.hd.cell 1
        simp only [List.getElem?_cons_zero, List.getElem?_cons_succ] at d5
        have hfz5 := hL5.nodes.frozen
        have b7 := hL5.nodes.c7 (u + 1) (by omega)
        have b8 := hL5.nodes.c8 (v + 1) (by omega)
        have hwu : IntKind.i64.wrap ((u : Int) + 1) = (u : Int) + 1 := IntWalk.i64_in _ (by omega)
        have hwv : IntKind.i64.wrap ((v : Int) + 1) = (v : Int) + 1 := IntWalk.i64_in _ (by omega)
        have htu : ((u : Int) + 1).toNat = u + 1 := by omega
        have htv : ((v : Int) + 1).toNat = v + 1 := by omega
        have hcu : 0 ≤ (u : Int) + 1 := by omega
        have hcv : 0 ≤ (v : Int) + 1 := by omega
        have hcu2 : (u : Int) + 1 < (n : Int) + 1 := by omega
        have hcv2 : (v : Int) + 1 < (n : Int) + 1 := by omega
        refine region_one 21 (fun w' => LctAt w' pf g (n + 1) cap2 (lnk2 τ4 (v + 1) (u + 1)) ((n : Int) - nc n E) ∧ Fr [g] w5 w') (by kernel_rfl) (by kernel_rfl) (by kernel_rfl) ?_
        iterate 21 (refine gWalk_pre (by decide) (fun K hK => ?_); go_simp; refine hK _ ?_; clear hK K)
        refine gWalk_write rfl undef (fun w' hw' => ?_) ?_
        · obtain ⟨nq, rfl⟩ := hw'
          go_simp
          rw [iw64]
          exact (hL5.eqv (Eqv.drewN w5 nq)).st7 ((Fr.refl [g] w5).drewN nq) (i := u + 1) (by omega) _
        refine gWalk_nil ?_
        rintro w6 ⟨hL6, hF6⟩
        clear b7 b8 d5 hfz5
        go_wp2_with fail
        refine (refresh_v hL6 u hu Key.out.2.2.2.2 Key.out.2.2.1 Key.out.2.2.2.1).mono ?_
        rintro _ w7 ⟨rfl, hL7, hF7⟩
        have c7 := hL7.hd.cell 2
        simp only [List.getElem?_cons_zero, List.getElem?_cons_succ] at c7
        have hfz7 := hL7.hd.frozen 2
        obtain ⟨par', d', rt', F', q1, q2⟩ := Key.out.1
        have hAE : ∀ x y, addE E v u x y ↔ Adj par' (x + 1) (y + 1) := by
          intro x y
          rw [q2]
          unfold addE
          rw [HE2.out x y]
          simp only [Nat.add_right_cancel_iff]
        have hcnt := nc_add (n := n) hfrs.out ⟨par', d', rt', q1.rtd, hAE⟩ HN.out hv hu
        have hnc1 := nc_le n (addE E v u)
        have hed : IntKind.i64.wrap ((n : Int) - nc n E + 1) = (n : Int) - nc n (addE E v u) := by
          rw [show (n : Int) - nc n E + 1 = (n : Int) - nc n (addE E v u) by omega]; exact IntWalk.i64_in _ (by omega)
        obtain ⟨hL8, hF8⟩ := hL7.edges (hF2.then (hF3.then (hF4.then (hF5'.then (hF6.then hF7))))) ((n : Int) - nc n (addE E v u))
        have Hfin := Lib.hid (show LM _ pf g n (addE E v u) key from ⟨cap2, _, F', par', d', rt', hL8, q1, hAE, fun x hx => by rw [Key.out.2.1]; exact HK2.out x hx⟩)
        have hnq : nc n E = nc n (addE E v u) + 1 := hcnt.symm
        rw [hnq] at c7
        have hed2 : (n : Int) - ((nc n (addE E v u) + 1 : Nat) : Int) + 1 = (n : Int) - nc n (addE E v u) := by omega
        clear hL8 q1 q2 hAE hcnt hnq hed Key
        generalize nc n (addE E v u) = z at *
        go_wp2
        go_ret
        rw [Hlc.out.1, Hlc.out.2]
        have e : (n : Int) - ((z : Int) + 1) + 1 = (n : Int) - z := by omega
        rw [e]
        exact ⟨rfl, Hfin.out, (hFa.mono (S' := [pf, g]) (by simp)).trans hF8 (fun q hq => .inl hq)⟩
  · have hlc : linkCode n E a b = 3 := by
      unfold linkCode; rw [if_neg]
      rintro ⟨h1, h2⟩
      rcases (show k = 0 ∨ k = 1 by omega) with rfl | rfl
      · have hbad : inV n a = false := hbad; rw [h1] at hbad; cases hbad
      · have hbad : inV n b = false := hbad; rw [h2] at hbad; cases hbad
    have hle : linkE n E a b = E := by unfold linkE; rw [hlc]; simp
    have Hlc := Lib.hid (And.intro hlc hle); clear hlc hle hbad
    go_wp2
    go_ret
    rw [Hlc.out.1, Hlc.out.2]
    exact ⟨rfl, HMa.out, hFa.mono (by simp)⟩

end Go.Proofs.Ytoppjjgecgbbkaa
