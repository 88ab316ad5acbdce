/- lct: expose. -/
import Derived.Test.YtoppjjgecgbbkaaLctSplay
import Derived.Test.YtoppjjgecgbbkaaLctXI
namespace Go.Proofs.Ytoppjjgecgbbkaa
open Go.RowKit
set_option maxRecDepth 10000
set_option maxHeartbeats 800000

theorem splay_f {w : World} {pf g N cap : Nat} {σ : Tbl} {ed : Int} (h : LctAt w pf g N cap σ ed) {par d rt : Nat → Nat} {t : BT} {u : Nat} {R : Fst} (hF : LF N σ ((t, u) :: R) par d rt) (i : Nat) (hi : i ∈ t.nodes) :
    Calls Try.prog 55 #[.pointer (some ⟨pf, 0, none⟩), .int .i64 i] w fun e w' => e = .returned (.tuple #[]) ∧
      ∃ σ' l' r', LctAt w' pf g N cap σ' ed ∧ Rep σ' (.node false l' i r') u ∧ (BT.node false l' i r').seq = t.seq ∧ (BT.node false l' i r').nodes.Perm t.nodes ∧ Rotated σ σ' t.nodes ∧ InR N σ' ∧ Fr [g] w w' := by
  obtain ⟨c, f, l, r, rfl⟩ := zip_ex hi
  have hnd := hF.nd
  rw [fnodes_cons, List.nodup_append] at hnd
  exact splay_w h i hF.inR c f l r u (hF.rep (plug c (.node f l i r), u) (by simp)) hnd.1 hF.outs (fun x hx => (hF.lt (p := (plug c (.node f l i r), u)) (by simp) hx).2)

theorem expose_w {w : World} {pf g N cap : Nat} {σ : Tbl} {ed : Int} (h : LctAt w pf g N cap σ ed) {par d rt : Nat → Nat} {F : Fst} (hF : LF N σ F par d rt) (i : Nat) (hi0 : 0 < i) (hi : i < N) :
    Calls Try.prog 34 #[.pointer (some ⟨pf, 0, none⟩), .int .i64 i] w fun e w' => ∃ m τ l R, e = .returned (.int .i64 (m : Nat)) ∧ LctAt w' pf g N cap τ ed ∧ Exposed N σ F par d rt i m τ l R ∧ Fr [g] w w' := by
  have hN := h.le
  have HX := Lib.hid (XI.start hF hi hi0)
  clear hF
  go_enter Try.func34, Try.ntmps34
  go_wp2
  go_loopg [5, 6] (d i + 1) (fun k a b wr => ∃ (τ : Tbl) (B : BT) (j : Nat) (R : Fst), a = .int .i64 B.root ∧ b = .int .i64 j ∧ LctAt wr pf g N cap τ ed ∧ Fr [g] w wr ∧ Hid (XI N σ F par d rt i τ B j R) ∧ (j ≠ 0 → d j < k))
  case atStart => exact ⟨σ, .nil, i, F, rfl, rfl, h, Fr.refl _ _, HX, fun _ => Nat.lt_succ_self _⟩
  case round =>
    clear h HX
    obtain ⟨τ, B, j, R, rfl, rfl, hL, hFr, HX, hk⟩ := hrel
    by_cases hj : j = 0
    · subst hj
      obtain ⟨hiB, _⟩ := HX.out.done (by omega)
      go_wp2_with fail
      refine (splay_f hL HX.out.lf i hiB).mono ?_
      rintro _ w2 ⟨rfl, τ2, l2, r2, hL2, q1, q2, q3, q4, q5, hF2⟩
      have HE := Lib.hid (HX.out.exposed (by omega) q1 q2 q3 q4)
      clear q1 q2 q3 q4 q5
      go_wp2
      go_ret
      exact ⟨B.root, τ2, l2, R, rfl, hL2, HE.out, hFr.then hF2⟩
    · obtain ⟨t, u, R2, hR2, hjt⟩ := HX.out.split hj
      have HR2 := Lib.hid hR2; clear hR2
      have hb0 : ((j : Int) == 0) = false := beq_eq_false_iff_ne.2 (by omega)
      have hjN : j < N := HX.out.lf.up (B, j) (by simp)
      have hj2 : (j : Int) < N := by omega
      have hbN : B.root < N := by
        by_cases e : B.root = 0
        · rw [e]; omega
        · exact (HX.out.lf.lt (p := (B, j)) (by simp) (BT.root_mem e)).2
      have hb2 : (B.root : Int) < N := by omega
      have Hk := Lib.hid hk; clear hk
      have Hj := Lib.hid hj; clear hj
      go_wp2_with fail
      refine (splay_f hL (HX.out.lf2 HR2.out) j hjt).mono ?_
      rintro _ w2 ⟨rfl, τ2, l2, r2, hL2, q1, q2, q3, q4, q5, hF2⟩
      have HE := Lib.hid (HX.out.next Hj.out HR2.out hjt q1 q2 q3 q4)
      have HI := Lib.hid q5
      have hk1 := (q5 j hjN).2.1
      have hk1' : ((τ2 j).k1 : Int) < N := by omega
      clear q1 q2 q3 q4 q5
      have a7 := hL2.nodes.c7 j hjN
      have a1 := hL2.nodes.c1 j hjN
      have a8 := hL2.nodes.c8 (τ2 j).k1 hk1
      have b8 := hL2.nodes.c8 B.root hbN
      have d1 := hL2.hd.cell 1
      simp only [List.getElem?_cons_zero, List.getElem?_cons_succ] at d1
      have hfz := hL2.nodes.frozen
      generalize hbr : B.root = br at *
      have Hbr := Lib.hid hbr; clear hbr
      go_wp2
      refine region_one 28 (fun w' => LctAt w' pf g N cap (xst1 τ2 j br) ed ∧ Fr [g] w2 w') (by kernel_rfl) (by kernel_rfl) (by kernel_rfl) ?_
      iterate 28 (refine gWalk_pre (by decide) (fun K hK => ?_); go_simp; refine hK _ ?_; clear hK K)
      refine gWalk_write rfl undef (fun w' hw' => ?_) ?_
      · obtain ⟨nq, rfl⟩ := hw'
        go_simp
        rw [iw64, iw64]
        exact (hL2.eqv (Eqv.drewN w2 nq)).st7 ((Fr.refl [g] w2).drewN nq) hjN _
      refine gWalk_nil ?_
      rintro w3 ⟨hL3, hF3⟩
      clear a7 a1 a8 b8 d1 hfz
      have hk3 := hL3.nodes.c1 j hjN
      have hfz3 := hL3.nodes.frozen
      obtain ⟨hL4, hF4⟩ := hL3.st1 (Fr.refl [g] w3) hjN br
      have HL4 := Lib.hid (show LctAt (w3.setCell ⟨g, j * 9 + 1, none⟩ (.int .i64 br)) pf g N cap (xst2 τ2 j br) ed from hL4)
      clear hL4
      go_wp2_with fail
      refine (refresh_w HL4.out j hjN HE.out.2.1.2.2.2 HE.out.2.1.2.1 HE.out.2.1.2.2.1).mono ?_
      rintro _ w5 ⟨rfl, hL5, hF5⟩
      change LctAt w5 pf g N cap (xstep τ2 j br) ed at hL5
      have e2 := hL5.nodes.c2 j hjN
      rw [HE.out.2.2.2] at e2
      have d5 := hL5.hd.cell 1
      simp only [List.getElem?_cons_zero, List.getElem?_cons_succ] at d5
      clear hfz3 hk3 HL4
      go_wp2
      go_roundg (if u = 0 then 0 else d u + 1)
      case measure =>
        have := Hk.out Hj.out
        by_cases e : u = 0
        · rw [if_pos e]; omega
        · rw [if_neg e]; have := HE.out.2.2.1 e; omega
      case rel =>
        refine ⟨_, _, u, _, rfl, rfl, hL5, hFr.then (hF2.then (hF3.then (hF4.then hF5))), Lib.hid HE.out.1, fun e => by rw [if_neg e]; exact Nat.lt_succ_self _⟩

end Go.Proofs.Ytoppjjgecgbbkaa
