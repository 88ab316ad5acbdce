/- lct: Cut. -/
import Derived.Test.YtoppjjgecgbbkaaLctSame
import Derived.Test.YtoppjjgecgbbkaaLctMeetsW
namespace Go.Proofs.Ytoppjjgecgbbkaa
open Go.RowKit Classical
set_option maxRecDepth 10000
set_option maxHeartbeats 800000

noncomputable def cutCode (n : Nat) (E : Nat → Nat → Prop) (a b : Int) : Int :=
  if inV n a = true ∧ inV n b = true then (if E a.toNat b.toNat then 0 else 5) else 3
noncomputable def cutE (n : Nat) (E : Nat → Nat → Prop) (a b : Int) : Nat → Nat → Prop := if cutCode n E a b = 0 then delE E a.toNat b.toNat else E

theorem dist_one {n : Nat} {E : Nat → Nat → Prop} (h : Frs E) {v u : Nat} (hv : v < n) (hu : u < n) : distI n E v u = 1 ↔ E v u := by
  constructor
  · intro e
    by_cases hc : ConnI n E v u
    · obtain ⟨_, _, p, hp⟩ := hc
      simp only [Int.toNat_natCast] at hp
      rw [dist_nat h hv hu hp] at e
      obtain ⟨l, rfl, hw, _, hl⟩ := hp
      have hlen : l.length = 1 := by simp at e; omega
      match l, hlen with
      | [x], _ =>
        simp at hl; subst hl
        exact hw.1
    · unfold distI at e; rw [if_neg hc] at e; cases e
  · intro e
    rw [dist_nat h hv hu (h.edge e)]; rfl

theorem cut_w {w : World} {pf g n : Nat} {E : Nat → Nat → Prop} {key : Nat → Int} (h : LM w pf g n E key) (a b : Int) :
    Calls Try.prog 30 #[.pointer (some ⟨pf, 0, none⟩), .int .i64 a, .int .i64 b] w fun e w' => e = .returned (.int .i64 (cutCode n E a b)) ∧ LM w' pf g n (cutE n E a b) key ∧ Fr [pf, g] w w' := by
  have H := Lib.hid h
  have hfrs := Lib.hid (LG.frs h)
  obtain ⟨hp1, hg1, hn1⟩ := LG.lts h
  obtain ⟨cap, σ, F, par, d, rt, hL, hF, hE, hk⟩ := h
  clear hF hE hk
  have hLa : LctAt (w.alloc (.cells #[.int .i64 a, .int .i64 b] 3)) pf g (n + 1) cap σ ((n : Int) - nc n E) := hL.below ((Below.refl _ w).alloc (Nat.le_refl _) _) hp1 hg1
  have hblk := Blk.new w [.int .i64 a, .int .i64 b] 3
  have hFa : Fr [] w (w.alloc (.cells #[.int .i64 a, .int .i64 b] 3)) := (Fr.refl _ _).alloc _
  have HMa := Lib.hid (LG.fr H.out hFa (by simp) (by simp))
  have hCk := check_w hLa w.heap.size 2 (fun k => if k = 0 then a else b) (by decide) (fun k hk => by
    rw [hblk.cell]
    rcases (show k = 0 ∨ k = 1 by omega) with rfl | rfl <;> rfl)
  have HCk := Lib.hid hCk; clear hCk hblk
  clear hLa hL
  go_enter Try.func30, Try.ntmps30
  go_wp2_with fail
  refine HCk.out.mono ?_
  rintro _ w1 ⟨hcode, rfl⟩
  clear HCk
  generalize w.alloc (.cells #[.int .i64 a, .int .i64 b] 3) = w1 at *
  rcases hcode with ⟨rfl, hall⟩ | ⟨rfl, k, hk, hbad⟩
  · have va : inV n a = true := hall 0 (by decide)
    have vb : inV n b = true := hall 1 (by decide)
    clear hall
    obtain ⟨v, rfl, hv⟩ := inV_nat va
    obtain ⟨u, rfl, hu⟩ := inV_nat vb
    have hd1 := dist_one (n := n) hfrs.out hv hu
    go_wp2_with fail
    refine (dist_d HMa.out (v : Int) (u : Int)).mono ?_
    rintro _ w2 ⟨rfl, hM2, hF2⟩
    by_cases he : E v u
    · have hlc : cutCode n E v u = 0 := by unfold cutCode; rw [if_pos ⟨va, vb⟩, Int.toNat_natCast, Int.toNat_natCast, if_pos he]
      have hle : cutE n E v u = delE E v u := by unfold cutE; rw [hlc, if_pos rfl, Int.toNat_natCast, Int.toNat_natCast]
      have Hlc := Lib.hid (And.intro hlc hle); clear hlc hle
      have Hd := Lib.hid (hd1.2 he)
      rw [Hd.out]
      have He := Lib.hid he
      clear va vb hd1
      obtain ⟨cap2, σ2, F2, par2, d2, rt2, hL2, hLF2, hE2, hk2⟩ := hM2
      have hrt : rt2 (v + 1) = rt2 (u + 1) := (conn_rt hLF2.rtd hE2).1 (conn_of_edge hfrs.out he)
      have HF2 := Lib.hid hLF2; clear hLF2
      have HE2 := Lib.hid hE2; clear hE2
      have HK2 := Lib.hid hk2; clear hk2
      clear he
      have hN := hL2.le
      go_wp2_with fail
      refine (path_v hL2 HF2.out v u hv hu).mono ?_
      rintro _ w3 ⟨rfl, τ, l, R, par', d', rt', hL3, hP, hF3⟩
      obtain ⟨p, hp1', hp2', _⟩ := hP.at HE2.out hrt
      have hpe : p = [v, u] := hfrs.out.unique hp1' (hfrs.out.edge He.out)
      have hls : l.seq = [v + 1] := by
        rw [hpe] at hp2'
        simp only [List.map_cons, List.map_nil] at hp2'
        have e : [v + 1] ++ [u + 1] = l.seq ++ [u + 1] := hp2'
        exact (List.append_cancel_right e).symm
      have HCt := Lib.hid (hP.lf.cut hls)
      have HPk := Lib.hid (And.intro hP.key hP.adj)
      clear hP hp1' hp2' hpe hls hrt
      have d3 := hL3.hd.cell 1
      simp only [List.getElem?_cons_zero, List.getElem?_cons_succ] at d3
      have hfz3 := hL3.nodes.frozen
      have a2 := hL3.nodes.c2 (v + 1) (by omega)
      obtain ⟨hL4, hF4⟩ : LctAt (w3.setCell ⟨g, (v + 1) * 9 + 2, none⟩ (.int .i64 0)) pf g (n + 1) cap2 (τ.upd (v + 1) { τ (v + 1) with up := 0 }) ((n : Int) - nc n E) ∧ Fr [g] w3 (w3.setCell ⟨g, (v + 1) * 9 + 2, none⟩ (.int .i64 0)) := hL3.st2 (Fr.refl [g] w3) (i := v + 1) (by omega) 0
      have hv2 : ((v + 1 : Nat) : Int) < ((n + 1 : Nat) : Int) := by omega
      have hu2 : ((u + 1 : Nat) : Int) < ((n + 1 : Nat) : Int) := by omega
      have d4 := hL4.hd.cell 1
      simp only [List.getElem?_cons_zero, List.getElem?_cons_succ] at d4
      have hfz4 := hL4.nodes.frozen
      have b0 := hL4.nodes.c0 (u + 1) (by omega)
      obtain ⟨hL5, hF5⟩ := hL4.st0 hF4 (i := u + 1) (by omega) 0
      have HL5 : Hid (LctAt ((w3.setCell ⟨g, (v + 1) * 9 + 2, none⟩ (.int .i64 0)).setCell ⟨g, (u + 1) * 9, none⟩ (.int .i64 0)) pf g (n + 1) cap2 (cut2 τ (v + 1) (u + 1)) ((n : Int) - nc n E) ∧ Fr [g] w3 ((w3.setCell ⟨g, (v + 1) * 9 + 2, none⟩ (.int .i64 0)).setCell ⟨g, (u + 1) * 9, none⟩ (.int .i64 0))) := Lib.hid (And.intro hL5 hF5)
      clear hL5 hF5 hL4 hF4
      go_wp2_with fail
      refine (refresh_v HL5.out.1 u hu HCt.out.2.2.2.2 HCt.out.2.2.1 HCt.out.2.2.2.1).mono ?_
      rintro _ w6 ⟨rfl, hL6, hF6⟩
      have hF36 : Fr [g] w3 w6 := HL5.out.2.then hF6
      clear HL5 d3 hfz3 a2 d4 hfz4 b0
      have c6 := hL6.hd.cell 2
      simp only [List.getElem?_cons_zero, List.getElem?_cons_succ] at c6
      have hfz6 := hL6.hd.frozen 2
      obtain ⟨par3, d3', rt3, F3, q1, q2⟩ := HCt.out.1
      have hDE : ∀ x y, delE E v u x y ↔ Adj par3 (x + 1) (y + 1) := by
        intro x y
        rw [q2, HPk.out.2]
        unfold delE
        rw [HE2.out x y]
        simp only [Nat.add_right_cancel_iff]
      have hcnt := nc_del (n := n) hfrs.out ⟨par3, d3', rt3, q1.rtd, hDE⟩ He.out hv hu
      have hnc1 := nc_le n (delE E v u)
      obtain ⟨hL8, hF8⟩ := hL6.edges (hF2.then (hF3.then hF36)) ((n : Int) - nc n (delE E v u))
      have Hfin := Lib.hid (show LM _ pf g n (delE E v u) key from ⟨cap2, _, F3, par3, d3', rt3, hL8, q1, hDE, fun x hx => by rw [HCt.out.2.1, HPk.out.1]; exact HK2.out x hx⟩)
      have he2 : (n : Int) - nc n E - 1 = (n : Int) - nc n (delE E v u) := by omega
      have He2 := Lib.hid he2
      clear hL8 q1 q2 hDE hcnt he2 HCt
      have hncE := nc_le n E
      generalize nc n E = z1 at *
      generalize nc n (delE E v u) = z2 at *
      go_wp2
      go_ret
      rw [Hlc.out.1, Hlc.out.2, He2.out]
      exact ⟨rfl, Hfin.out, (hFa.mono (S' := [pf, g]) (by simp)).trans hF8 (fun q hq => .inl hq)⟩
    · have hlc : cutCode n E v u = 5 := by unfold cutCode; rw [if_pos ⟨va, vb⟩, Int.toNat_natCast, Int.toNat_natCast, if_neg he]
      have hle : cutE n E v u = E := by unfold cutE; rw [hlc]; simp
      have Hlc := Lib.hid (And.intro hlc hle); clear hlc hle
      have hne : (distI n E v u != 1) = true := bne_iff_ne.2 (fun e => he (hd1.1 e))
      have HM2 := Lib.hid hM2
      clear va vb hd1 he hM2
      go_wp2
      go_ret
      rw [Hlc.out.1, Hlc.out.2]
      exact ⟨rfl, HM2.out, (hFa.mono (S' := [pf, g]) (by simp)).trans hF2 (fun q hq => .inl (by simp at hq; simp [hq]))⟩
  · have hlc : cutCode n E a b = 3 := by
      unfold cutCode; rw [if_neg]
      rintro ⟨h1, h2⟩
      rcases (show k = 0 ∨ k = 1 by omega) with rfl | rfl
      · have hbad : inV n a = false := hbad; rw [h1] at hbad; cases hbad
      · have hbad : inV n b = false := hbad; rw [h2] at hbad; cases hbad
    have hle : cutE n E a b = E := by unfold cutE; rw [hlc]; simp
    have Hlc := Lib.hid (And.intro hlc hle); clear hlc hle hbad
    go_wp2
    go_ret
    rw [Hlc.out.1, Hlc.out.2]
    exact ⟨rfl, HMa.out, hFa.mono (by simp)⟩

end Go.Proofs.Ytoppjjgecgbbkaa
