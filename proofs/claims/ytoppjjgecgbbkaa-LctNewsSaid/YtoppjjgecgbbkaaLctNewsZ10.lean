/- LctMins: the walk. -/
import Derived.Test.YtoppjjgecgbbkaaLctNewsZ8
import Derived.ChangeKeysEq
import Derived.Test.YtoppjjgecgbbkaaLctNewsZ9
import Derived.Deep.RegionHeld3
/- LctMeets: the plain law, and the walk. -/
namespace Go.Proofs.Ytoppjjgecgbbkaa
open Go.RowKit Classical
set_option maxRecDepth 10000
set_option maxHeartbeats 800000

section
variable {n : Nat} {E : Nat → Nat → Prop} {a b c : Int}
theorem conn_swap (h : Frs E) : connB n E a b = connB n E b a := by
  rw [Bool.eq_iff_iff, connB_iff, connB_iff]
  exact ⟨fun ⟨x, y, z⟩ => ⟨y, x, h.csymm z⟩, fun ⟨x, y, z⟩ => ⟨y, x, h.csymm z⟩⟩
theorem conn_tr (h : Frs E) (h1 : connB n E a b = true) (h2 : connB n E b c = true) : connB n E a c = true := by
  rw [connB_iff] at *
  exact ⟨h1.1, h2.2.1, h.ctrans h1.2.2 h2.2.2⟩
theorem meetB_turn (h : Frs E) : meetB n E c a b = meetB n E a b c := by
  unfold meetB
  rw [Bool.eq_iff_iff, Bool.and_eq_true, Bool.and_eq_true]
  constructor
  · rintro ⟨h1, h2⟩
    exact ⟨h2, conn_tr h ((conn_swap h).trans h2) ((conn_swap h).trans h1)⟩
  · rintro ⟨h1, h2⟩
    exact ⟨conn_tr h ((conn_swap h).trans h2) ((conn_swap h).trans h1), h1⟩
theorem meetB_swap (h : Frs E) : meetB n E b a c = meetB n E a b c := by
  unfold meetB
  rw [Bool.eq_iff_iff, Bool.and_eq_true, Bool.and_eq_true]
  constructor
  · rintro ⟨h1, h2⟩
    exact ⟨(conn_swap h).trans h1, conn_tr h h1 h2⟩
  · rintro ⟨h1, h2⟩
    exact ⟨(conn_swap h).trans h1, conn_tr h h1 h2⟩
theorem meets_turn {a b c m : Nat} (hm : MeetsAt E a b c m) : MeetsAt E c a b m := by
  obtain ⟨p, q, r, h1, h2, h3, h4⟩ := hm
  exact ⟨r, p, q, h3, h1, h2, fun x => by rw [← h4 x]; exact ⟨fun ⟨u, v, w⟩ => ⟨v, w, u⟩, fun ⟨u, v, w⟩ => ⟨w, u, v⟩⟩⟩
theorem meets_swap (h : Frs E) {a b c m : Nat} (hm : MeetsAt E a b c m) : MeetsAt E b a c m := by
  obtain ⟨p, q, r, h1, h2, h3, h4⟩ := hm
  have hs : ∀ v u, E v u → E u v := fun _ _ e => h.symm e
  exact ⟨p.reverse, r.reverse, q.reverse, h1.rev hs, h3.rev hs, h2.rev hs, fun x => by simp only [List.mem_reverse]; rw [← h4 x]; exact ⟨fun ⟨u, v, w⟩ => ⟨u, w, v⟩, fun ⟨u, v, w⟩ => ⟨u, w, v⟩⟩⟩
/-- The paths between three connected vertices meet. -/
theorem meets_ex (h : Frs E) {a b c : Nat} (h1 : Conn E a b) (h2 : Conn E b c) : ∃ m, MeetsAt E a b c m := by
  obtain ⟨p, hp⟩ := h1
  obtain ⟨q, hq⟩ := h.ctrans ⟨p, hp⟩ h2
  -- the last vertex of the path to c that lies on the path to b
  have key : ∀ (l A : List Nat), A ++ l = q → (∀ x ∈ l, x ∉ p) ∨ ∃ C m D, q = C ++ m :: D ∧ m ∈ p ∧ ∀ x ∈ D, x ∉ p := by
    intro l
    induction l with
    | nil => intro A _; exact .inl (fun x hx => by cases hx)
    | cons y l ih =>
      intro A hA
      rcases ih (A ++ [y]) (by simp [hA]) with h1 | h1
      · by_cases hy : y ∈ p
        · exact .inr ⟨A, y, l, hA.symm, hy, h1⟩
        · exact .inl (fun x hx => by rcases List.mem_cons.1 hx with rfl | hx; exact hy; exact h1 x hx)
      · exact .inr h1
  rcases key q [] rfl with h0 | ⟨C, m, D, rfl, hm, hD⟩
  · obtain ⟨l, rfl⟩ := hq.first
    obtain ⟨l', rfl⟩ := hp.first
    exact absurd (by simp) (h0 a (by simp))
  · obtain ⟨A, R, rfl⟩ := List.append_of_mem hm
    have e := h.unique hp.split.1 hq.split.1
    have e2 : A = C := by simpa using e
    subst e2
    exact ⟨m, meet_paths h hp hq hD⟩
theorem meetI_turn (h : Frs E) : meetI n E c a b = meetI n E a b c := by
  unfold meetI
  rw [meetB_turn h]
  by_cases hb : meetB n E a b c = true
  · rw [if_pos hb, if_pos hb]
    unfold meetB at hb
    rw [Bool.and_eq_true, connB_iff, connB_iff] at hb
    obtain ⟨m, hm⟩ := meets_ex h hb.1.2.2 hb.2.2.2
    rw [theMeet_eq h hm, theMeet_eq h (meets_turn hm)]
  · rw [if_neg hb, if_neg hb]
theorem meetI_swap (h : Frs E) : meetI n E b a c = meetI n E a b c := by
  unfold meetI
  rw [meetB_swap h]
  by_cases hb : meetB n E a b c = true
  · rw [if_pos hb, if_pos hb]
    unfold meetB at hb
    rw [Bool.and_eq_true, connB_iff, connB_iff] at hb
    obtain ⟨m, hm⟩ := meets_ex h hb.1.2.2 hb.2.2.2
    rw [theMeet_eq h hm, theMeet_eq h (meets_swap h hm)]
  · rw [if_neg hb, if_neg hb]

theorem wk_lt (hlt : ∀ v u, E v u → v < n ∧ u < n) : ∀ {a : Nat} {l : List Nat}, Wk E a l → ∀ x ∈ l, x < n
  | _, y :: l, ⟨h1, h2⟩, x, hx => by
    rcases List.mem_cons.1 hx with rfl | hx
    · exact (hlt _ _ h1).2
    · exact wk_lt hlt h2 x hx
theorem dist_over (h : Frs E) (hlt : ∀ v u, E v u → v < n ∧ u < n) {a b m : Nat} (ha : a < n) (hb : b < n) {p : List Nat} (hp : IsPath E a b p) (hm : m ∈ p) : distI n E a m + distI n E m b = distI n E a b := by
  obtain ⟨A, B, rfl⟩ := List.append_of_mem hm
  have hmn : m < n := by
    obtain ⟨l, e, hw, _⟩ := hp
    rw [e] at hm
    rcases List.mem_cons.1 hm with rfl | hm
    · exact ha
    · exact wk_lt hlt hw m hm
  rw [dist_nat h ha hb hp, dist_nat h ha hmn hp.split.1, dist_nat h hmn hb hp.split.2]
  simp only [List.length_append, List.length_cons, List.length_nil]
  omega
theorem dist_le (h : Frs E) (hlt : ∀ v u, E v u → v < n ∧ u < n) (a b : Int) : -1 ≤ distI n E a b ∧ distI n E a b ≤ n := by
  by_cases hc : ConnI n E a b
  · obtain ⟨va, vb, p, hp⟩ := hc
    obtain ⟨x, rfl, hx⟩ := inV_nat va
    obtain ⟨y, rfl, hy⟩ := inV_nat vb
    simp only [Int.toNat_natCast] at hp
    rw [dist_nat h hx hy hp]
    have h1 : p.length ≤ n := nodup_le hp.nd (fun z hz => by
      obtain ⟨l, rfl, hw, _⟩ := hp
      rcases List.mem_cons.1 hz with rfl | hz
      · exact hx
      · exact wk_lt hlt hw z hz)
    have h2 : 0 < p.length := List.length_pos_iff.2 hp.ne
    omega
  · unfold distI; rw [if_neg hc]; omega
end

/-- The three equations between distances. -/
theorem meets_dist {n : Nat} {E : Nat → Nat → Prop} (h : Frs E) (hlt : ∀ v u, E v u → v < n ∧ u < n) {a b c : Int} (hm : meetB n E a b c = true) :
    distI n E a (meetI n E a b c) + distI n E (meetI n E a b c) b = distI n E a b ∧ distI n E b (meetI n E a b c) + distI n E (meetI n E a b c) c = distI n E b c ∧ distI n E c (meetI n E a b c) + distI n E (meetI n E a b c) a = distI n E c a := by
  have hm' := hm
  unfold meetB at hm
  rw [Bool.and_eq_true, connB_iff, connB_iff] at hm
  obtain ⟨va, vb, c1⟩ := hm.1
  obtain ⟨_, vc, c2⟩ := hm.2
  obtain ⟨x, rfl, hx⟩ := inV_nat va
  obtain ⟨y, rfl, hy⟩ := inV_nat vb
  obtain ⟨z, rfl, hz⟩ := inV_nat vc
  simp only [Int.toNat_natCast] at c1 c2
  obtain ⟨m, hmt⟩ := meets_ex h c1 c2
  have e : meetI n E x y z = m := by unfold meetI; rw [hm', if_pos rfl, Int.toNat_natCast, Int.toNat_natCast, Int.toNat_natCast, theMeet_eq h hmt]
  rw [e]
  obtain ⟨p, q, r, q1, q2, q3, q4⟩ := hmt
  obtain ⟨m1, m2, m3⟩ := (q4 m).2 rfl
  exact ⟨dist_over h hlt hx hy q1 m1, dist_over h hlt hy hz q2 m2, dist_over h hlt hz hx q3 m3⟩

theorem walk_lctMeets (W : World) (n : Int) (_wn : (Lit.int .i64 n).wf = true) (a : Option Addr) (len cap : Nat) (z : Nat → Int × Int) (hz : PairsF W a len z) (t : Int × Int × Int) (_ht : True) :
    Calls Try.prog 4 #[.int .i64 n, .slice a len cap, .agg #[.int .i64 t.1, .int .i64 t.2.1, .int .i64 t.2.2]] W fun e w' => e = .returned (.bool true) ∧ Below W.heap.size W w' := by
  obtain ⟨t0, t1, t2⟩ := t
  have hlen := hz.1
  have HZ := Lib.hid hz; clear hz
  go_enter Try.func4, Try.ntmps4
  go_wp2_with fail
  have hB0 : Below W.heap.size W (W.alloc (.cells #[.int .i64 t0, .int .i64 t1, .int .i64 t2] 34)) := (Below.refl _ W).alloc (Nat.le_refl _) _
  have hblk := Blk.new W [.int .i64 t0, .int .i64 t1, .int .i64 t2] 34
  have hs0 : (W.alloc (.cells #[.int .i64 t0, .int .i64 t1, .int .i64 t2] 34)).heap.size = W.heap.size + 1 := by simp
  generalize W.alloc (.cells #[.int .i64 t0, .int .i64 t1, .int .i64 t2] 34) = W0 at *
  have c0 : W0.cell? ⟨W.heap.size, 0, none⟩ = some (.int .i64 t0) := hblk.cell 0
  have c1 : W0.cell? ⟨W.heap.size, 1, none⟩ = some (.int .i64 t1) := hblk.cell 1
  have c2 : W0.cell? ⟨W.heap.size, 2, none⟩ = some (.int .i64 t2) := hblk.cell 2
  have HC := Lib.hid (And.intro c0 (And.intro c1 c2)); clear c0 c1 c2 hblk
  have HZ0 := Lib.hid (HZ.out.below hB0)
  refine (small_w W0 n a len cap hlen).mono ?_
  rintro _ w ⟨rfl, rfl⟩
  cases hsm : smallB n len with
  | false =>
    go_wp2_with fail
    refine (works_w w).mono ?_
    rintro _ w2 ⟨rfl, hB⟩
    go_wp2
    go_ret
    exact ⟨rfl, hB0.trans (hB.mono hB0.size)⟩
  | true =>
    have hn : 0 ≤ n ∧ n ≤ 120 ∧ len ≤ 120 := by simp [smallB] at hsm; omega
    clear hsm
    obtain ⟨n, rfl⟩ : ∃ m : Nat, n = m := ⟨n.toNat, by omega⟩
    obtain ⟨_, hn1, hn2⟩ := hn
    have hn3 : n ≤ 120 := by omega
    go_wp2_with fail
    refine (grown_w w n hn3 a len cap hn2 z HZ0.out).mono ?_
    rintro _ w1 ⟨pf, g, v, rfl, hO, hown, hq⟩
    obtain ⟨a9, c9, rfl⟩ := ownsRow_slice hown
    clear hown hq
    have Hfs := Lib.hid (LG.frs hO.lm)
    have Hlt := Lib.hid (fun v u => LG.edge_lt hO.lm (v := v) (u := u))
    have HO := Lib.hid hO; clear hO
    generalize EK (growK n z len) = E at *
    have e0 := (HO.out.below.cell (p := ⟨W.heap.size, 0, none⟩) (by show W.heap.size < _; omega)).trans HC.out.1
    have e1 := (HO.out.below.cell (p := ⟨W.heap.size, 1, none⟩) (by show W.heap.size < _; omega)).trans HC.out.2.1
    have e2 := (HO.out.below.cell (p := ⟨W.heap.size, 2, none⟩) (by show W.heap.size < _; omega)).trans HC.out.2.2
    go_wp2_with fail
    refine (meet_d HO.out.lm t0 t1 t2).mono ?_
    rintro _ w2 ⟨rfl, h2, f2⟩
    have HO2 := Lib.hid (HO.out.ask h2 f2); clear h2 e0 e1 e2
    have e0 := (HO2.out.below.cell (p := ⟨W.heap.size, 0, none⟩) (by show W.heap.size < _; omega)).trans HC.out.1
    have e1 := (HO2.out.below.cell (p := ⟨W.heap.size, 1, none⟩) (by show W.heap.size < _; omega)).trans HC.out.2.1
    have e2 := (HO2.out.below.cell (p := ⟨W.heap.size, 2, none⟩) (by show W.heap.size < _; omega)).trans HC.out.2.2
    have M2 := meet_d HO2.out.lm t2 t0 t1
    rw [meetI_turn Hfs.out, meetB_turn Hfs.out] at M2
    have HM2 := Lib.hid M2; clear M2
    go_wp2_with fail
    refine HM2.out.mono ?_
    rintro _ w3 ⟨rfl, h3, f3⟩
    have HO3 := Lib.hid (HO2.out.ask h3 f3); clear h3 e0 e1 e2 HM2
    have e0 := (HO3.out.below.cell (p := ⟨W.heap.size, 0, none⟩) (by show W.heap.size < _; omega)).trans HC.out.1
    have e1 := (HO3.out.below.cell (p := ⟨W.heap.size, 1, none⟩) (by show W.heap.size < _; omega)).trans HC.out.2.1
    have e2 := (HO3.out.below.cell (p := ⟨W.heap.size, 2, none⟩) (by show W.heap.size < _; omega)).trans HC.out.2.2
    have M3 := meet_d HO3.out.lm t1 t0 t2
    rw [meetI_swap Hfs.out, meetB_swap Hfs.out] at M3
    have HM3 := Lib.hid M3; clear M3
    go_wp2_with fail
    refine HM3.out.mono ?_
    rintro _ w4 ⟨rfl, h4, f4⟩
    have HO4 := Lib.hid (HO3.out.ask h4 f4); clear h4 e0 e1 e2 HM3 HO HO2 HO3
    have e0 := (HO4.out.below.cell (p := ⟨W.heap.size, 0, none⟩) (by show W.heap.size < _; omega)).trans HC.out.1
    have e1 := (HO4.out.below.cell (p := ⟨W.heap.size, 1, none⟩) (by show W.heap.size < _; omega)).trans HC.out.2.1
    have e2 := (HO4.out.below.cell (p := ⟨W.heap.size, 2, none⟩) (by show W.heap.size < _; omega)).trans HC.out.2.2
    have hD := fun hm => meets_dist (n := n) Hfs.out Hlt.out (a := t0) (b := t1) (c := t2) hm
    have HD := Lib.hid hD; clear hD
    have hmb : meetB n E t0 t1 t2 = (connB n E t0 t1 && connB n E t1 t2) := rfl
    have hC1 := Lib.hid (connected_d HO4.out.lm t0 t1)
    generalize hmI : meetI n E t0 t1 t2 = mI at *
    generalize hmB : meetB n E t0 t1 t2 = mB at *
    clear hmI
    cases hc1 : connB n E t0 t1 with
    | false =>
      rw [hc1] at hC1 hmb
      simp only [Bool.false_and] at hmb
      subst hmb
      clear HD hmB hc1
      go_wp2_with fail
      refine hC1.out.mono ?_
      rintro _ w5 ⟨rfl, h5, f5⟩
      have HO5 := Lib.hid (HO4.out.ask h5 f5); clear h5
      go_wp2_with fail
      refine (works_w _).mono ?_
      rintro _ w6 ⟨rfl, hB⟩
      go_wp2
      go_ret
      have hb5 := HO5.out.below
      exact ⟨rfl, hB0.trans ((hb5.trans (hB.mono hb5.size)).mono hB0.size)⟩
    | true =>
      rw [hc1] at hC1 hmb
      simp only [Bool.true_and] at hmb
      have Hmb := Lib.hid hmb; clear hmb hc1 hmB
      go_wp2_with fail
      refine hC1.out.mono ?_
      rintro _ w5 ⟨rfl, h5, f5⟩
      have HO5 := Lib.hid (HO4.out.ask h5 f5); clear h5 e0 e1 e2
      have e0 := (HO5.out.below.cell (p := ⟨W.heap.size, 0, none⟩) (by show W.heap.size < _; omega)).trans HC.out.1
      have e1 := (HO5.out.below.cell (p := ⟨W.heap.size, 1, none⟩) (by show W.heap.size < _; omega)).trans HC.out.2.1
      have e2 := (HO5.out.below.cell (p := ⟨W.heap.size, 2, none⟩) (by show W.heap.size < _; omega)).trans HC.out.2.2
      have hC2 := connected_d HO5.out.lm t1 t2
      rw [← Hmb.out] at hC2
      have HC2 := Lib.hid hC2; clear hC2 Hmb
      cases mB with
      | false =>
        clear HD
        go_wp2_with fail
        refine HC2.out.mono ?_
        rintro _ w6 ⟨rfl, h6, f6⟩
        have HO6 := Lib.hid (HO5.out.ask h6 f6); clear h6
        go_wp2_with fail
        refine (works_w _).mono ?_
        rintro _ w7 ⟨rfl, hB⟩
        go_wp2
        go_ret
        have hb6 := HO6.out.below
        exact ⟨rfl, hB0.trans ((hb6.trans (hB.mono hb6.size)).mono hB0.size)⟩
      | true =>
        have HD' := Lib.hid (HD.out rfl)
        clear HD
        have HD := HD'
        go_wp2_with fail
        refine HC2.out.mono ?_
        rintro _ w6 ⟨rfl, h6, f6⟩
        have HO6 := Lib.hid (HO5.out.ask h6 f6); clear h6 e0 e1 e2 HO4 HO5 HC2 hC1
        go_wp2
        go_loopw [15] (fun x wr => ∃ k : Nat, k ≤ 3 ∧ x = .int .i64 k ∧ Hid (Own1 w wr pf g n E (fun _ => 0))) (fun x _ => 3 - (intOf x).toNat)
        case atStart => exact ⟨0, by omega, rfl, HO6⟩
        case round =>
          clear HO6
          obtain ⟨k, hk, rfl, HO⟩ := hrel
          rcases (show k = 0 ∨ k = 1 ∨ k = 2 ∨ k = 3 by omega) with rfl | rfl | rfl | rfl
          · have D1 := dist_d HO.out.lm t0 (mI : Int)
            have hne : ((distI n E t0 mI + distI n E mI t1) != distI n E t0 t1) = false := by rw [HD.out.1]; simp
            have g1 := dist_le Hfs.out Hlt.out t0 (mI : Int)
            have g2 := dist_le Hfs.out Hlt.out (mI : Int) t1
            have e0 := (HO.out.below.cell (p := ⟨W.heap.size, 0, none⟩) (by show W.heap.size < _; omega)).trans HC.out.1
            have e1 := (HO.out.below.cell (p := ⟨W.heap.size, 1, none⟩) (by show W.heap.size < _; omega)).trans HC.out.2.1
            have HD1 := Lib.hid D1; clear D1
            go_wp2_with fail
            refine HD1.out.mono ?_
            rintro _ w5 ⟨rfl, h5, f5⟩
            have HO5 := Lib.hid (HO.out.ask h5 f5); clear HD1 h5
            go_wp2_with fail
            refine (dist_d HO5.out.lm (mI : Int) t1).mono ?_
            rintro _ w6 ⟨rfl, h6, f6⟩
            have HO6 := Lib.hid (HO5.out.ask h6 f6); clear h6
            go_wp2_with fail
            refine (dist_d HO6.out.lm t0 t1).mono ?_
            rintro _ w7 ⟨rfl, h7, f7⟩
            have HO7 := Lib.hid (HO6.out.ask h7 f7); clear h7
            generalize distI n E t0 mI = x1 at *
            generalize distI n E mI t1 = x2 at *
            generalize distI n E t0 t1 = x3 at *
            go_wp2
            go_roundw
            case rel => exact ⟨1, by omega, by go_num, HO7⟩
            case measure => simp [intOf]
          · have D1 := dist_d HO.out.lm t1 (mI : Int)
            have hne : ((distI n E t1 mI + distI n E mI t2) != distI n E t1 t2) = false := by rw [HD.out.2.1]; simp
            have g1 := dist_le Hfs.out Hlt.out t1 (mI : Int)
            have g2 := dist_le Hfs.out Hlt.out (mI : Int) t2
            have e0 := (HO.out.below.cell (p := ⟨W.heap.size, 1, none⟩) (by show W.heap.size < _; omega)).trans HC.out.2.1
            have e1 := (HO.out.below.cell (p := ⟨W.heap.size, 2, none⟩) (by show W.heap.size < _; omega)).trans HC.out.2.2
            have HD1 := Lib.hid D1; clear D1
            go_wp2_with fail
            refine HD1.out.mono ?_
            rintro _ w5 ⟨rfl, h5, f5⟩
            have HO5 := Lib.hid (HO.out.ask h5 f5); clear HD1 h5
            go_wp2_with fail
            refine (dist_d HO5.out.lm (mI : Int) t2).mono ?_
            rintro _ w6 ⟨rfl, h6, f6⟩
            have HO6 := Lib.hid (HO5.out.ask h6 f6); clear h6
            go_wp2_with fail
            refine (dist_d HO6.out.lm t1 t2).mono ?_
            rintro _ w7 ⟨rfl, h7, f7⟩
            have HO7 := Lib.hid (HO6.out.ask h7 f7); clear h7
            generalize distI n E t1 mI = x1 at *
            generalize distI n E mI t2 = x2 at *
            generalize distI n E t1 t2 = x3 at *
            go_wp2
            go_roundw
            case rel => exact ⟨2, by omega, by go_num, HO7⟩
            case measure => simp [intOf]
          · have D1 := dist_d HO.out.lm t2 (mI : Int)
            have hne : ((distI n E t2 mI + distI n E mI t0) != distI n E t2 t0) = false := by rw [HD.out.2.2]; simp
            have g1 := dist_le Hfs.out Hlt.out t2 (mI : Int)
            have g2 := dist_le Hfs.out Hlt.out (mI : Int) t0
            have e0 := (HO.out.below.cell (p := ⟨W.heap.size, 2, none⟩) (by show W.heap.size < _; omega)).trans HC.out.2.2
            have e1 := (HO.out.below.cell (p := ⟨W.heap.size, 0, none⟩) (by show W.heap.size < _; omega)).trans HC.out.1
            have HD1 := Lib.hid D1; clear D1
            go_wp2_with fail
            refine HD1.out.mono ?_
            rintro _ w5 ⟨rfl, h5, f5⟩
            have HO5 := Lib.hid (HO.out.ask h5 f5); clear HD1 h5
            go_wp2_with fail
            refine (dist_d HO5.out.lm (mI : Int) t0).mono ?_
            rintro _ w6 ⟨rfl, h6, f6⟩
            have HO6 := Lib.hid (HO5.out.ask h6 f6); clear h6
            go_wp2_with fail
            refine (dist_d HO6.out.lm t2 t0).mono ?_
            rintro _ w7 ⟨rfl, h7, f7⟩
            have HO7 := Lib.hid (HO6.out.ask h7 f7); clear h7
            generalize distI n E t2 mI = x1 at *
            generalize distI n E mI t0 = x2 at *
            generalize distI n E t2 t0 = x3 at *
            go_wp2
            go_roundw
            case rel => exact ⟨3, by omega, by go_num, HO7⟩
            case measure => simp [intOf]
          · go_wp2_with fail
            refine (works_w _).mono ?_
            rintro _ w7 ⟨rfl, hB⟩
            go_wp2
            go_ret
            have hb6 := HO.out.below
            exact ⟨rfl, hB0.trans ((hb6.trans (hB.mono hb6.size)).mono hB0.size)⟩

end Go.Proofs.Ytoppjjgecgbbkaa

/- LctPaths: the plain law, and the walk. -/
namespace Go.Proofs.Ytoppjjgecgbbkaa
open Go.RowKit Classical
set_option maxRecDepth 10000
set_option maxHeartbeats 800000

section
variable {n : Nat} {E : Nat → Nat → Prop}
theorem pathL_is {a b : Int} (h : ConnI n E a b) : IsPath E a.toNat b.toNat (pathL n E a b) := by unfold pathL; rw [if_pos h]; exact thePath_is h.2.2
theorem pathL_nil {a b : Int} (h : ¬ ConnI n E a b) : pathL n E a b = [] := by unfold pathL; rw [if_neg h]
theorem connI_symm (h : Frs E) {a b : Int} (hc : ConnI n E a b) : ConnI n E b a := ⟨hc.2.1, hc.1, h.csymm hc.2.2⟩
theorem pathL_rev (h : Frs E) (a b : Int) : pathL n E b a = (pathL n E a b).reverse := by
  by_cases hc : ConnI n E a b
  · exact h.unique (pathL_is (connI_symm h hc)) ((pathL_is hc).rev (fun _ _ e => h.symm e))
  · rw [pathL_nil hc, pathL_nil (fun e => hc (connI_symm h e))]; rfl
theorem pathL_pos {a b : Int} : decide (0 < (pathL n E a b).length) = connB n E a b := by
  by_cases hc : ConnI n E a b
  · have h1 := List.length_pos_iff.2 (pathL_is hc).ne
    rw [connB_iff.2 hc]; exact decide_eq_true h1
  · rw [pathL_nil hc]
    cases e : connB n E a b with
    | false => rfl
    | true => exact absurd (connB_iff.1 e) hc
theorem pathL_dist (a b : Int) : distI n E a b = ((pathL n E a b).length : Int) - 1 := by
  by_cases hc : ConnI n E a b
  · unfold distI pathL; rw [if_pos hc, if_pos hc]
  · unfold distI; rw [if_neg hc, pathL_nil hc]; rfl
theorem pathL_lt (hlt : ∀ v u, E v u → v < n ∧ u < n) {a b : Int} : ∀ x ∈ pathL n E a b, x < n := by
  intro x hx
  by_cases hc : ConnI n E a b
  · obtain ⟨l, e, hw, _⟩ := pathL_is hc
    rw [e] at hx
    obtain ⟨z, hz, hzn⟩ := inV_nat hc.1
    rcases List.mem_cons.1 hx with rfl | hx
    · rw [hz, Int.toNat_natCast]; exact hzn
    · exact wk_lt hlt hw x hx
  · rw [pathL_nil hc] at hx; cases hx
theorem pathL_nd (a b : Int) : (pathL n E a b).Nodup := by
  by_cases hc : ConnI n E a b
  · exact (pathL_is hc).nd
  · rw [pathL_nil hc]; exact List.nodup_nil
theorem wk_get : ∀ {a : Nat} {l : List Nat}, Wk E a l → ∀ i (hi : i + 1 < (a :: l).length), E ((a :: l)[i]'(by omega)) ((a :: l)[i + 1]'hi)
  | a, [], _, i, hi => by simp at hi
  | a, y :: l, ⟨h1, h2⟩, i, hi => by
    cases i with
    | zero => exact h1
    | succ i => exact wk_get h2 i (by simpa using hi)
theorem pathL_step (a b : Int) (i : Nat) (hi : i + 1 < (pathL n E a b).length) : E ((pathL n E a b)[i]'(by omega)) ((pathL n E a b)[i + 1]'hi) := by
  by_cases hc : ConnI n E a b
  · obtain ⟨l, e, hw, _⟩ := pathL_is hc
    have := wk_get hw i (by rw [← e]; exact hi)
    simp only [← e] at this
    exact this
  · rw [pathL_nil hc] at hi; simp at hi
theorem path_ends {x y : Nat} {p : List Nat} (hp : IsPath E x y p) (h : 0 < p.length) : p[0]'h = x ∧ p[p.length - 1]'(by omega) = y := by
  obtain ⟨l, e⟩ := hp.first
  have hl := hp.last
  rw [List.getLast?_eq_getElem?, List.getElem?_eq_getElem (by omega)] at hl
  refine ⟨?_, Option.some.inj hl⟩
  subst e; simp
theorem pathL_ends {a b : Int} (h : 0 < (pathL n E a b).length) : ((pathL n E a b)[0]'h : Int) = a ∧ ((pathL n E a b)[(pathL n E a b).length - 1]'(by omega) : Int) = b := by
  have hc : ConnI n E a b := by
    apply Classical.byContradiction; intro hc; rw [pathL_nil hc] at h; simp at h
  have hp := path_ends (pathL_is hc) h
  obtain ⟨x, hx, _⟩ := inV_nat hc.1
  obtain ⟨y, hy, _⟩ := inV_nat hc.2.1
  rw [hp.1, hp.2]; omega
end

theorem Try.infoi3 : ∃ i, Try.prog.info? 3 = some i := Option.isSome_iff_exists.1 (by kernel_rfl)
def pairEq (a b c d : Int) : Bool := a == c && b == d
@[go_sem] theorem eqIn_pair (a b c d : Int) (w : World) : (Op.equalIn 10000 30 (.agg #[.int .i64 a, .int .i64 b]) (.agg #[.int .i64 c, .int .i64 d])).run Try.prog w = .ok (pairEq a b c d) w := by
  obtain ⟨i, hi⟩ := Try.infoi3
  have u3 := Try.underlying3
  have a3 := Try.isAgg3
  have z3 := Try.sizeOf3
  have hc : Try.prog.cellsOf 3 = 1 := by kernel_rfl
  rw [show (10000 : Nat) = 9999 + 1 from rfl, run_equalIn_array w 9999 _ _ Try.underlying30 hi, hc]
  have r2 : List.range 2 = [0, 1] := rfl
  rw [r2]
  simp only [Op.eqItems]
  go_simp
  unfold pairEq
  by_cases h1 : a = c <;> by_cases h2 : b = d <;> simp [h1, h2]

@[go_sem] theorem guard_pair (x y : Operand) (xs ys : Array Value) (w : World) : (eqGuard .eql 30 x y (.agg xs) (.agg ys)).run Try.prog w = .ok () w := run_eqGuard_agg w .eql 30 x y xs ys (by kernel_rfl)

/-- Whether one of the first k edges joins x and y. -/
noncomputable def foundB (K : List (Nat × Nat)) (x y k : Nat) : Bool := decide (∃ j, ∃ h : j < K.length, j < k ∧ (K[j] = (x, y) ∨ K[j] = (y, x)))
theorem found_zero (K : List (Nat × Nat)) (x y : Nat) : foundB K x y 0 = false := decide_eq_false (by rintro ⟨j, _, h, _⟩; omega)
theorem found_succ {K : List (Nat × Nat)} {x y k : Nat} (hk : k < K.length) : foundB K x y (k + 1) = (foundB K x y k || (pairEq K[k].1 K[k].2 x y || pairEq K[k].1 K[k].2 y x)) := by
  rw [Bool.eq_iff_iff]
  simp only [foundB, pairEq, decide_eq_true_eq, Bool.or_eq_true, Bool.and_eq_true, beq_iff_eq, Int.natCast_inj]
  constructor
  · rintro ⟨j, hj, hlt, h⟩
    by_cases e : j = k
    · subst e
      right
      rcases h with h | h
      · rw [h]; exact .inl ⟨rfl, rfl⟩
      · rw [h]; exact .inr ⟨rfl, rfl⟩
    · exact .inl ⟨j, hj, by omega, h⟩
  · rintro (⟨j, hj, hlt, h⟩ | h | h)
    · exact ⟨j, hj, by omega, h⟩
    · exact ⟨k, hk, by omega, .inl (Prod.ext h.1 h.2)⟩
    · exact ⟨k, hk, by omega, .inr (Prod.ext h.1 h.2)⟩
theorem found_all {K : List (Nat × Nat)} {x y : Nat} (h : EK K x y) : foundB K x y K.length = true := by
  refine decide_eq_true ?_
  rcases h with h | h
  · obtain ⟨j, hj, e⟩ := List.mem_iff_getElem.1 h
    exact ⟨j, hj, hj, .inl e⟩
  · obtain ⟨j, hj, e⟩ := List.mem_iff_getElem.1 h
    exact ⟨j, hj, hj, .inr e⟩

theorem walk_lctPaths (W : World) (n : Int) (_wn : (Lit.int .i64 n).wf = true) (a : Option Addr) (len cap : Nat) (z : Nat → Int × Int) (hz : PairsF W a len z) (x : Int) (_wx : (Lit.int .i64 x).wf = true) (y : Int) (_wy : (Lit.int .i64 y).wf = true) :
    Calls Try.prog 5 #[.int .i64 n, .slice a len cap, .int .i64 x, .int .i64 y] W fun e w' => e = .returned (.bool true) ∧ Below W.heap.size W w' := by
  have hS := small_w W n a len cap hz.1
  have HZ := Lib.hid hz; clear hz
  cases hsm : smallB n len with
  | false =>
    rw [hsm] at hS
    have HS := Lib.hid hS; clear hS hsm
    go_enter Try.func5, Try.ntmps5
    go_wp2_with fail
    refine HS.out.mono ?_
    rintro _ w ⟨rfl, rfl⟩
    go_wp2_with fail
    refine (works_w w).mono ?_
    rintro _ w2 ⟨rfl, hB⟩
    go_wp2
    go_ret
    exact ⟨rfl, hB⟩
  | true =>
    rw [hsm] at hS
    have HS := Lib.hid hS; clear hS
    have hn : 0 ≤ n ∧ n ≤ 120 ∧ len ≤ 120 := by simp [smallB] at hsm; omega
    clear hsm
    obtain ⟨n, rfl⟩ : ∃ m : Nat, n = m := ⟨n.toNat, by omega⟩
    obtain ⟨_, hn1, hn2⟩ := hn
    have hn3 : n ≤ 120 := by omega
    go_enter Try.func5, Try.ntmps5
    go_wp2_with fail
    refine HS.out.mono ?_
    rintro _ w ⟨rfl, rfl⟩
    go_wp2_with fail
    refine (grown_w w n hn3 a len cap hn2 z HZ.out).mono ?_
    rintro _ w1 ⟨pf, g, v, rfl, hO, hown, hq⟩
    have hKl : (growK n z len).length ≤ 120 := Nat.le_trans (growK_len n z len) hn2
    generalize growK n z len = K at *
    obtain ⟨a1, c1, rfl⟩ := ownsRow_slice hown
    have Hfs := Lib.hid (LG.frs hO.lm)
    have Hlt := Lib.hid (fun v u => LG.edge_lt hO.lm (v := v) (u := u))
    have HO := Lib.hid hO; clear hO
    have HQ := Lib.hid hq; clear hq
    have HK := Lib.hid hown; clear hown
    obtain ⟨p, hp⟩ : ∃ p, pathL n (EK K) x y = p := ⟨_, rfl⟩
    have Hpl : Hid (∀ u ∈ p, u < n) := by rw [← hp]; exact pathL_lt Hlt.out
    have Hnd : Hid p.Nodup := by rw [← hp]; exact pathL_nd x y
    have Hst : Hid (∀ i (hi : i + 1 < p.length), EK K (p[i]'(by omega)) (p[i + 1]'hi)) := by subst hp; exact pathL_step x y
    have Hen : Hid (∀ h : 0 < p.length, ((p[0]'h : Nat) : Int) = x ∧ ((p[p.length - 1]'(by omega) : Nat) : Int) = y) := by subst hp; exact fun h => pathL_ends h
    have hll : p.length ≤ 120 := Nat.le_trans (nodup_le Hnd.out Hpl.out) hn3
    have PF1 := fun (w' : World) (h : LG w' pf g n (EK K) (fun _ => 0) ((n : Int) - nc n (EK K))) => pathf_w h x y
    have PF2 := fun (w' : World) (h : LG w' pf g n (EK K) (fun _ => 0) ((n : Int) - nc n (EK K))) => pathf_w h y x
    have hD3 := fun (w' : World) (h : LG w' pf g n (EK K) (fun _ => 0) ((n : Int) - nc n (EK K))) => dist_d h x y
    have hC3 := fun (w' : World) (h : LG w' pf g n (EK K) (fun _ => 0) ((n : Int) - nc n (EK K))) => connected_d h x y
    rw [pathL_rev Hfs.out x y, hp] at PF2
    rw [hp] at PF1
    rw [pathL_dist, hp] at hD3
    rw [← pathL_pos, hp] at hC3
    have HPF1 := Lib.hid PF1; clear PF1
    have HPF2 := Lib.hid PF2; clear PF2
    have HD3 := Lib.hid hD3; clear hD3
    have HC3 := Lib.hid hC3; clear hC3 hp
    go_wp2_with fail
    refine (HPF1.out _ HO.out.lm).mono ?_
    rintro _ w2 ⟨v2, rfl, r2, o2, h2, f2⟩
    have HO2 := Lib.hid (HO.out.ask h2 f2)
    have HK2 := Lib.hid (ownsRow_same HK.out (fun q hq => f2.keep q (HK.out.lt q hq).2 (by have := HQ.out q hq; simp; omega)))
    have R2 := Lib.hid (show RowN w2 v2 p from r2)
    obtain ⟨a2, c2, rfl⟩ := ownsRow_slice r2
    clear r2 h2
    go_wp2_with fail
    refine (HPF2.out _ HO2.out.lm).mono ?_
    rintro _ w3 ⟨v3, rfl, r3, o3, h3, f3⟩
    have HO3 := Lib.hid (HO2.out.ask h3 f3)
    have hlts := LG.lts HO.out.lm
    have HK3 := Lib.hid (ownsRow_same HK2.out (fun q hq => f3.keep q (HK2.out.lt q hq).2 (by have := HQ.out q hq; simp; omega)))
    have R23 := Lib.hid (R2.out.fr f3 (fun q hq => by have := o2 q hq; simp; omega))
    have R3 := Lib.hid (show RowN w3 v3 p.reverse from r3)
    obtain ⟨a3, c3, rfl⟩ := ownsRow_slice r3
    rw [List.length_reverse] at R3
    rw [List.length_reverse]
    clear r3 h3 HK HK2 R2
    obtain ⟨dp, hdp⟩ : ∃ dp, decide (0 < p.length) = dp := ⟨_, rfl⟩
    have C3 := HC3.out _ HO3.out.lm
    rw [hdp] at C3
    have HC := Lib.hid C3; clear C3 HC3
    have hneb : (dp != dp) = false := by cases dp <;> rfl
    have hnel : ((p.length : Int) != (p.length : Int)) = false := by simp
    go_wp2_with fail
    refine HC.out.mono ?_
    rintro _ w4 ⟨rfl, h4, f4⟩
    have HO4 := Lib.hid (HO3.out.ask h4 f4)
    go_wp2_with fail
    refine (HD3.out _ HO4.out.lm).mono ?_
    rintro _ w5 ⟨rfl, h5, f5⟩
    have HO5 := Lib.hid (HO4.out.ask h5 f5)
    have hS : ∀ q, (w.heap.size ≤ q ∧ q ≠ pf ∧ q ≠ g) ∨ w1.heap.size ≤ q ∨ w2.heap.size ≤ q → q ∉ [g] := by
      have e1 := f2.size
      rintro q (h | h | h) <;> simp <;> omega
    have HK5 := Lib.hid (ownsRow_same HK3.out (fun q hq => (f4.then f5).keep q (HK3.out.lt q hq).2 (hS q (.inl (HQ.out q hq)))))
    have R25 := Lib.hid (R23.out.fr (f4.then f5) (fun q hq => hS q (.inr (.inl (o2 q hq)))))
    have R35 := Lib.hid (show RowN w5 (.slice a3 p.length c3) p.reverse from R3.out.fr (f4.then f5) (fun q hq => hS q (.inr (.inr (o3 q (by simpa using hq))))))
    clear h4 h5 HK3 R23 R3 hS HO HO2 HO3 HO4 HC
    have Hdp := Lib.hid hdp; clear hdp
    go_wp2
    go_loopw [13] (fun i wr => ∃ j : Nat, j ≤ p.length ∧ i = .int .i64 j ∧ ∃ k, wr = w5.drewN k) (fun i _ => p.length - (intOf i).toNat)
    case atStart => exact ⟨0, Nat.zero_le _, rfl, 0, rfl⟩
    case round =>
      obtain ⟨i, hi, rfl, k, rfl⟩ := hrel
      by_cases hlt : i < p.length
      · obtain ⟨b2, c2', e2, _, q2⟩ := R25.out.at hlt
        obtain ⟨b3, c3', e3, _, q3⟩ := R35.out.at (show p.length - 1 - i < p.reverse.length by simp; omega)
        simp only [Value.slice.injEq, true_and] at e2
        simp only [List.length_reverse, Value.slice.injEq, true_and] at e3
        obtain ⟨rfl, rfl⟩ := e2
        obtain ⟨rfl, rfl⟩ := e3
        have hrv : p.reverse[p.length - 1 - i]'(by simp; omega) = p[i]'hlt := by
          rw [List.getElem_reverse]; congr 1; omega
        rw [hrv] at q3
        clear hrv
        have hxi := Hpl.out (p[i]'hlt) (List.getElem_mem hlt)
        obtain ⟨xi, hxe⟩ : ∃ xi, p[i]'hlt = xi := ⟨_, rfl⟩
        rw [hxe] at q2 q3 hxi
        have HXi := Lib.hid (show p[i]? = some xi by rw [List.getElem?_eq_getElem hlt, hxe])
        have HXe := Lib.hid hxe; clear hxe
        have hi1 : (i : Int) < p.length := by omega
        have hi0 : (0 : Int) ≤ i := by omega
        have hw1 : IntKind.i64.wrap ((p.length : Int) - 1) = (p.length : Int) - 1 := IntWalk.i64_in _ (by omega)
        have hw2 : IntKind.i64.wrap ((p.length : Int) - 1 - i) = ((p.length - 1 - i : Nat) : Int) := by
          rw [show ((p.length : Int) - 1 - i) = ((p.length - 1 - i : Nat) : Int) by omega]; exact IntWalk.i64_in _ (by omega)
        have hq1 : ((p.length - 1 - i : Nat) : Int) < p.length := by omega
        have hq0 : (0 : Int) ≤ ((p.length - 1 - i : Nat) : Int) := by omega
        have hd0 : decide ((xi : Int) < 0) = false := decide_eq_false (by omega)
        have hd1 : decide ((n : Int) ≤ (xi : Int)) = false := decide_eq_false (by omega)
        go_wp2
        go_quiet (fail)
        go_wp2
        clear q3 hw1 hw2 hq1 hq0 hd0 hd1
        go_loopw [14] (fun y wr => ∃ j : Nat, j ≤ i ∧ y = .int .i64 j ∧ ∃ k, wr = w5.drewN k) (fun y _ => i - (intOf y).toNat)
        case atStart => exact ⟨0, Nat.zero_le _, rfl, by first | exact ⟨_, rfl⟩ | exact drew_ex _ _ _⟩
        case round =>
          obtain ⟨j, hj, rfl, k2, rfl⟩ := hrel
          by_cases hji : j < i
          · obtain ⟨b4, c4', e4, _, q4⟩ := R25.out.at (show j < p.length by omega)
            simp only [Value.slice.injEq, Option.some.injEq, Addr.mk.injEq, and_true, true_and] at e4
            obtain ⟨rfl, rfl⟩ := e4
            have hne : p[j]'(by omega) ≠ xi := by
              rw [← HXe.out]
              exact fun e => (List.pairwise_iff_getElem.1 Hnd.out j i (by omega) hlt hji) e
            obtain ⟨xj, hxj⟩ : ∃ xj, p[j]'(by omega) = xj := ⟨_, rfl⟩
            rw [hxj] at q4 hne
            clear hxj
            have hj1 : (j : Int) < p.length := by omega
            have hj0 : (0 : Int) ≤ j := by omega
            have hb : ((xj : Int) == (xi : Int)) = false := beq_eq_false_iff_ne.2 (by omega)
            have Hne := Lib.hid hne; clear hne
            go_wp2
            go_quiet (fail)
            go_wp2
            go_roundw
            case rel => exact ⟨j + 1, by omega, by go_num, by first | exact ⟨_, rfl⟩ | exact drew_ex _ _ _⟩
            case measure => simp [intOf]; omega
          · obtain rfl : j = i := by omega
            cases j with
            | zero =>
              go_wp2
              go_roundw
              case rel => exact ⟨1, by omega, by go_num, k2, rfl⟩
              case measure => simp [intOf]; omega
            | succ i' =>
              have hb0 : (((i' : Int) + 1) == 0) = false := beq_eq_false_iff_ne.2 (by omega)
              obtain ⟨b4, c4', e4, _, q4⟩ := R25.out.at (show i' < p.length by omega)
              simp only [Value.slice.injEq, Option.some.injEq, Addr.mk.injEq, and_true, true_and] at e4
              obtain ⟨rfl, rfl⟩ := e4
              have hedge := Hst.out i' hlt
              obtain ⟨xp, hxp⟩ : ∃ xp, p[i']'(by omega) = xp := ⟨_, rfl⟩
              rw [hxp] at q4 hedge
              rw [HXe.out] at hedge
              have Hfa := Lib.hid (found_all hedge)
              clear hedge hxp
              go_wp2
              go_loopw [15, 16] (fun f y wr => ∃ j : Nat, j ≤ K.length ∧ y = .int .i64 j ∧ f = .bool (foundB K xp xi j) ∧ ∃ k, wr = w5.drewN k) (fun _ y _ => K.length - (intOf y).toNat)
              case atStart => exact ⟨0, Nat.zero_le _, rfl, by rw [found_zero], k2, rfl⟩
              case round =>
                obtain ⟨j, hj, rfl, rfl, k3, rfl⟩ := hrel
                by_cases hjK : j < K.length
                · obtain ⟨a1', c1', e1, hPF⟩ := pairs_of_row HK5.out hKl
                  simp only [Value.slice.injEq, true_and] at e1
                  obtain ⟨rfl, rfl⟩ := e1
                  obtain ⟨b5, off, rfl, _, q50, q51⟩ := hPF.2 j hjK
                  dsimp only at q50 q51
                  rw [List.getD_eq_getElem?_getD, List.getElem?_eq_getElem hjK, Option.getD_some] at q50 q51
                  have hfs := found_succ (x := xp) (y := xi) hjK
                  have Hfs := Lib.hid hfs; clear hfs hPF
                  generalize (K[j]'hjK).1 = y0 at *
                  generalize (K[j]'hjK).2 = y1 at *
                  have hj1 : (j : Int) < K.length := by omega
                  have hj0 : (0 : Int) ≤ j := by omega
                  have hi2 : (i' : Int) < p.length := by omega
                  have hi3 : (0 : Int) ≤ (i' : Int) := by omega
                  have hi4 : (i' : Int) + 1 < p.length := by omega
                  have hi5 : (0 : Int) ≤ (i' : Int) + 1 := by omega
                  have hw1 : IntKind.i64.wrap ((i' : Int) + 1 - 1) = (i' : Int) := by rw [show (i' : Int) + 1 - 1 = i' by omega]; exact IntWalk.i64_in _ (by omega)
                  have hw2 : IntKind.i64.wrap (i' : Int) = (i' : Int) := IntWalk.i64_in _ (by omega)
                  have ht1 : ((i' : Int) + 1).toNat = i' + 1 := by omega
                  generalize hfd : foundB K xp xi j = fd at *
                  clear hfd
                  cases fd with
                  | true =>
                    go_wp2
                    go_quiet (fail)
                    go_wp2
                    go_roundw
                    case rel => exact ⟨j + 1, by omega, by go_num, by rw [Hfs.out]; simp, by first | exact ⟨_, rfl⟩ | exact drew_ex _ _ _⟩
                    case measure => simp [intOf]; omega
                  | false =>
                    cases he1 : pairEq (y0 : Int) (y1 : Int) (xp : Int) (xi : Int) with
                    | true =>
                      have He1 := Lib.hid he1
                      go_wp2
                      go_quiet (fail)
                      go_wp2
                      go_roundw
                      case rel => exact ⟨j + 1, by omega, by go_num, by rw [Hfs.out, He1.out]; simp, by first | exact ⟨_, rfl⟩ | exact drew_ex _ _ _⟩
                      case measure => simp [intOf]; omega
                    | false =>
                      have He1 := Lib.hid he1
                      obtain ⟨e2, he2⟩ : ∃ e2, pairEq (y0 : Int) (y1 : Int) (xi : Int) (xp : Int) = e2 := ⟨_, rfl⟩
                      have He2 := Lib.hid he2
                      go_wp2
                      go_quiet (fail)
                      go_wp2
                      go_roundw
                      case rel => exact ⟨j + 1, by omega, by go_num, by rw [Hfs.out, He1.out, He2.out]; simp, by first | exact ⟨_, rfl⟩ | exact drew_ex _ _ _⟩
                      case measure => simp [intOf]; omega
                · obtain rfl : j = K.length := by omega
                  rw [Hfa.out]
                  go_wp2
                  go_roundw
                  case rel => exact ⟨i' + 1 + 1, by omega, by go_num, k3, rfl⟩
                  case measure => simp [intOf]; omega
      · obtain rfl : i = p.length := by omega
        by_cases hp0 : p.length = 0
        · have hb0 : ((p.length : Int) == 0) = true := beq_iff_eq.2 (by omega)
          go_wp2_with fail
          refine (works_w _).mono ?_
          rintro _ w6 ⟨rfl, hB⟩
          go_wp2
          go_ret
          have h5 := HO5.out.drew k
          exact ⟨rfl, h5.below.trans (hB.mono h5.fr.size)⟩
        · have hb0 : ((p.length : Int) == 0) = false := beq_eq_false_iff_ne.2 (by omega)
          obtain ⟨b2, c2', e2, _, q2⟩ := R25.out.at (show 0 < p.length by omega)
          simp only [Value.slice.injEq, true_and] at e2
          obtain ⟨rfl, rfl⟩ := e2
          obtain ⟨b2', c2'', e2, _, q3⟩ := R25.out.at (show p.length - 1 < p.length by omega)
          simp only [Value.slice.injEq, Option.some.injEq, Addr.mk.injEq, and_true, true_and] at e2
          obtain ⟨rfl, rfl⟩ := e2
          obtain ⟨m1, m2⟩ := Hen.out (by omega)
          rw [m1] at q2
          rw [m2] at q3
          clear m1 m2
          have hx1 : (x == x) = true := beq_self_eq_true x
          have hy1 : (y == y) = true := beq_self_eq_true y
          have hi2 : (0 : Int) < p.length := by omega
          have hi3 : (p.length : Int) - 1 = ((p.length - 1 : Nat) : Int) := by omega
          have hi4 : ((p.length - 1 : Nat) : Int) < p.length := by omega
          have Hp0 := Lib.hid hp0; clear hp0
          go_wp2_with fail
          refine (works_w _).mono ?_
          rintro _ w6 ⟨rfl, hB⟩
          go_wp2
          go_ret
          have h5 := HO5.out.drew k
          exact ⟨rfl, h5.below.trans (hB.mono h5.fr.size)⟩

end Go.Proofs.Ytoppjjgecgbbkaa

namespace Go.Proofs.Ytoppjjgecgbbkaa
open Go.RowKit Classical
set_option maxRecDepth 10000
set_option maxHeartbeats 1600000

theorem IsRow.at {k : IntKind} {w : World} {a : Option Addr} {len cap : Nat} {zs : List Int} (h : IsRow k w a len cap zs) {i : Nat} (hi : i < len) : ∃ b off, a = some ⟨b, off, none⟩ ∧ b < w.heap.size ∧ w.cell? ⟨b, off + i, none⟩ = some (.int k (zs.getD i 0)) := by
  rcases h with ⟨_, h, _⟩ | ⟨x, rfl, h1, h2, h3, h4, _⟩
  · omega
  · have hc := h4 i (by omega)
    have hsp := cell_no_spot (h4 0 (by omega))
    obtain ⟨b, off, sp⟩ := x
    have : sp = none := by simpa [Addr.add] using hsp
    subst this
    rw [Addr.add_lit] at hc
    exact ⟨b, off, rfl, cell_lt hc, hc⟩
theorem IsRow.below {k : IntKind} {w w' : World} {a : Option Addr} {len cap : Nat} {zs : List Int} (h : IsRow k w a len cap zs) (hb : Below w.heap.size w w') : IsRow k w' a len cap zs := by
  rcases h with h | ⟨x, rfl, h1, h2, h3, h4, h5⟩
  · exact .inl h
  · refine .inr ⟨x, rfl, h1, h2, h3, fun i hi => ?_, h5⟩
    have hc := h4 i hi
    exact (hb.cell (p := x.add i) (cell_lt hc)).trans hc
theorem IsRow.len {k : IntKind} {w : World} {a : Option Addr} {len cap : Nat} {zs : List Int} (h : IsRow k w a len cap zs) : len ≤ 9223372036854775807 := by
  rcases h with ⟨_, h, _⟩ | ⟨x, rfl, h1, h2, _⟩
  · omega
  · unfold maxLen at h2; omega

/-- The keys after the first v have been set. -/
def keyTo (zs : List Int) (v : Nat) : Nat → Int := fun u => if u < v then zs.getD u 0 else 0
theorem keyTo_zero (zs : List Int) : keyTo zs 0 = fun _ => 0 := by funext u; simp [keyTo]
theorem keyTo_succ {n : Nat} {zs : List Int} {v : Nat} (hv : v < n) : setKey n (keyTo zs v) (v : Int) (zs.getD v 0) = keyTo zs (v + 1) := by
  funext u
  unfold setKey keyTo
  have hin : inV n (v : Int) = true := by simp [inV]; omega
  by_cases e : u = v
  · subst e; rw [if_pos ⟨hin, by simp⟩, if_pos (by omega)]
  · rw [if_neg (by simp; omega)]
    by_cases h : u < v
    · rw [if_pos h, if_pos (by omega)]
    · rw [if_neg h, if_neg (by omega)]
theorem keyI_nat {n : Nat} {key : Nat → Int} {v : Nat} (hv : v < n) : keyI n key (v : Int) = key v := by
  have hin : inV n (v : Int) = true := by simp [inV]; omega
  unfold keyI; rw [hin, if_pos rfl, Int.toNat_natCast]

noncomputable def onB (p : List Nat) (m i : Nat) : Bool := decide (m ∈ p.take i)
theorem onB_zero (p : List Nat) (m : Nat) : onB p m 0 = false := by unfold onB; simp
theorem onB_succ {p : List Nat} {m i : Nat} (hi : i < p.length) : onB p m (i + 1) = (onB p m i || ((p[i]'hi : Int) == (m : Int))) := by
  unfold onB
  rw [Bool.eq_iff_iff, List.take_add_one, List.getElem?_eq_getElem hi]
  simp only [decide_eq_true_eq, Bool.or_eq_true, beq_iff_eq, Option.toList_some, List.mem_append, List.mem_singleton, Int.natCast_inj]
  constructor
  · rintro (h | h)
    · exact .inl h
    · exact .inr h.symm
  · rintro (h | h)
    · exact .inl h
    · exact .inr h.symm
theorem onB_all {p : List Nat} {m : Nat} (h : m ∈ p) : onB p m p.length = true := by unfold onB; rw [List.take_of_length_le (Nat.le_refl _)]; exact decide_eq_true h

theorem walk_lctMins (W : World) (n : Int) (_wn : (Lit.int .i64 n).wf = true) (a : Option Addr) (len cap : Nat) (z : Nat → Int × Int) (hz : PairsF W a len z) (ka : Option Addr) (klen kcap : Nat) (zs : List Int) (hk : IsRow .i64 W ka klen kcap zs) :
    Calls Try.prog 8 #[.int .i64 n, .slice a len cap, .slice ka klen kcap] W fun e w' => e = .returned (.bool true) ∧ Below W.heap.size W w' := by
  have hS := small_w W n a len cap hz.1
  have HZ := Lib.hid hz; clear hz
  have hkl := hk.len
  have HKr := Lib.hid hk; clear hk
  cases hsm : smallB n len with
  | false =>
    rw [hsm] at hS
    have HS := Lib.hid hS; clear hS hsm
    go_enter Try.func8, Try.ntmps8
    go_wp2_with fail
    refine HS.out.mono ?_
    rintro _ w ⟨rfl, rfl⟩
    go_wp2_with fail
    refine (works_w w).mono ?_
    rintro _ w2 ⟨rfl, hB⟩
    go_wp2
    go_ret
    exact ⟨rfl, hB⟩
  | true =>
    rw [hsm] at hS
    have HS := Lib.hid hS; clear hS
    have hn : 0 ≤ n ∧ n ≤ 120 ∧ len ≤ 120 := by simp [smallB] at hsm; omega
    clear hsm
    obtain ⟨n, rfl⟩ : ∃ m : Nat, n = m := ⟨n.toNat, by omega⟩
    obtain ⟨_, hn1, hn2⟩ := hn
    have hn3 : n ≤ 120 := by omega
    go_enter Try.func8, Try.ntmps8
    go_wp2_with fail
    refine HS.out.mono ?_
    rintro _ w ⟨rfl, rfl⟩
    go_wp2_with fail
    refine (grown_w w n hn3 a len cap hn2 z HZ.out).mono ?_
    rintro _ w1 ⟨pf, g, v, rfl, hO, hown, hq⟩
    obtain ⟨a1, c1, rfl⟩ := ownsRow_slice hown
    clear hown hq
    have Hfs := Lib.hid (LG.frs hO.lm)
    have Hlt := Lib.hid (fun v u => LG.edge_lt hO.lm (v := v) (u := u))
    have HO := Lib.hid hO; clear hO
    generalize EK (growK n z len) = E at *
    go_wp2
    go_loopw [9] (fun x wr => ∃ v : Nat, v ≤ klen ∧ v ≤ n ∧ x = .int .i64 v ∧ Hid (Own1 w wr pf g n E (keyTo zs v))) (fun x _ => n - (intOf x).toNat)
    case atStart => exact ⟨0, Nat.zero_le _, Nat.zero_le _, rfl, Lib.hid (by rw [keyTo_zero]; exact HO.out)⟩
    case round =>
      clear HO
      obtain ⟨v, hv1, hv2, rfl, HO⟩ := hrel
      by_cases hlt : v < klen ∧ v < n
      · obtain ⟨hvk, hvn⟩ := hlt
        obtain ⟨b, off, rfl, hb, q0⟩ := HKr.out.at hvk
        have q0 := (HO.out.below.cell (p := ⟨b, off + v, none⟩) hb).trans q0
        have hbg : b ≠ g ∧ b ≠ pf := by have h1 := HO.out.g; have h2 := HO.out.pf; omega
        have SW := set_w (LG.fr HO.out.lm ((Fr.refl [] wr).drew) (by simp) (by simp)) (v : Int) (zs.getD v 0)
        rw [keyTo_succ hvn, show setCode n (v : Int) = 0 by unfold setCode; rw [show inV n (v : Int) = true by simp [inV]; omega]; rfl] at SW
        have KW : ∀ w' : World, LG w' pf g n E (keyTo zs (v + 1)) ((n : Int) - nc n E) → Calls Try.prog 27 #[.pointer (some ⟨pf, 0, none⟩), .int .i64 v] w' fun e w'' => e = .returned (.int .i64 (zs.getD v 0)) ∧ w'' = w' := by
          intro w' h
          have := key_w h (v : Int)
          rw [keyI_nat hvn, show keyTo zs (v + 1) v = zs.getD v 0 by unfold keyTo; rw [if_pos (by omega)]] at this
          exact this
        have HSW := Lib.hid SW; clear SW
        have HKW := Lib.hid KW; clear KW
        have hi1 : (v : Int) < klen := by omega
        have hi2 : (v : Int) < n := by omega
        have hi0 : (0 : Int) ≤ v := by omega
        generalize zs.getD v 0 = zv at *
        go_wp2
        go_region_held3 (fun w' => w'.cell? ⟨b, off + v, none⟩ = some (.int .i64 zv))
          (first
            | go_keep
            | (exact hF3.cell (by assumption) (by simp; omega)))
          (first
            | (go_at_call 26; refine HSW.out.mono ?_; rintro e w3 ⟨rfl, hL3, hF3⟩)
            | (go_at_call 27; refine (HKW.out _ hL3).mono ?_; rintro e w4 ⟨rfl, rfl⟩))
        have HO4 := Lib.hid (HO.out.next hL3 ((((Fr.refl [pf, g] wr).drew)).trans hF3 (fun q hq => .inl (by simp at hq; simp [hq]))))
        go_wp2
        go_roundw
        case rel => exact ⟨v + 1, by omega, by omega, by go_num, HO4⟩
        case measure => simp [intOf]; omega
      · have hcase : (¬ v < klen) ∨ (v < klen ∧ ¬ v < n) := by omega
        have Hc := Lib.hid hlt; clear hlt
        generalize keyTo zs v = key at *
        have hmin := fun (w' : World) (h : LG w' pf g n E key ((n : Int) - nc n E)) (x y : Int) => min_w h x y
        have HMin := Lib.hid hmin; clear hmin
        have hkey : ∀ (w' : World) (_ : LG w' pf g n E key ((n : Int) - nc n E)) (x : Nat) (_ : x < n), Calls Try.prog 27 #[.pointer (some ⟨pf, 0, none⟩), .int .i64 x] w' fun e w'' => e = .returned (.int .i64 (key x)) ∧ w'' = w' := by
          intro w' h x hx
          have := key_w h (x : Int)
          rw [keyI_nat hx] at this
          exact this
        have HKey := Lib.hid hkey; clear hkey
        rcases hcase with h1 | ⟨h1, h2⟩ <;>
        ( go_wp2
          clear h1
          go_loopw [10] (fun x wr => ∃ u : Nat, u ≤ 130 ∧ x = .int .i64 u ∧ Hid (Own1 w wr pf g n E key)) (fun x _ => 200 - (intOf x).toNat)
          case atStart => exact ⟨0, by omega, rfl, HO⟩
          case round =>
            clear HO
            obtain ⟨u, hu, rfl, HO⟩ := hrel
            by_cases hun : u < n
            · have hb1 : (n : Int) - 1 - u = ((n - 1 - u : Nat) : Int) := by omega
              obtain ⟨p, hp⟩ : ∃ p, pathL n E (u : Int) ((n - 1 - u : Nat) : Int) = p := ⟨_, rfl⟩
              have PF := pathf_w HO.out.lm (u : Int) ((n - 1 - u : Nat) : Int)
              rw [hp] at PF
              have HPF := Lib.hid PF; clear PF
              have Hp := Lib.hid hp; clear hp
              have hll : p.length ≤ 120 := by rw [← Hp.out]; exact Nat.le_trans (nodup_le (pathL_nd _ _) (pathL_lt Hlt.out)) hn3
              go_wp2_with fail
              refine HPF.out.mono ?_
              rintro _ w2 ⟨v2, rfl, r2, o2, h2', f2⟩
              have HO2 := Lib.hid (HO.out.ask h2' f2)
              have hlts := LG.lts HO.out.lm
              have R2 := Lib.hid (show RowN w2 v2 p from r2)
              obtain ⟨a2, c2, rfl⟩ := ownsRow_slice r2
              clear r2 h2'
              go_wp2_with fail
              refine (HMin.out _ HO2.out.lm (u : Int) ((n - 1 - u : Nat) : Int)).mono ?_
              rintro _ w3 ⟨hres, h3', f3⟩
              have HO3 := Lib.hid (HO2.out.ask h3' f3)
              have R3 := Lib.hid (R2.out.fr f3 (fun q hq => by have := o2 q hq; simp; omega))
              clear h3' R2
              rcases hres with ⟨hnc, rfl⟩ | ⟨v', u', p', m, e1, e2, hv', hu', hp', hpn, hfm, rfl⟩
              · have hp0 : p = [] := by rw [← Hp.out]; exact pathL_nil hnc
                subst hp0
                go_wp2
                go_loopw [15, 16] (fun on x wr => on = .bool true ∧ x = .int .i64 0 ∧ wr = w3) (fun _ _ _ => 0)
                case atStart => exact ⟨rfl, rfl, rfl⟩
                case round =>
                  obtain ⟨rfl, rfl, rfl⟩ := hrel
                  go_wp2
                  go_roundw
                  case rel => exact ⟨u + 3, by omega, by go_num, HO3⟩
                  case measure => simp [intOf]; omega
              · have ev : v' = u := by omega
                have eu : u' = n - 1 - u := by omega
                subst ev; subst eu
                have hpp : p' = p := by
                  rw [← Hp.out]
                  refine Hfs.out.unique hp' ?_
                  have := pathL_is (n := n) (E := E) (a := (v' : Int)) (b := ((n - 1 - v' : Nat) : Int)) ⟨by simp [inV]; omega, by simp [inV]; omega, by simpa using ⟨p', hp'⟩⟩
                  simpa using this
                subst hpp
                have hmn := hpn m hfm.1
                have hlp : 0 < p'.length := List.length_pos_iff.2 hp'.ne
                have Hfm := Lib.hid (And.intro hfm hpn)
                clear e1 e2 hp' hfm hpn
                have hd0 : decide ((0 : Int) < (p'.length : Int)) = true := decide_eq_true (by omega)
                go_wp2
                go_loopw [15, 16] (fun on x wr => ∃ i : Nat, i ≤ p'.length ∧ on = .bool (onB p' m i) ∧ x = .int .i64 i ∧ wr = w3) (fun _ x _ => p'.length - (intOf x).toNat)
                case atStart => exact ⟨0, Nat.zero_le _, by rw [onB_zero], rfl, rfl⟩
                case round =>
                  obtain ⟨i, hi, rfl, rfl, rfl⟩ := hrel
                  by_cases hil : i < p'.length
                  · obtain ⟨b3, c3', e3, _, q3⟩ := R3.out.at hil
                    simp only [Value.slice.injEq, true_and] at e3
                    obtain ⟨rfl, rfl⟩ := e3
                    have Hon := Lib.hid (onB_succ (m := m) hil)
                    have hxm := List.getElem_mem hil
                    obtain ⟨xi, hxi⟩ : ∃ xi, p'[i]'hil = xi := ⟨_, rfl⟩
                    rw [hxi] at q3 Hon hxm
                    have hxn := Hfm.out.2 xi hxm
                    have hcas := Hfm.out.1.2 xi hxm
                    clear hxi hxm
                    have hil2 : (i : Int) < p'.length := by omega
                    have facts : ∃ e1 e2 : Bool, ((xi : Int) == (m : Int)) = e1 ∧ decide (key xi < key m) = false ∧ (key xi == key m) = e2 ∧ (e2 = true → decide (xi < m) = false) := by
                      by_cases e : xi = m
                      · subst e; exact ⟨true, true, by simp, by simp, by simp, fun _ => by simp⟩
                      · rcases hcas e with h | ⟨h, h'⟩
                        · exact ⟨false, false, beq_eq_false_iff_ne.2 (by omega), decide_eq_false (by omega), beq_eq_false_iff_ne.2 (by omega), fun h => by cases h⟩
                        · exact ⟨false, true, beq_eq_false_iff_ne.2 (by omega), decide_eq_false (by omega), beq_iff_eq.2 h.symm, fun _ => decide_eq_false (by omega)⟩
                    obtain ⟨f1, f2, g1, g2, g3, g4⟩ := facts
                    clear hcas
                    rw [g1] at Hon
                    obtain ⟨on, hon⟩ : ∃ on, onB p' m i = on := ⟨_, rfl⟩
                    rw [hon] at Hon
                    rw [hon]
                    clear hon
                    have K1 := Lib.hid (HKey.out _ HO3.out.lm xi hxn)
                    have K2 := Lib.hid (HKey.out _ HO3.out.lm m hmn)
                    generalize key xi = kx at *
                    generalize key m = km at *
                    cases on <;> cases f2 <;>
                    · (try have g5 := g4 rfl); (try have g6 : ¬ xi < m := of_decide_eq_false g5)
                      clear g4
                      go_wp2_with fail
                      refine K1.out.mono ?_
                      rintro e w4 ⟨rfl, rfl⟩
                      go_wp2_with fail
                      refine K2.out.mono ?_
                      rintro e w4 ⟨rfl, rfl⟩
                      go_wp2_with fail
                      refine K1.out.mono ?_
                      rintro e w4 ⟨rfl, rfl⟩
                      go_wp2_with fail
                      refine K2.out.mono ?_
                      rintro e w4 ⟨rfl, rfl⟩
                      go_wp2
                      go_roundw
                      case rel => exact ⟨i + 1, by omega, by rw [Hon.out]; simp, by go_num, trivial⟩
                      case measure => simp [intOf]; omega
                  · obtain rfl : i = p'.length := by omega
                    rw [onB_all Hfm.out.1.1]
                    go_wp2
                    go_roundw
                    case rel => exact ⟨v' + 3, by omega, by go_num, HO3⟩
                    case measure => simp [intOf]; omega
            · go_wp2_with fail
              refine (works_w _).mono ?_
              rintro _ w7 ⟨rfl, hB⟩
              go_wp2
              go_ret
              exact ⟨rfl, HO.out.below.trans (hB.mono HO.out.fr.size)⟩ )

end Go.Proofs.Ytoppjjgecgbbkaa
