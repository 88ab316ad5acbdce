/- LctMeets: the plain law, and the walk. -/
import Derived.Test.YtoppjjgecgbbkaaLctGrown
namespace Go.Proofs.Ytoppjjgecgbbkaa
open Go.RowKit Classical
set_option maxRecDepth 10000
set_option maxHeartbeats 800000

section
variable {n : Nat} {E : Nat → Nat → Prop} {a b c : Int}
theorem conn_swap (h : Frs E) : connB n E a b = connB n E b a := by
  rw [Bool.eq_iff_iff, connB_iff, connB_iff]
  exact ⟨fun ⟨x, y, z⟩ => ⟨y, x, h.csymm z⟩, fun ⟨x, y, z⟩ => ⟨y, x, h.csymm z⟩⟩
theorem conn_tr (h : Frs E) (h1 : connB n E a b = true) (h2 : connB n E b c = true) : connB n E a c = true := by
  rw [connB_iff] at *
  exact ⟨h1.1, h2.2.1, h.ctrans h1.2.2 h2.2.2⟩
theorem meetB_turn (h : Frs E) : meetB n E c a b = meetB n E a b c := by
  unfold meetB
  rw [Bool.eq_iff_iff, Bool.and_eq_true, Bool.and_eq_true]
  constructor
  · rintro ⟨h1, h2⟩
    exact ⟨h2, conn_tr h ((conn_swap h).trans h2) ((conn_swap h).trans h1)⟩
  · rintro ⟨h1, h2⟩
    exact ⟨conn_tr h ((conn_swap h).trans h2) ((conn_swap h).trans h1), h1⟩
theorem meetB_swap (h : Frs E) : meetB n E b a c = meetB n E a b c := by
  unfold meetB
  rw [Bool.eq_iff_iff, Bool.and_eq_true, Bool.and_eq_true]
  constructor
  · rintro ⟨h1, h2⟩
    exact ⟨(conn_swap h).trans h1, conn_tr h h1 h2⟩
  · rintro ⟨h1, h2⟩
    exact ⟨(conn_swap h).trans h1, conn_tr h h1 h2⟩
theorem meets_turn {a b c m : Nat} (hm : MeetsAt E a b c m) : MeetsAt E c a b m := by
  obtain ⟨p, q, r, h1, h2, h3, h4⟩ := hm
  exact ⟨r, p, q, h3, h1, h2, fun x => by rw [← h4 x]; exact ⟨fun ⟨u, v, w⟩ => ⟨v, w, u⟩, fun ⟨u, v, w⟩ => ⟨w, u, v⟩⟩⟩
theorem meets_swap (h : Frs E) {a b c m : Nat} (hm : MeetsAt E a b c m) : MeetsAt E b a c m := by
  obtain ⟨p, q, r, h1, h2, h3, h4⟩ := hm
  have hs : ∀ v u, E v u → E u v := fun _ _ e => h.symm e
  exact ⟨p.reverse, r.reverse, q.reverse, h1.rev hs, h3.rev hs, h2.rev hs, fun x => by simp only [List.mem_reverse]; rw [← h4 x]; exact ⟨fun ⟨u, v, w⟩ => ⟨u, w, v⟩, fun ⟨u, v, w⟩ => ⟨u, w, v⟩⟩⟩
/-- The paths between three connected vertices meet. -/
theorem meets_ex (h : Frs E) {a b c : Nat} (h1 : Conn E a b) (h2 : Conn E b c) : ∃ m, MeetsAt E a b c m := by
  obtain ⟨p, hp⟩ := h1
  obtain ⟨q, hq⟩ := h.ctrans ⟨p, hp⟩ h2
  -- the last vertex of the path to c that lies on the path to b
  have key : ∀ (l A : List Nat), A ++ l = q → (∀ x ∈ l, x ∉ p) ∨ ∃ C m D, q = C ++ m :: D ∧ m ∈ p ∧ ∀ x ∈ D, x ∉ p := by
    intro l
    induction l with
    | nil => intro A _; exact .inl (fun x hx => by cases hx)
    | cons y l ih =>
      intro A hA
      rcases ih (A ++ [y]) (by simp [hA]) with h1 | h1
      · by_cases hy : y ∈ p
        · exact .inr ⟨A, y, l, hA.symm, hy, h1⟩
        · exact .inl (fun x hx => by rcases List.mem_cons.1 hx with rfl | hx; exact hy; exact h1 x hx)
      · exact .inr h1
  rcases key q [] rfl with h0 | ⟨C, m, D, rfl, hm, hD⟩
  · obtain ⟨l, rfl⟩ := hq.first
    obtain ⟨l', rfl⟩ := hp.first
    exact absurd (by simp) (h0 a (by simp))
  · obtain ⟨A, R, rfl⟩ := List.append_of_mem hm
    have e := h.unique hp.split.1 hq.split.1
    have e2 : A = C := by simpa using e
    subst e2
    exact ⟨m, meet_paths h hp hq hD⟩
theorem meetI_turn (h : Frs E) : meetI n E c a b = meetI n E a b c := by
  unfold meetI
  rw [meetB_turn h]
  by_cases hb : meetB n E a b c = true
  · rw [if_pos hb, if_pos hb]
    unfold meetB at hb
    rw [Bool.and_eq_true, connB_iff, connB_iff] at hb
    obtain ⟨m, hm⟩ := meets_ex h hb.1.2.2 hb.2.2.2
    rw [theMeet_eq h hm, theMeet_eq h (meets_turn hm)]
  · rw [if_neg hb, if_neg hb]
theorem meetI_swap (h : Frs E) : meetI n E b a c = meetI n E a b c := by
  unfold meetI
  rw [meetB_swap h]
  by_cases hb : meetB n E a b c = true
  · rw [if_pos hb, if_pos hb]
    unfold meetB at hb
    rw [Bool.and_eq_true, connB_iff, connB_iff] at hb
    obtain ⟨m, hm⟩ := meets_ex h hb.1.2.2 hb.2.2.2
    rw [theMeet_eq h hm, theMeet_eq h (meets_swap h hm)]
  · rw [if_neg hb, if_neg hb]

theorem wk_lt (hlt : ∀ v u, E v u → v < n ∧ u < n) : ∀ {a : Nat} {l : List Nat}, Wk E a l → ∀ x ∈ l, x < n
  | _, y :: l, ⟨h1, h2⟩, x, hx => by
    rcases List.mem_cons.1 hx with rfl | hx
    · exact (hlt _ _ h1).2
    · exact wk_lt hlt h2 x hx
theorem dist_nat (h : Frs E) {a b : Nat} (ha : a < n) (hb : b < n) {p : List Nat} (hp : IsPath E a b p) : distI n E a b = (p.length : Int) - 1 := by
  unfold distI
  rw [if_pos ⟨by simp [inV]; omega, by simp [inV]; omega, p, hp⟩, Int.toNat_natCast, Int.toNat_natCast, thePath_eq h hp]
theorem dist_over (h : Frs E) (hlt : ∀ v u, E v u → v < n ∧ u < n) {a b m : Nat} (ha : a < n) (hb : b < n) {p : List Nat} (hp : IsPath E a b p) (hm : m ∈ p) : distI n E a m + distI n E m b = distI n E a b := by
  obtain ⟨A, B, rfl⟩ := List.append_of_mem hm
  have hmn : m < n := by
    obtain ⟨l, e, hw, _⟩ := hp
    rw [e] at hm
    rcases List.mem_cons.1 hm with rfl | hm
    · exact ha
    · exact wk_lt hlt hw m hm
  rw [dist_nat h ha hb hp, dist_nat h ha hmn hp.split.1, dist_nat h hmn hb hp.split.2]
  simp only [List.length_append, List.length_cons, List.length_nil]
  omega
theorem dist_le (h : Frs E) (hlt : ∀ v u, E v u → v < n ∧ u < n) (a b : Int) : -1 ≤ distI n E a b ∧ distI n E a b ≤ n := by
  by_cases hc : ConnI n E a b
  · obtain ⟨va, vb, p, hp⟩ := hc
    obtain ⟨x, rfl, hx⟩ := inV_nat va
    obtain ⟨y, rfl, hy⟩ := inV_nat vb
    simp only [Int.toNat_natCast] at hp
    rw [dist_nat h hx hy hp]
    have h1 : p.length ≤ n := nodup_le hp.nd (fun z hz => by
      obtain ⟨l, rfl, hw, _⟩ := hp
      rcases List.mem_cons.1 hz with rfl | hz
      · exact hx
      · exact wk_lt hlt hw z hz)
    have h2 : 0 < p.length := List.length_pos_iff.2 hp.ne
    omega
  · unfold distI; rw [if_neg hc]; omega
end

/-- The three equations between distances. -/
theorem meets_dist {n : Nat} {E : Nat → Nat → Prop} (h : Frs E) (hlt : ∀ v u, E v u → v < n ∧ u < n) {a b c : Int} (hm : meetB n E a b c = true) :
    distI n E a (meetI n E a b c) + distI n E (meetI n E a b c) b = distI n E a b ∧ distI n E b (meetI n E a b c) + distI n E (meetI n E a b c) c = distI n E b c ∧ distI n E c (meetI n E a b c) + distI n E (meetI n E a b c) a = distI n E c a := by
  have hm' := hm
  unfold meetB at hm
  rw [Bool.and_eq_true, connB_iff, connB_iff] at hm
  obtain ⟨va, vb, c1⟩ := hm.1
  obtain ⟨_, vc, c2⟩ := hm.2
  obtain ⟨x, rfl, hx⟩ := inV_nat va
  obtain ⟨y, rfl, hy⟩ := inV_nat vb
  obtain ⟨z, rfl, hz⟩ := inV_nat vc
  simp only [Int.toNat_natCast] at c1 c2
  obtain ⟨m, hmt⟩ := meets_ex h c1 c2
  have e : meetI n E x y z = m := by unfold meetI; rw [hm', if_pos rfl, Int.toNat_natCast, Int.toNat_natCast, Int.toNat_natCast, theMeet_eq h hmt]
  rw [e]
  obtain ⟨p, q, r, q1, q2, q3, q4⟩ := hmt
  obtain ⟨m1, m2, m3⟩ := (q4 m).2 rfl
  exact ⟨dist_over h hlt hx hy q1 m1, dist_over h hlt hy hz q2 m2, dist_over h hlt hz hx q3 m3⟩

theorem walk_lctMeets (W : World) (n : Int) (_wn : (Lit.int .i64 n).wf = true) (a : Option Addr) (len cap : Nat) (z : Nat → Int × Int) (hz : PairsF W a len z) (t : Int × Int × Int) (_ht : True) :
    Calls Try.prog 4 #[.int .i64 n, .slice a len cap, .agg #[.int .i64 t.1, .int .i64 t.2.1, .int .i64 t.2.2]] W fun e w' => e = .returned (.bool true) ∧ Below W.heap.size W w' := by
  obtain ⟨t0, t1, t2⟩ := t
  have hlen := hz.1
  have HZ := Lib.hid hz; clear hz
  go_enter Try.func4, Try.ntmps4
  go_wp2_with fail
  have hB0 : Below W.heap.size W (W.alloc (.cells #[.int .i64 t0, .int .i64 t1, .int .i64 t2] 34)) := (Below.refl _ W).alloc (Nat.le_refl _) _
  have hblk := Blk.new W [.int .i64 t0, .int .i64 t1, .int .i64 t2] 34
  have hs0 : (W.alloc (.cells #[.int .i64 t0, .int .i64 t1, .int .i64 t2] 34)).heap.size = W.heap.size + 1 := by simp
  generalize W.alloc (.cells #[.int .i64 t0, .int .i64 t1, .int .i64 t2] 34) = W0 at *
  have c0 : W0.cell? ⟨W.heap.size, 0, none⟩ = some (.int .i64 t0) := hblk.cell 0
  have c1 : W0.cell? ⟨W.heap.size, 1, none⟩ = some (.int .i64 t1) := hblk.cell 1
  have c2 : W0.cell? ⟨W.heap.size, 2, none⟩ = some (.int .i64 t2) := hblk.cell 2
  have HC := Lib.hid (And.intro c0 (And.intro c1 c2)); clear c0 c1 c2 hblk
  have HZ0 := Lib.hid (HZ.out.below hB0)
  refine (small_w W0 n a len cap hlen).mono ?_
  rintro _ w ⟨rfl, rfl⟩
  cases hsm : smallB n len with
  | false =>
    go_wp2_with fail
    refine (works_w w).mono ?_
    rintro _ w2 ⟨rfl, hB⟩
    go_wp2
    go_ret
    exact ⟨rfl, hB0.trans (hB.mono hB0.size)⟩
  | true =>
    have hn : 0 ≤ n ∧ n ≤ 120 ∧ len ≤ 120 := by simp [smallB] at hsm; omega
    clear hsm
    obtain ⟨n, rfl⟩ : ∃ m : Nat, n = m := ⟨n.toNat, by omega⟩
    obtain ⟨_, hn1, hn2⟩ := hn
    have hn3 : n ≤ 120 := by omega
    go_wp2_with fail
    refine (grown_w w n hn3 a len cap hn2 z HZ0.out).mono ?_
    rintro _ w1 ⟨pf, g, v, rfl, hO, hown, hq⟩
    obtain ⟨a9, c9, rfl⟩ := ownsRow_slice hown
    clear hown hq
    have Hfs := Lib.hid (LG.frs hO.lm)
    have Hlt := Lib.hid (fun v u => LG.edge_lt hO.lm (v := v) (u := u))
    have HO := Lib.hid hO; clear hO
    generalize EK (growK n z len) = E at *
    have e0 := (HO.out.below.cell (p := ⟨W.heap.size, 0, none⟩) (by show W.heap.size < _; omega)).trans HC.out.1
    have e1 := (HO.out.below.cell (p := ⟨W.heap.size, 1, none⟩) (by show W.heap.size < _; omega)).trans HC.out.2.1
    have e2 := (HO.out.below.cell (p := ⟨W.heap.size, 2, none⟩) (by show W.heap.size < _; omega)).trans HC.out.2.2
    go_wp2_with fail
    refine (meet_d HO.out.lm t0 t1 t2).mono ?_
    rintro _ w2 ⟨rfl, h2, f2⟩
    have HO2 := Lib.hid (HO.out.ask h2 f2); clear h2 e0 e1 e2
    have e0 := (HO2.out.below.cell (p := ⟨W.heap.size, 0, none⟩) (by show W.heap.size < _; omega)).trans HC.out.1
    have e1 := (HO2.out.below.cell (p := ⟨W.heap.size, 1, none⟩) (by show W.heap.size < _; omega)).trans HC.out.2.1
    have e2 := (HO2.out.below.cell (p := ⟨W.heap.size, 2, none⟩) (by show W.heap.size < _; omega)).trans HC.out.2.2
    have M2 := meet_d HO2.out.lm t2 t0 t1
    rw [meetI_turn Hfs.out, meetB_turn Hfs.out] at M2
    have HM2 := Lib.hid M2; clear M2
    go_wp2_with fail
    refine HM2.out.mono ?_
    rintro _ w3 ⟨rfl, h3, f3⟩
    have HO3 := Lib.hid (HO2.out.ask h3 f3); clear h3 e0 e1 e2 HM2
    have e0 := (HO3.out.below.cell (p := ⟨W.heap.size, 0, none⟩) (by show W.heap.size < _; omega)).trans HC.out.1
    have e1 := (HO3.out.below.cell (p := ⟨W.heap.size, 1, none⟩) (by show W.heap.size < _; omega)).trans HC.out.2.1
    have e2 := (HO3.out.below.cell (p := ⟨W.heap.size, 2, none⟩) (by show W.heap.size < _; omega)).trans HC.out.2.2
    have M3 := meet_d HO3.out.lm t1 t0 t2
    rw [meetI_swap Hfs.out, meetB_swap Hfs.out] at M3
    have HM3 := Lib.hid M3; clear M3
    go_wp2_with fail
    refine HM3.out.mono ?_
    rintro _ w4 ⟨rfl, h4, f4⟩
    have HO4 := Lib.hid (HO3.out.ask h4 f4); clear h4 e0 e1 e2 HM3 HO HO2 HO3
    have e0 := (HO4.out.below.cell (p := ⟨W.heap.size, 0, none⟩) (by show W.heap.size < _; omega)).trans HC.out.1
    have e1 := (HO4.out.below.cell (p := ⟨W.heap.size, 1, none⟩) (by show W.heap.size < _; omega)).trans HC.out.2.1
    have e2 := (HO4.out.below.cell (p := ⟨W.heap.size, 2, none⟩) (by show W.heap.size < _; omega)).trans HC.out.2.2
    have hD := fun hm => meets_dist (n := n) Hfs.out Hlt.out (a := t0) (b := t1) (c := t2) hm
    have HD := Lib.hid hD; clear hD
    have hmb : meetB n E t0 t1 t2 = (connB n E t0 t1 && connB n E t1 t2) := rfl
    have hC1 := Lib.hid (connected_d HO4.out.lm t0 t1)
    generalize hmI : meetI n E t0 t1 t2 = mI at *
    generalize hmB : meetB n E t0 t1 t2 = mB at *
    clear hmI
    cases hc1 : connB n E t0 t1 with
    | false =>
      rw [hc1] at hC1 hmb
      simp only [Bool.false_and] at hmb
      subst hmb
      clear HD hmB hc1
      go_wp2_with fail
      refine hC1.out.mono ?_
      rintro _ w5 ⟨rfl, h5, f5⟩
      have HO5 := Lib.hid (HO4.out.ask h5 f5); clear h5
      go_wp2_with fail
      refine (works_w _).mono ?_
      rintro _ w6 ⟨rfl, hB⟩
      go_wp2
      go_ret
      have hb5 := HO5.out.below
      exact ⟨rfl, hB0.trans ((hb5.trans (hB.mono hb5.size)).mono hB0.size)⟩
    | true =>
      rw [hc1] at hC1 hmb
      simp only [Bool.true_and] at hmb
      have Hmb := Lib.hid hmb; clear hmb hc1 hmB
      go_wp2_with fail
      refine hC1.out.mono ?_
      rintro _ w5 ⟨rfl, h5, f5⟩
      have HO5 := Lib.hid (HO4.out.ask h5 f5); clear h5 e0 e1 e2
      have e0 := (HO5.out.below.cell (p := ⟨W.heap.size, 0, none⟩) (by show W.heap.size < _; omega)).trans HC.out.1
      have e1 := (HO5.out.below.cell (p := ⟨W.heap.size, 1, none⟩) (by show W.heap.size < _; omega)).trans HC.out.2.1
      have e2 := (HO5.out.below.cell (p := ⟨W.heap.size, 2, none⟩) (by show W.heap.size < _; omega)).trans HC.out.2.2
      have hC2 := connected_d HO5.out.lm t1 t2
      rw [← Hmb.out] at hC2
      have HC2 := Lib.hid hC2; clear hC2 Hmb
      cases mB with
      | false =>
        clear HD
        go_wp2_with fail
        refine HC2.out.mono ?_
        rintro _ w6 ⟨rfl, h6, f6⟩
        have HO6 := Lib.hid (HO5.out.ask h6 f6); clear h6
        go_wp2_with fail
        refine (works_w _).mono ?_
        rintro _ w7 ⟨rfl, hB⟩
        go_wp2
        go_ret
        have hb6 := HO6.out.below
        exact ⟨rfl, hB0.trans ((hb6.trans (hB.mono hb6.size)).mono hB0.size)⟩
      | true =>
        have HD' := Lib.hid (HD.out rfl)
        clear HD
        have HD := HD'
        go_wp2_with fail
        refine HC2.out.mono ?_
        rintro _ w6 ⟨rfl, h6, f6⟩
        have HO6 := Lib.hid (HO5.out.ask h6 f6); clear h6 e0 e1 e2 HO4 HO5 HC2 hC1
        go_wp2
        go_loopw [15] (fun x wr => ∃ k : Nat, k ≤ 3 ∧ x = .int .i64 k ∧ Hid (Own1 w wr pf g n E (fun _ => 0))) (fun x _ => 3 - (intOf x).toNat)
        case atStart => exact ⟨0, by omega, rfl, HO6⟩
        case round =>
          clear HO6
          obtain ⟨k, hk, rfl, HO⟩ := hrel
          rcases (show k = 0 ∨ k = 1 ∨ k = 2 ∨ k = 3 by omega) with rfl | rfl | rfl | rfl
          · have D1 := dist_d HO.out.lm t0 (mI : Int)
            have hne : ((distI n E t0 mI + distI n E mI t1) != distI n E t0 t1) = false := by rw [HD.out.1]; simp
            have g1 := dist_le Hfs.out Hlt.out t0 (mI : Int)
            have g2 := dist_le Hfs.out Hlt.out (mI : Int) t1
            have e0 := (HO.out.below.cell (p := ⟨W.heap.size, 0, none⟩) (by show W.heap.size < _; omega)).trans HC.out.1
            have e1 := (HO.out.below.cell (p := ⟨W.heap.size, 1, none⟩) (by show W.heap.size < _; omega)).trans HC.out.2.1
            have HD1 := Lib.hid D1; clear D1
            go_wp2_with fail
            refine HD1.out.mono ?_
            rintro _ w5 ⟨rfl, h5, f5⟩
            have HO5 := Lib.hid (HO.out.ask h5 f5); clear HD1 h5
            go_wp2_with fail
            refine (dist_d HO5.out.lm (mI : Int) t1).mono ?_
            rintro _ w6 ⟨rfl, h6, f6⟩
            have HO6 := Lib.hid (HO5.out.ask h6 f6); clear h6
            go_wp2_with fail
            refine (dist_d HO6.out.lm t0 t1).mono ?_
            rintro _ w7 ⟨rfl, h7, f7⟩
            have HO7 := Lib.hid (HO6.out.ask h7 f7); clear h7
            generalize distI n E t0 mI = x1 at *
            generalize distI n E mI t1 = x2 at *
            generalize distI n E t0 t1 = x3 at *
            go_wp2
            go_roundw
            case rel => exact ⟨1, by omega, by go_num, HO7⟩
            case measure => simp [intOf]
          · have D1 := dist_d HO.out.lm t1 (mI : Int)
            have hne : ((distI n E t1 mI + distI n E mI t2) != distI n E t1 t2) = false := by rw [HD.out.2.1]; simp
            have g1 := dist_le Hfs.out Hlt.out t1 (mI : Int)
            have g2 := dist_le Hfs.out Hlt.out (mI : Int) t2
            have e0 := (HO.out.below.cell (p := ⟨W.heap.size, 1, none⟩) (by show W.heap.size < _; omega)).trans HC.out.2.1
            have e1 := (HO.out.below.cell (p := ⟨W.heap.size, 2, none⟩) (by show W.heap.size < _; omega)).trans HC.out.2.2
            have HD1 := Lib.hid D1; clear D1
            go_wp2_with fail
            refine HD1.out.mono ?_
            rintro _ w5 ⟨rfl, h5, f5⟩
            have HO5 := Lib.hid (HO.out.ask h5 f5); clear HD1 h5
            go_wp2_with fail
            refine (dist_d HO5.out.lm (mI : Int) t2).mono ?_
            rintro _ w6 ⟨rfl, h6, f6⟩
            have HO6 := Lib.hid (HO5.out.ask h6 f6); clear h6
            go_wp2_with fail
            refine (dist_d HO6.out.lm t1 t2).mono ?_
            rintro _ w7 ⟨rfl, h7, f7⟩
            have HO7 := Lib.hid (HO6.out.ask h7 f7); clear h7
            generalize distI n E t1 mI = x1 at *
            generalize distI n E mI t2 = x2 at *
            generalize distI n E t1 t2 = x3 at *
            go_wp2
            go_roundw
            case rel => exact ⟨2, by omega, by go_num, HO7⟩
            case measure => simp [intOf]
          · have D1 := dist_d HO.out.lm t2 (mI : Int)
            have hne : ((distI n E t2 mI + distI n E mI t0) != distI n E t2 t0) = false := by rw [HD.out.2.2]; simp
            have g1 := dist_le Hfs.out Hlt.out t2 (mI : Int)
            have g2 := dist_le Hfs.out Hlt.out (mI : Int) t0
            have e0 := (HO.out.below.cell (p := ⟨W.heap.size, 2, none⟩) (by show W.heap.size < _; omega)).trans HC.out.2.2
            have e1 := (HO.out.below.cell (p := ⟨W.heap.size, 0, none⟩) (by show W.heap.size < _; omega)).trans HC.out.1
            have HD1 := Lib.hid D1; clear D1
            go_wp2_with fail
            refine HD1.out.mono ?_
            rintro _ w5 ⟨rfl, h5, f5⟩
            have HO5 := Lib.hid (HO.out.ask h5 f5); clear HD1 h5
            go_wp2_with fail
            refine (dist_d HO5.out.lm (mI : Int) t0).mono ?_
            rintro _ w6 ⟨rfl, h6, f6⟩
            have HO6 := Lib.hid (HO5.out.ask h6 f6); clear h6
            go_wp2_with fail
            refine (dist_d HO6.out.lm t2 t0).mono ?_
            rintro _ w7 ⟨rfl, h7, f7⟩
            have HO7 := Lib.hid (HO6.out.ask h7 f7); clear h7
            generalize distI n E t2 mI = x1 at *
            generalize distI n E mI t0 = x2 at *
            generalize distI n E t2 t0 = x3 at *
            go_wp2
            go_roundw
            case rel => exact ⟨3, by omega, by go_num, HO7⟩
            case measure => simp [intOf]
          · go_wp2_with fail
            refine (works_w _).mono ?_
            rintro _ w7 ⟨rfl, hB⟩
            go_wp2
            go_ret
            have hb6 := HO.out.below
            exact ⟨rfl, hB0.trans ((hb6.trans (hB.mono hb6.size)).mono hB0.size)⟩

end Go.Proofs.Ytoppjjgecgbbkaa
