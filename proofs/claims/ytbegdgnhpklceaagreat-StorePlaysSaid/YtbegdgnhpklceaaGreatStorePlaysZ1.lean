/- The statement 'StorePlays': for every input the call returns true, and each argument reads afterwards as it read before. -/
import Derived.Test.YtbegdgnhpklceaaGreatB22
import Derived.Test.YtbegdgnhpklceaaGreatB5
set_option linter.unusedSimpArgs false
set_option linter.unusedVariables false
/- StoreNews: the walk. -/
namespace Go.Proofs.YtbegdgnhpklceaaGreat
open Go.RowKit
set_option maxRecDepth 10000
set_option maxHeartbeats 3200000

theorem both_nil {qt qr : Option Addr} (h : qt = none ↔ qr = none) : (qt = none ∧ qr = none) ∨ ∃ p q, qt = some p ∧ qr = some q := by
  cases qt with
  | none => exact .inl ⟨rfl, h.1 rfl⟩
  | some p =>
    cases qr with
    | none => exact absurd (h.2 rfl) (by simp)
    | some q => exact .inr ⟨p, q, rfl, rfl⟩
theorem walk_storeNews (W : World) (a1 : Int) (_w1 : (Lit.int .i64 a1).wf = true) (a2 : Int) (_w2 : (Lit.int .i64 a2).wf = true) (a3 : Int) (w3 : (Lit.int .u64 a3).wf = true) (a4 : Int) (_w4 : (Lit.int .i64 a4).wf = true) (a5 : Int) (w5 : (Lit.int .u64 a5).wf = true) :
    Calls Tryz.prog 3 #[.int .i64 a1, .int .i64 a2, .int .u64 a3, .int .i64 a4, .int .u64 a5] W fun e w' => e = .returned (.bool true) ∧ Below W.heap.size W w' := by
  obtain ⟨L, rfl, _⟩ := u64_of_wf w3
  obtain ⟨id, rfl, hid⟩ := u64_of_wf w5
  have HWk := Lib.hid (fun w => works_w w)
  have hid' : id < 18446744073709551616 := hid
  obtain ⟨v, hv⟩ : ∃ v, v = (id + 1) % 18446744073709551616 := ⟨_, rfl⟩
  have hvl : v < 18446744073709551616 := by rw [hv]; exact Nat.mod_lt _ (by omega)
  have hwv : IntKind.u64.wrap ((id : Int) + 1) = (v : Int) := by rw [hv]; simp [IntKind.wrap, IntKind.bits, IntKind.signed]
  clear hv w3 w5 hid _w1 _w2 _w4
  have HN := Lib.hid (new_s W W (Fr.refl [] W) a1 a2)
  go_enter Tryz.func3, Tryz.ntmps3
  go_wp2_with fail
  refine HN.out.mono ?_
  rintro _ w1 ⟨qt, c, rfl, hF1, hN⟩
  have HN2 := Lib.hid (hN w1 (Fr.refl _ _)); clear hN HN
  go_wp2_with fail
  refine HN2.out.mono ?_
  rintro _ w2 ⟨qr, rfl, hnil, hP, hF2⟩
  have HP := Lib.hid hP
  clear hP HN2 hF1 hF2
  have hcc : (c != c) = false := by simp
  rcases both_nil hnil with ⟨rfl, rfl⟩ | ⟨p, q, rfl, rfl⟩
  all_goals
    clear hnil
    go_wp2_with fail
    refine (agree_s HP.out a4 id hid').mono ?_
    rintro _ w3 ⟨rfl, hF3⟩
    have HF := Lib.hid (from_s W w3 (HP.out.fr.trans' hF3) a1 a2 L)
    clear HP hF3 hcc
    go_wp2_with fail
    refine HF.out.mono ?_
    rintro _ w4 ⟨qt, c, rfl, _, hN⟩
    have HN2 := Lib.hid (hN w4 (Fr.refl _ _)); clear hN HF
    go_wp2_with fail
    refine HN2.out.mono ?_
    rintro _ w5 ⟨qr, rfl, hnil, hP, _⟩
    have HP := Lib.hid hP
    clear hP HN2
    have hcc : (c != c) = false := by simp
    rcases both_nil hnil with ⟨rfl, rfl⟩ | ⟨p, q, rfl, rfl⟩
    all_goals
      clear hnil
      go_wp2_with fail
      refine (agree_s HP.out a4 id hid').mono ?_
      rintro _ w6 ⟨rfl, hF6⟩
      have HI := Lib.hid (ins_s (HP.out.go0 hF6) (by omega) id v hid' hvl 0 0 7)
      clear HP hF6 hcc
      go_wp2_with fail
      refine HI.out.mono ?_
      rintro _ w7 ⟨y, code, rfl, _, hN⟩
      have hN2 := hN (w7.alloc (.cells #[.int .i64 y.slot, .int .u64 y.seq, .int .u64 y.u, .int .u64 y.v, .int .i64 y.wt, .int .i64 y.t, .int .i64 y.x] 36)) ((Fr.refl [] w7).alloc _) [w7.heap.size] (fun z hz => .inr (by simp at hz; simp; omega))
      have HN2 := Lib.hid hN2; clear hN hN2 HI
      have hb7 : Blk (w7.alloc (.cells #[.int .i64 y.slot, .int .u64 y.seq, .int .u64 y.u, .int .u64 y.v, .int .i64 y.wt, .int .i64 y.t, .int .i64 y.x] 36)) w7.heap.size 36 (lvC y) := Blk.new w7 (lvC y) 36
      have HB7 := Lib.hid hb7; clear hb7
      go_wp2_with fail
      refine HN2.out.mono ?_
      rintro _ w8 ⟨rfl, hP8, hG8⟩
      have hx8 := (hG8.blk HB7.out (by simp)).fr1 ((Fr.refl [] w8).alloc (.cells #[.int .i64 y.slot, .int .u64 y.seq, .int .u64 y.u, .int .u64 y.v, .int .i64 y.wt, .int .i64 y.t, .int .i64 y.x] 36))
      have hy8 : Blk (w8.alloc (.cells #[.int .i64 y.slot, .int .u64 y.seq, .int .u64 y.u, .int .u64 y.v, .int .i64 y.wt, .int .i64 y.t, .int .i64 y.x] 36)) w8.heap.size 36 (lvC y) := Blk.new w8 (lvC y) 36
      have hlt := (hG8.blk HB7.out (by simp)).lt
      have HP9 := Lib.hid (hP8.go0 ((Fr.refl [] w8).alloc (.cells #[.int .i64 y.slot, .int .u64 y.seq, .int .u64 y.u, .int .u64 y.v, .int .i64 y.wt, .int .i64 y.t, .int .i64 y.x] 36)))
      obtain ⟨x0, x1, x2, x3, x4, x5, x6⟩ := hx8.lvAt
      obtain ⟨y0, y1, y2, y3, y4, y5, y6⟩ := hy8.lvAt
      simp only [Nat.zero_add] at x0 x1 x2 x3 x4 x5 x6 y0 y1 y2 y3 y4 y5 y6
      have hee : lvEq y y = true := decide_eq_true rfl
      have hne : w7.heap.size ≠ w8.heap.size := by omega
      have hkk : ((code : Int) == (code : Int)) = true := by simp
      clear hP8 hG8 hx8 hy8 hlt HN2 HB7
      go_wp2_with fail
      generalize w8.alloc (.cells #[.int .i64 y.slot, .int .u64 y.seq, .int .u64 y.u, .int .u64 y.v, .int .i64 y.wt, .int .i64 y.t, .int .i64 y.x] 36) = w9 at *
      clear x0 x1 x2 x3 x4 x5 x6 y0 y1 y2 y3 y4 y5 y6 hee hne hkk
      refine (HWk.out _).mono ?_
      rintro _ w10 ⟨rfl, hF10⟩
      have HE := Lib.hid (HP9.out.fr.trans' hF10); clear hF10 HP9
      go_wp2_with fail
      go_ret
      exact ⟨rfl, HE.out.below (by simp)⟩
end Go.Proofs.YtbegdgnhpklceaaGreat

/- StorePlays: the walk. -/
namespace Go.Proofs.YtbegdgnhpklceaaGreat
open Go.RowKit
set_option maxRecDepth 10000
set_option maxHeartbeats 6400000

theorem flat_stepS : Flat Tryz.prog 43 [.i .i64, .i .u64, .i .u64, .i .i64, .i .i64, .i .i64, .i .i64] := by
  refine Flat.struct Tryz.underlying43 (by kernel_rfl) (fun j k hj => ?_)
  have hi : Flat Tryz.prog 3 [.i .i64] := Flat.int Tryz.underlying3 (by kernel_rfl)
  have hl : Flat Tryz.prog 2 [.i .i64] := Flat.int Tryz.underlying2 (by kernel_rfl)
  match j, hj with
  | 0, hj => exact ⟨0, _, _, rfl, hi, by decide, hj⟩
  | 1, hj => exact ⟨1, _, _, rfl, flat_rec, by decide, hj⟩
  | 2, hj => exact ⟨1, _, _, rfl, flat_rec, by decide, hj⟩
  | 3, hj => exact ⟨1, _, _, rfl, flat_rec, by decide, hj⟩
  | 4, hj => exact ⟨1, _, _, rfl, flat_rec, by decide, hj⟩
  | 5, hj => exact ⟨2, _, _, rfl, hl, by decide, hj⟩
  | 6, hj => exact ⟨3, _, _, rfl, hi, by decide, hj⟩
  | j + 7, hj => simp at hj
/-- A step. -/
abbrev SQ : Type := Int × Nat × Nat × Int × Int × Int × Int
/-- A slice of len steps reads z. -/
def StepsQ (w : World) (a : Option Addr) (len : Nat) (z : Nat → SQ) : Prop :=
  len ≤ 9223372036854775807 ∧ ∀ i, i < len → ∃ b off, a = some ⟨b, off, none⟩ ∧ b < w.heap.size ∧ w.cell? ⟨b, off + i * 7, none⟩ = some (.int .i64 (z i).1) ∧ w.cell? ⟨b, off + i * 7 + 1, none⟩ = some (.int .u64 (z i).2.1) ∧ w.cell? ⟨b, off + i * 7 + 2, none⟩ = some (.int .u64 (z i).2.2.1) ∧
    w.cell? ⟨b, off + i * 7 + 3, none⟩ = some (.int .i64 (z i).2.2.2.1) ∧ w.cell? ⟨b, off + i * 7 + 4, none⟩ = some (.int .i64 (z i).2.2.2.2.1) ∧ w.cell? ⟨b, off + i * 7 + 5, none⟩ = some (.int .i64 (z i).2.2.2.2.2.1) ∧ w.cell? ⟨b, off + i * 7 + 6, none⟩ = some (.int .i64 (z i).2.2.2.2.2.2) ∧ (z i).2.1 < U64 ∧ (z i).2.2.1 < U64
theorem open_stepsQ {H : Type} {enc : TypeId × Value → H} {W : World} {a : Option Addr} {len cap : Nat} {d : DataW H} {p : List MemPlace}
    (h : DataW.Trod enc Tryz.prog W 0 (fun _ => true) true 41 (.slice a len cap) d p) : ∃ z, StepsQ W a len z := by
  obtain ⟨z, hz⟩ := open_flat Tryz.underlying41 flat_stepS (by decide) h
  have key : ∀ i, ∃ u : SQ, i < len → z i 0 = .int .i64 u.1 ∧ z i 1 = .int .u64 u.2.1 ∧ z i 2 = .int .u64 u.2.2.1 ∧ z i 3 = .int .i64 u.2.2.2.1 ∧ z i 4 = .int .i64 u.2.2.2.2.1 ∧ z i 5 = .int .i64 u.2.2.2.2.2.1 ∧ z i 6 = .int .i64 u.2.2.2.2.2.2 ∧ u.2.1 < U64 ∧ u.2.2.1 < U64 := by
    intro i
    by_cases hi : i < len
    · obtain ⟨b, off, rfl, _, h1⟩ := hz.2 i hi
      obtain ⟨n0, e0, _⟩ := (h1 0 _ rfl).2
      obtain ⟨n1, e1, w1⟩ := (h1 1 _ rfl).2
      obtain ⟨n2, e2, w2⟩ := (h1 2 _ rfl).2
      obtain ⟨n3, e3, _⟩ := (h1 3 _ rfl).2
      obtain ⟨n4, e4, _⟩ := (h1 4 _ rfl).2
      obtain ⟨n5, e5, _⟩ := (h1 5 _ rfl).2
      obtain ⟨n6, e6, _⟩ := (h1 6 _ rfl).2
      obtain ⟨m1, rfl, k1⟩ := u64_of_wf w1
      obtain ⟨m2, rfl, k2⟩ := u64_of_wf w2
      exact ⟨(n0, m1, m2, n3, n4, n5, n6), fun _ => ⟨e0, e1, e2, e3, e4, e5, e6, k1, k2⟩⟩
    · exact ⟨(0, 0, 0, 0, 0, 0, 0), fun h => absurd h hi⟩
  obtain ⟨F, hF⟩ := Classical.axiomOfChoice key
  refine ⟨F, hz.1, fun i hi => ?_⟩
  obtain ⟨b, off, rfl, hb, h1⟩ := hz.2 i hi
  obtain ⟨e0, e1, e2, e3, e4, e5, e6, e7⟩ := hF i hi
  refine ⟨b, off, rfl, hb, ?_, ?_, ?_, ?_, ?_, ?_, ?_, e7⟩
  · rw [← e0]; exact (h1 0 _ rfl).1
  · rw [← e1]; exact (h1 1 _ rfl).1
  · rw [← e2]; exact (h1 2 _ rfl).1
  · rw [← e3]; exact (h1 3 _ rfl).1
  · rw [← e4]; exact (h1 4 _ rfl).1
  · rw [← e5]; exact (h1 5 _ rfl).1
  · rw [← e6]; exact (h1 6 _ rfl).1

theorem walk_storePlays (W : World) (a1 : Int) (_w1 : (Lit.int .i64 a1).wf = true) (a2 : Int) (_w2 : (Lit.int .i64 a2).wf = true) (a3 : Int) (w3 : (Lit.int .u64 a3).wf = true) (a : Option Addr) (len cap : Nat) (z : Nat → SQ) (hz : StepsQ W a len z) (a5 : Int) (_w5 : (Lit.int .i64 a5).wf = true) (a6 : Int) (w6 : (Lit.int .u64 a6).wf = true) :
    Calls Tryz.prog 4 #[.int .i64 a1, .int .i64 a2, .int .u64 a3, .slice a len cap, .int .i64 a5, .int .u64 a6] W fun e w' => e = .returned (.bool true) ∧ Below W.heap.size W w' := by
  obtain ⟨lst, rfl, _⟩ := u64_of_wf w3
  obtain ⟨id, rfl, hid⟩ := u64_of_wf w6
  have hid' : id < 18446744073709551616 := hid
  have HWk := Lib.hid (fun w => works_w w)
  have HZ := Lib.hid hz
  have HF := Lib.hid (from_s W W (Fr.refl [] W) a1 a2 lst)
  clear hz w3 w6 hid _w1 _w2 _w5
  go_enter Tryz.func4, Tryz.ntmps4
  by_cases hb1 : 200 < a1
  · have d1 : decide (a1 > 200) = true := decide_eq_true hb1
    go_wp2_with fail
    refine (HWk.out _).mono ?_
    rintro _ w1 ⟨rfl, hF1⟩
    have HE := Lib.hid hF1; clear hF1
    go_wp2_with fail
    go_ret
    exact ⟨rfl, HE.out.below (by simp)⟩
  have d1 : decide (a1 > 200) = false := decide_eq_false hb1
  by_cases hb2 : 200 < a2
  · have d2 : decide (a2 > 200) = true := decide_eq_true hb2
    go_wp2_with fail
    refine (HWk.out _).mono ?_
    rintro _ w1 ⟨rfl, hF1⟩
    have HE := Lib.hid hF1; clear hF1
    go_wp2_with fail
    go_ret
    exact ⟨rfl, HE.out.below (by simp)⟩
  have d2 : decide (a2 > 200) = false := decide_eq_false hb2
  by_cases hb3 : 120 < len
  · have d3 : decide ((len : Int) > 120) = true := decide_eq_true (by omega)
    go_wp2_with fail
    refine (HWk.out _).mono ?_
    rintro _ w1 ⟨rfl, hF1⟩
    have HE := Lib.hid hF1; clear hF1
    go_wp2_with fail
    go_ret
    exact ⟨rfl, HE.out.below (by simp)⟩
  have d3 : decide ((len : Int) > 120) = false := decide_eq_false (by omega)
  have hlen : len ≤ 120 := by omega
  clear hb1 hb2 hb3
  go_wp2_with fail
  clear d1 d2 d3
  refine HF.out.mono ?_
  rintro _ w1 ⟨qt, c, rfl, _, hN⟩
  have HN2 := Lib.hid (hN w1 (Fr.refl _ _)); clear hN HF
  go_wp2_with fail
  refine HN2.out.mono ?_
  rintro _ w2 ⟨qr, rfl, hnil, hP, _⟩
  have HP := Lib.hid hP
  clear hP HN2
  have hcc : (c != c) = false := by simp
  rcases both_nil hnil with ⟨rfl, rfl⟩ | ⟨p, q, rfl, rfl⟩
  all_goals
    clear hnil
    go_wp2_with fail
    clear hcc
    go_loopw [13, 15, 17] (fun y1 y2 y3 wr => ∃ (qt qr : Option Addr) (i : Nat), y1 = .pointer qt ∧ y2 = .pointer qr ∧ y3 = .int .i64 i ∧ i ≤ len ∧ Hid (PS W wr qt qr i [])) (fun _ _ y _ => len - (intOf y).toNat)
    case atStart => exact ⟨_, _, 0, rfl, rfl, rfl, Nat.zero_le _, HP⟩
    case round =>
      clear HP
      obtain ⟨qt, qr, i, rfl, rfl, rfl, hi, HP⟩ := hrel
      rename World => wr
      by_cases hil : i < len
      · have hii : (i : Int) < len := by omega
        obtain ⟨b, off, rfl, hb, z0, z1, z2, z3, z4, z5, z6, hu, hv⟩ := HZ.out.2 i hil
        have z0 := HP.out.fr.cell z0 (by simp); have z1 := HP.out.fr.cell z1 (by simp); have z2 := HP.out.fr.cell z2 (by simp); have z3 := HP.out.fr.cell z3 (by simp); have z4 := HP.out.fr.cell z4 (by simp); have z5 := HP.out.fr.cell z5 (by simp); have z6 := HP.out.fr.cell z6 (by simp)
        generalize (z i).1 = d at *
        generalize (z i).2.1 = u at *
        generalize (z i).2.2.1 = v at *
        generalize (z i).2.2.2.1 = wt at *
        generalize (z i).2.2.2.2.1 = t at *
        generalize (z i).2.2.2.2.2.1 = x at *
        generalize (z i).2.2.2.2.2.2 = sl at *
        have hu' : u < 18446744073709551616 := hu
        have hv' : v < 18446744073709551616 := hv
        have hb1 : Blk (wr.alloc (.cells #[.int .i64 d, .int .u64 u, .int .u64 v, .int .i64 wt, .int .i64 t, .int .i64 x, .int .i64 sl] 43)) wr.heap.size 43 [.int .i64 d, .int .u64 u, .int .u64 v, .int .i64 wt, .int .i64 t, .int .i64 x, .int .i64 sl] := Blk.new wr _ _
        have H1 := Lib.hid (And.intro (HP.out.alloc (.cells #[.int .i64 d, .int .u64 u, .int .u64 v, .int .i64 wt, .int .i64 t, .int .i64 x, .int .i64 sl] 43)) hb1)
        have c0 := hb1.cell 0; have c1 := hb1.cell 1; have c2 := hb1.cell 2; have c3 := hb1.cell 3; have c4 := hb1.cell 4; have c5 := hb1.cell 5; have c6 := hb1.cell 6
        simp only [List.getElem?_cons_zero, List.getElem?_cons_succ] at c0 c1 c2 c3 c4 c5 c6
        clear hb1 hu hv HP
        by_cases e0 : d = 0
        · have f0 : (d == 0) = true := by simp [e0]
          have E0 := Lib.hid e0; clear e0
          have HI := Lib.hid (ins_s H1.out.1 (by omega) u v hu' hv' wt t x)
          go_wp2_with fail
          clear z0 z1 z2 z3 z4 z5 z6
          clear c0 c1 c2 c3 c4 c5 c6
          obtain ⟨wx, hwx⟩ : ∃ wx, wx = wr.heap.size := ⟨_, rfl⟩
          rw [← hwx] at H1 HI ⊢
          clear hwx
          generalize wr.alloc (.cells #[.int .i64 d, .int .u64 u, .int .u64 v, .int .i64 wt, .int .i64 t, .int .i64 x, .int .i64 sl] 43) = w3 at *
          refine HI.out.mono ?_
          rintro _ w7 ⟨y, code, rfl, hG7, hN⟩
          have hN2 := hN (w7.alloc (.cells #[.int .i64 y.slot, .int .u64 y.seq, .int .u64 y.u, .int .u64 y.v, .int .i64 y.wt, .int .i64 y.t, .int .i64 y.x] 36)) ((Fr.refl [] w7).alloc _) [w7.heap.size, wx] (fun z hz => by
            simp at hz
            rcases hz with rfl | rfl
            · exact .inr ⟨Nat.le_refl _, by simp⟩
            · exact .inl (by simp))
          have hs8 := (hG7.blk H1.out.2 (by simp)).fr1 ((Fr.refl [] w7).alloc (.cells #[.int .i64 y.slot, .int .u64 y.seq, .int .u64 y.u, .int .u64 y.v, .int .i64 y.wt, .int .i64 y.t, .int .i64 y.x] 36))
          have hlx := (hG7.blk H1.out.2 (by simp)).lt
          have hy8 : Blk (w7.alloc (.cells #[.int .i64 y.slot, .int .u64 y.seq, .int .u64 y.u, .int .u64 y.v, .int .i64 y.wt, .int .i64 y.t, .int .i64 y.x] 36)) w7.heap.size 36 (lvC y) := Blk.new w7 (lvC y) 36
          have c0 := hs8.cell 0; have c1 := hs8.cell 1; have c2 := hs8.cell 2; have c3 := hs8.cell 3; have c4 := hs8.cell 4; have c5 := hs8.cell 5; have c6 := hs8.cell 6
          simp only [List.getElem?_cons_zero, List.getElem?_cons_succ] at c0 c1 c2 c3 c4 c5 c6
          have HN2 := Lib.hid hN2
          have HB8 := Lib.hid (And.intro hs8 (And.intro hy8 hlx))
          clear hN hN2 HI hG7 hs8 hy8 hlx H1
          go_wp2_with fail
          clear c0 c1 c2 c3 c4 c5 c6
          refine HN2.out.mono ?_
          rintro _ w8 ⟨rfl, hP8, hG8⟩
          have hx8 := (hG8.blk HB8.out.2.1 (by simp)).fr1 ((Fr.refl [] w8).alloc (.cells #[.int .i64 y.slot, .int .u64 y.seq, .int .u64 y.u, .int .u64 y.v, .int .i64 y.wt, .int .i64 y.t, .int .i64 y.x] 36))
          have hs9 := (hG8.blk HB8.out.1 (by simp)).fr1 ((Fr.refl [] w8).alloc (.cells #[.int .i64 y.slot, .int .u64 y.seq, .int .u64 y.u, .int .u64 y.v, .int .i64 y.wt, .int .i64 y.t, .int .i64 y.x] 36))
          have hy9 : Blk (w8.alloc (.cells #[.int .i64 y.slot, .int .u64 y.seq, .int .u64 y.u, .int .u64 y.v, .int .i64 y.wt, .int .i64 y.t, .int .i64 y.x] 36)) w8.heap.size 36 (lvC y) := Blk.new w8 (lvC y) 36
          have hlt := (hG8.blk HB8.out.2.1 (by simp)).lt
          have HT := Lib.hid (hP8.alloc (.cells #[.int .i64 y.slot, .int .u64 y.seq, .int .u64 y.u, .int .u64 y.v, .int .i64 y.wt, .int .i64 y.t, .int .i64 y.x] 36))
          obtain ⟨x0, x1, x2, x3, x4, x5, x6⟩ := hx8.lvAt
          obtain ⟨y0, y1, y2, y3, y4, y5, y6⟩ := hy9.lvAt
          simp only [Nat.zero_add] at x0 x1 x2 x3 x4 x5 x6 y0 y1 y2 y3 y4 y5 y6
          have c0 := hs9.cell 0; have c1 := hs9.cell 1; have c2 := hs9.cell 2; have c3 := hs9.cell 3; have c4 := hs9.cell 4; have c5 := hs9.cell 5; have c6 := hs9.cell 6
          simp only [List.getElem?_cons_zero, List.getElem?_cons_succ] at c0 c1 c2 c3 c4 c5 c6
          have hee : lvEq y y = true := decide_eq_true rfl
          have hne : w7.heap.size ≠ w8.heap.size := by omega
          have hkk : ((code : Int) != (code : Int)) = false := by simp
          clear hP8 hG8 hx8 hy9 hs9 hlt HN2 HB8
          go_wp2_with fail
          generalize w8.alloc (.cells #[.int .i64 y.slot, .int .u64 y.seq, .int .u64 y.u, .int .u64 y.v, .int .i64 y.wt, .int .i64 y.t, .int .i64 y.x] 36) = w9 at *
          clear x0 x1 x2 x3 x4 x5 x6 y0 y1 y2 y3 y4 y5 y6 hee hne hkk
          clear c0 c1 c2 c3 c4 c5 c6

          refine (agree_s HT.out sl u hu').mono ?_
          rintro _ wa ⟨rfl, hFa⟩
          have HTa := Lib.hid (HT.out.go0 hFa)
          clear hFa HT
          go_wp2_with fail
          refine (agree_s HTa.out a5 id hid').mono ?_
          rintro _ wb ⟨rfl, hFb⟩
          have HTb := Lib.hid (HTa.out.go (Y := []) hFb (by simp))
          clear hFb HTa
          go_wp2_with fail
          exact ⟨⟨_, _, i + 1, rfl, rfl, by go_num, by omega, HTb⟩, by simp [intOf]; omega⟩
        have f0 : (d == 0) = false := by simp [e0]
        by_cases e1 : d = 1
        · have f1 : (d == 1) = true := by simp [e1]
          clear e1 e0
          have HI := Lib.hid (rem_s H1.out.1 sl)
          go_wp2_with fail
          clear z0 z1 z2 z3 z4 z5 z6
          clear c0 c1 c2 c3 c4 c5 c6
          obtain ⟨wx, hwx⟩ : ∃ wx, wx = wr.heap.size := ⟨_, rfl⟩
          rw [← hwx] at H1 HI ⊢
          clear hwx
          generalize wr.alloc (.cells #[.int .i64 d, .int .u64 u, .int .u64 v, .int .i64 wt, .int .i64 t, .int .i64 x, .int .i64 sl] 43) = w3 at *
          refine HI.out.mono ?_
          rintro _ w7 ⟨y, code, rfl, hG7, hN⟩
          have hN2 := hN (w7.alloc (.cells #[.int .i64 y.slot, .int .u64 y.seq, .int .u64 y.u, .int .u64 y.v, .int .i64 y.wt, .int .i64 y.t, .int .i64 y.x] 36)) ((Fr.refl [] w7).alloc _) [w7.heap.size, wx] (fun z hz => by
            simp at hz
            rcases hz with rfl | rfl
            · exact .inr ⟨Nat.le_refl _, by simp⟩
            · exact .inl (by simp))
          have hs8 := (hG7.blk H1.out.2 (by simp)).fr1 ((Fr.refl [] w7).alloc (.cells #[.int .i64 y.slot, .int .u64 y.seq, .int .u64 y.u, .int .u64 y.v, .int .i64 y.wt, .int .i64 y.t, .int .i64 y.x] 36))
          have hlx := (hG7.blk H1.out.2 (by simp)).lt
          have hy8 : Blk (w7.alloc (.cells #[.int .i64 y.slot, .int .u64 y.seq, .int .u64 y.u, .int .u64 y.v, .int .i64 y.wt, .int .i64 y.t, .int .i64 y.x] 36)) w7.heap.size 36 (lvC y) := Blk.new w7 (lvC y) 36
          have c0 := hs8.cell 0; have c1 := hs8.cell 1; have c2 := hs8.cell 2; have c3 := hs8.cell 3; have c4 := hs8.cell 4; have c5 := hs8.cell 5; have c6 := hs8.cell 6
          simp only [List.getElem?_cons_zero, List.getElem?_cons_succ] at c0 c1 c2 c3 c4 c5 c6
          have HN2 := Lib.hid hN2
          have HB8 := Lib.hid (And.intro hs8 (And.intro hy8 hlx))
          clear hN hN2 HI hG7 hs8 hy8 hlx H1
          go_wp2_with fail
          clear c0 c1 c2 c3 c4 c5 c6
          refine HN2.out.mono ?_
          rintro _ w8 ⟨rfl, hP8, hG8⟩
          have hx8 := (hG8.blk HB8.out.2.1 (by simp)).fr1 ((Fr.refl [] w8).alloc (.cells #[.int .i64 y.slot, .int .u64 y.seq, .int .u64 y.u, .int .u64 y.v, .int .i64 y.wt, .int .i64 y.t, .int .i64 y.x] 36))
          have hs9 := (hG8.blk HB8.out.1 (by simp)).fr1 ((Fr.refl [] w8).alloc (.cells #[.int .i64 y.slot, .int .u64 y.seq, .int .u64 y.u, .int .u64 y.v, .int .i64 y.wt, .int .i64 y.t, .int .i64 y.x] 36))
          have hy9 : Blk (w8.alloc (.cells #[.int .i64 y.slot, .int .u64 y.seq, .int .u64 y.u, .int .u64 y.v, .int .i64 y.wt, .int .i64 y.t, .int .i64 y.x] 36)) w8.heap.size 36 (lvC y) := Blk.new w8 (lvC y) 36
          have hlt := (hG8.blk HB8.out.2.1 (by simp)).lt
          have HT := Lib.hid (hP8.alloc (.cells #[.int .i64 y.slot, .int .u64 y.seq, .int .u64 y.u, .int .u64 y.v, .int .i64 y.wt, .int .i64 y.t, .int .i64 y.x] 36))
          obtain ⟨x0, x1, x2, x3, x4, x5, x6⟩ := hx8.lvAt
          obtain ⟨y0, y1, y2, y3, y4, y5, y6⟩ := hy9.lvAt
          simp only [Nat.zero_add] at x0 x1 x2 x3 x4 x5 x6 y0 y1 y2 y3 y4 y5 y6
          have c0 := hs9.cell 0; have c1 := hs9.cell 1; have c2 := hs9.cell 2; have c3 := hs9.cell 3; have c4 := hs9.cell 4; have c5 := hs9.cell 5; have c6 := hs9.cell 6
          simp only [List.getElem?_cons_zero, List.getElem?_cons_succ] at c0 c1 c2 c3 c4 c5 c6
          have hee : lvEq y y = true := decide_eq_true rfl
          have hne : w7.heap.size ≠ w8.heap.size := by omega
          have hkk : (code != code) = false := by simp
          clear hP8 hG8 hx8 hy9 hs9 hlt HN2 HB8
          go_wp2_with fail
          generalize w8.alloc (.cells #[.int .i64 y.slot, .int .u64 y.seq, .int .u64 y.u, .int .u64 y.v, .int .i64 y.wt, .int .i64 y.t, .int .i64 y.x] 36) = w9 at *
          clear x0 x1 x2 x3 x4 x5 x6 y0 y1 y2 y3 y4 y5 y6 hee hne hkk
          clear c0 c1 c2 c3 c4 c5 c6

          refine (agree_s HT.out sl u hu').mono ?_
          rintro _ wa ⟨rfl, hFa⟩
          have HTa := Lib.hid (HT.out.go0 hFa)
          clear hFa HT
          go_wp2_with fail
          refine (agree_s HTa.out a5 id hid').mono ?_
          rintro _ wb ⟨rfl, hFb⟩
          have HTb := Lib.hid (HTa.out.go (Y := []) hFb (by simp))
          clear hFb HTa
          go_wp2_with fail
          exact ⟨⟨_, _, i + 1, rfl, rfl, by go_num, by omega, HTb⟩, by simp [intOf]; omega⟩
        have f1 : (d == 1) = false := by simp [e1]
        by_cases e2 : d = 2
        · have f2 : (d == 2) = true := by simp [e2]
          clear e0 e1 e2
          obtain ⟨code, hk1, hk2⟩ := check_s H1.out.1 u v hu' hv' wt t
          have HK := Lib.hid (And.intro hk1 hk2)
          clear hk1 hk2
          go_wp2_with fail
          clear z0 z1 z2 z3 z4 z5 z6
          obtain ⟨wx, hwx⟩ : ∃ wx, wx = wr.heap.size := ⟨_, rfl⟩
          rw [← hwx] at H1 c0 c1 c2 c3 c4 c5 c6 ⊢
          clear hwx
          generalize wr.alloc (.cells #[.int .i64 d, .int .u64 u, .int .u64 v, .int .i64 wt, .int .i64 t, .int .i64 x, .int .i64 sl] 43) = w3 at *
          have hkk : ((code : Int) != (code : Int)) = false := by simp
          refine region_cw (fun w' => Fr [] w3 w') (by kernel_rfl) (by kernel_rfl) ((Fr.refl [] w3).drew) ?_
          iterate 2 (refine cw_pure (by kernel_rfl) (fun KK hK => ?_); go_simp; refine hK.out _ ?_; clear hK KK)
          refine cw_val (by kernel_rfl) (recA u v wt t) (fun w' hw' => ?_) ?_
          · have c1 := hw'.cell c1 (by simp); have c2 := hw'.cell c2 (by simp); have c3 := hw'.cell c3 (by simp); have c4 := hw'.cell c4 (by simp)
            go_simp
            first | exact hw' | exact ⟨rfl, hw'⟩ | skip
          refine cw_val (by kernel_rfl) (.int .i64 code) (fun w' hw' => ?_) ?_
          · go_simp
            refine (HK.out.1 w' hw').mono ?_
            rintro _ w6 ⟨rfl, hf6⟩
            exact ⟨rfl, hw'.trans' hf6⟩
          iterate 2 (refine cw_pure (by kernel_rfl) (fun KK hK => ?_); go_simp; refine hK.out _ ?_; clear hK KK)
          refine cw_val (by kernel_rfl) (recA u v wt t) (fun w' hw' => ?_) ?_
          · have c1 := hw'.cell c1 (by simp); have c2 := hw'.cell c2 (by simp); have c3 := hw'.cell c3 (by simp); have c4 := hw'.cell c4 (by simp)
            go_simp
            first | exact hw' | exact ⟨rfl, hw'⟩ | skip
          refine cw_val (by kernel_rfl) (.int .i64 code) (fun w' hw' => ?_) ?_
          · go_simp
            refine (HK.out.2 w' hw').mono ?_
            rintro _ w6 ⟨rfl, hf6⟩
            exact ⟨rfl, hw'.trans' hf6⟩
          iterate 1 (refine cw_pure (by kernel_rfl) (fun KK hK => ?_); go_simp; refine hK.out _ ?_; clear hK KK)
          refine cw_nil ?_
          intro w4 hf4
          have hs4 := H1.out.2.fr1 hf4
          have HT := Lib.hid ((H1.out.1.go0 hf4).mono (Nat.le_succ i))
          clear c0 c1 c2 c3 c4 c5 c6
          have c0 := hs4.cell 0; have c1 := hs4.cell 1; have c2 := hs4.cell 2; have c3 := hs4.cell 3; have c4 := hs4.cell 4; have c5 := hs4.cell 5; have c6 := hs4.cell 6
          simp only [List.getElem?_cons_zero, List.getElem?_cons_succ] at c0 c1 c2 c3 c4 c5 c6
          clear hs4 hf4 H1 HK
          go_wp2_with fail
          clear hkk
          clear c0 c1 c2 c3 c4 c5 c6
          refine (agree_s HT.out sl u hu').mono ?_
          rintro _ wa ⟨rfl, hFa⟩
          have HTa := Lib.hid (HT.out.go0 hFa)
          clear hFa HT
          go_wp2_with fail
          refine (agree_s HTa.out a5 id hid').mono ?_
          rintro _ wb ⟨rfl, hFb⟩
          have HTb := Lib.hid (HTa.out.go (Y := []) hFb (by simp))
          clear hFb HTa
          go_wp2_with fail
          exact ⟨⟨_, _, i + 1, rfl, rfl, by go_num, by omega, HTb⟩, by simp [intOf]; omega⟩
        have f2 : (d == 2) = false := by simp [e2]
        by_cases e3 : d = 3
        · have f3 : (d == 3) = true := by simp [e3]
          clear e0 e1 e2 e3
          have HCp := Lib.hid (copy_s H1.out.1)
          go_wp2_with fail
          clear z0 z1 z2 z3 z4 z5 z6
          obtain ⟨wx, hwx⟩ : ∃ wx, wx = wr.heap.size := ⟨_, rfl⟩
          rw [← hwx] at H1 HCp c0 c1 c2 c3 c4 c5 c6 ⊢
          clear hwx
          generalize wr.alloc (.cells #[.int .i64 d, .int .u64 u, .int .u64 v, .int .i64 wt, .int .i64 t, .int .i64 x, .int .i64 sl] 43) = w3 at *
          refine HCp.out.mono ?_
          rintro _ w4 ⟨qt', rfl, hF4, hN⟩
          have HN2 := Lib.hid (hN w4 (Fr.refl _ _))
          have HF4 := Lib.hid hF4
          clear hN HCp hF4
          go_wp2_with fail
          refine HN2.out.mono ?_
          rintro _ w5 ⟨qr', rfl, hP5, hF5⟩
          have hs5 := H1.out.2.fr1 (HF4.out.trans' hF5)
          have HT := Lib.hid (hP5.mono (Nat.le_succ i))
          clear c0 c1 c2 c3 c4 c5 c6
          have c0 := hs5.cell 0; have c1 := hs5.cell 1; have c2 := hs5.cell 2; have c3 := hs5.cell 3; have c4 := hs5.cell 4; have c5 := hs5.cell 5; have c6 := hs5.cell 6
          simp only [List.getElem?_cons_zero, List.getElem?_cons_succ] at c0 c1 c2 c3 c4 c5 c6
          clear hs5 hF5 HF4 hP5 HN2 H1
          go_wp2_with fail
          clear c0 c1 c2 c3 c4 c5 c6
          refine (agree_s HT.out sl u hu').mono ?_
          rintro _ wa ⟨rfl, hFa⟩
          have HTa := Lib.hid (HT.out.go0 hFa)
          clear hFa HT
          go_wp2_with fail
          refine (agree_s HTa.out a5 id hid').mono ?_
          rintro _ wb ⟨rfl, hFb⟩
          have HTb := Lib.hid (HTa.out.go (Y := []) hFb (by simp))
          clear hFb HTa
          go_wp2_with fail
          exact ⟨⟨_, _, i + 1, rfl, rfl, by go_num, by omega, HTb⟩, by simp [intOf]; omega⟩
        have f3 : (d == 3) = false := by simp [e3]
        clear e0 e1 e2 e3
        have HT := Lib.hid (H1.out.1.mono (Nat.le_succ i))
        go_wp2_with fail
        clear z0 z1 z2 z3 z4 z5 z6 H1
        clear c0 c1 c2 c3 c4 c5 c6
        generalize wr.alloc (.cells #[.int .i64 d, .int .u64 u, .int .u64 v, .int .i64 wt, .int .i64 t, .int .i64 x, .int .i64 sl] 43) = w3 at *

        refine (agree_s HT.out sl u hu').mono ?_
        rintro _ wa ⟨rfl, hFa⟩
        have HTa := Lib.hid (HT.out.go0 hFa)
        clear hFa HT
        go_wp2_with fail
        refine (agree_s HTa.out a5 id hid').mono ?_
        rintro _ wb ⟨rfl, hFb⟩
        have HTb := Lib.hid (HTa.out.go (Y := []) hFb (by simp))
        clear hFb HTa
        go_wp2_with fail
        exact ⟨⟨_, _, i + 1, rfl, rfl, by go_num, by omega, HTb⟩, by simp [intOf]; omega⟩
      · have hii : ¬ ((i : Int) < len) := by omega
        go_wp2_with fail
        refine (HWk.out _).mono ?_
        rintro _ w5 ⟨rfl, hF5⟩
        have HE := Lib.hid (HP.out.fr.trans' hF5); clear hF5 HP
        go_wp2_with fail
        go_ret
        exact ⟨rfl, HE.out.below (by simp)⟩
end Go.Proofs.YtbegdgnhpklceaaGreat

namespace Go.Proofs.YtbegdgnhpklceaaGreat.storePlays
open Go.ChangeShapes Go.WideShapes Go.ChangeAt Go.RowKit
set_option linter.unusedVariables false

theorem own : ownKnob Tryz.prog.godebug = none := by kernel_rfl
theorem laidOut : laidOutB Tryz.prog = true := by kernel_rfl

set_option maxRecDepth 100000 in
theorem lifted (os : Os) (started : os.Started) (H : Type) (enc : TypeId × Value → H) :
    ReturnsInHanded {} Tryz.checked os 4 .any (Rows.storePlaysSpec.pre6 enc Tryz.prog Tryz.f4 Rows.storePlaysRow.domain false) (Rows.storePlaysSpec.post enc Tryz.prog Tryz.f4 false true false false) := by
  refine returnsInHanded_of_change (C := Tryz.checked) own started (by kernel_rfl) Tryz.func4
    (ChangeSpec.witness6 (enc := enc) (C := Tryz.checked) false ⟨#[], #[.int .i64 0, .int .i64 0, .int .u64 0, .slice none 0 0, .int .i64 0, .int .u64 0], []⟩ 8 (by kernel_rfl) (by kernel_rfl) (by kernel_rfl) (by kernel_rfl)) ?_
  intro W base args ds gs before hval0 hW hcnd _
  have hval : ∀ (j : Nat) t v, Tryz.f4.params[j]? = some t → args[j]? = some v → Value.okWide Tryz.prog W .any base t v := hval0
  have hW' := hW
  obtain ⟨p, q, hA0, hV, rfl, hfz, hnd⟩ := hW
  have hA : DataW.TrodAll enc Tryz.prog W 0 (fun _ => true) true Tryz.f4.params.toList args.toList ds p := hA0
  rw [Tryz.params4] at hA hval
  obtain ⟨v0, vs0, d0, ds0, p0, q0, hargs, rfl, rfl, h0, r0⟩ := trodAll_cons hA
  obtain ⟨v1, vs1, d1, ds1, p1, q1, rfl, rfl, rfl, h1, r1⟩ := trodAll_cons r0
  obtain ⟨v2, vs2, d2, ds2, p2, q2, rfl, rfl, rfl, h2, r2⟩ := trodAll_cons r1
  obtain ⟨v3, vs3, d3, ds3, p3, q3, rfl, rfl, rfl, h3, r3⟩ := trodAll_cons r2
  obtain ⟨v4, vs4, d4, ds4, p4, q4, rfl, rfl, rfl, h4, r4⟩ := trodAll_cons r3
  obtain ⟨v5, vs5, d5, ds5, p5, q5, rfl, rfl, rfl, h5, r5⟩ := trodAll_cons r4
  obtain ⟨rfl, rfl, rfl⟩ := trodAll_nil r5
  obtain rfl : args = #[v0, v1, v2, v3, v4, v5] := by cases args; simp_all
  obtain ⟨rfl, rfl⟩ := trodVars_none hV
  obtain ⟨a0, rfl, rfl, rfl, w0⟩ := open_int Tryz.underlying3 (hval 0 3 v0 rfl rfl) h0
  obtain ⟨a1, rfl, rfl, rfl, w1⟩ := open_int Tryz.underlying3 (hval 1 3 v1 rfl rfl) h1
  obtain ⟨a2, rfl, rfl, rfl, w2⟩ := open_int Tryz.underlying22 (hval 2 22 v2 rfl rfl) h2
  obtain ⟨a3, len3, cap3, rfl⟩ := okWide_slice Tryz.underlying41 (hval 3 41 v3 rfl rfl)
  have k3 := h3
  have lt3 : ∀ x ∈ p3, x.block < W.heap.size := by obtain ⟨m, hm⟩ := k3; exact DataW.trod_lt m _ _ _ hm
  obtain ⟨z3, w3⟩ := open_stepsQ h3
  obtain ⟨a4, rfl, rfl, rfl, w4⟩ := open_int Tryz.underlying3 (hval 4 3 v4 rfl rfl) h4
  obtain ⟨a5, rfl, rfl, rfl, w5⟩ := open_int Tryz.underlying22 (hval 5 22 v5 rfl rfl) h5
  clear hA0 hval0
  refine (walk_storePlays W a0 w0 a1 w1 a2 w2 a3 len3 cap3 z3 w3 a4 w4 a5 w5).mono fun e W' ⟨he, bel⟩ => ?_
  subst he
  exact ⟨_, rfl, _, _, _, [], _, [], hW', trodAll_mk1 (shut_bool Tryz.underlying4 _), (trodAll_cons_mk (shut_int Tryz.underlying3 w0) (trodAll_cons_mk (shut_int Tryz.underlying3 w1) (trodAll_cons_mk (shut_int Tryz.underlying22 w2) (trodAll_cons_mk (Below.trod laidOut (by kernel_rfl) (of_decide_eq_true (by kernel_rfl)) k3 bel lt3) (trodAll_cons_mk (shut_int Tryz.underlying3 w4) (trodAll_cons_mk (shut_int Tryz.underlying22 w5) trodAll_mk0)))))), rfl, bel.frame _, fun h => by cases h⟩

theorem over : Rows.storePlaysRow.holds Tryz.pinned (OpenSpec.ofChange Rows.storePlaysSpec) :=
  OpenClaim.holds_of_wide 4 Tryz.f4 rfl rfl rfl rfl rfl rfl rfl ⟨rfl, rfl, rfl, rfl, rfl⟩ rfl rfl rfl rfl rfl (by kernel_rfl) Tryz.func4 (by kernel_rfl)
    (of_decide_eq_true (by kernel_rfl)) (by unfold Func.isWrapper; first | (rw [if_pos (by decide +kernel)]; kernel_rfl) | (rw [if_neg (by decide +kernel)]; exact ⟨rfl, rfl⟩))
    (fun os started H enc _ => lifted os started H enc)

end Go.Proofs.YtbegdgnhpklceaaGreat.storePlays

namespace Go.Proofs.YtbegdgnhpklceaaGreat
theorem storePlays_holds : Rows.StorePlaysSaid := storePlays.over
#print axioms storePlays_holds
end Go.Proofs.YtbegdgnhpklceaaGreat
