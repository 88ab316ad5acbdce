/- The statement 'ForestNews': for every input the call returns true, and each argument reads afterwards as it read before. -/
import Derived.Test.YthkkelkgfkehlaaForestNewsZ2
import Derived.Test.YthkkelkgfkehlaaB1
/- ForestUntil: the walk. -/
namespace Go.Proofs.Ythkkelkgfkehlaa
open Go.RowKit Classical
set_option maxRecDepth 10000
set_option maxHeartbeats 1600000

section
variable {W wr w' : World} {pf S V tb : Nat} {G G' : EMap} {f : Nat → Bool} {L : List Nat}
theorem LK.moved (_hO : FO W wr pf S V G L) (hB : Blk wr tb 4 (bRow S f)) (ht : W.heap.size ≤ tb) (hn : tb ∉ L) (hm : FM W wr w' pf S V G' L) : LK W w' pf S V G' tb f := by
  obtain ⟨L', h1, h2, h3⟩ := hm
  exact ⟨L', h1, h2.blk hB hn, ht, fun e => (h3 tb e).elim hn (fun e => by have := hB.lt; omega)⟩
theorem LK.conn (h : LK W wr pf S V G tb f) (x y : Int) : Calls Try.prog 17 #[fptr pf, .int .i64 x, .int .i64 y] wr fun e w' => e = .returned (.bool (connG V G x y)) ∧ LK W w' pf S V G tb f := by
  obtain ⟨L, h1, h2, h3, h4⟩ := h
  refine (fo_conn h1 x y).mono ?_
  rintro e w' ⟨rfl, hm⟩
  exact ⟨rfl, LK.moved h1 h2 h3 h4 hm⟩
theorem LK.until (h : LK W wr pf S V G tb f) (x y : Int) : Calls Try.prog 16 #[fptr pf, .int .i64 x, .int .i64 y] wr fun e w' => e = .returned (.tuple #[.int .i64 (untilV V G x y), .bool (untilB V G x y)]) ∧ LK W w' pf S V G tb f := by
  obtain ⟨L, h1, h2, h3, h4⟩ := h
  refine (fo_until h1 x y).mono ?_
  rintro e w' ⟨rfl, hm⟩
  exact ⟨rfl, LK.moved h1 h2 h3 h4 hm⟩
theorem LK.size (h : LK W wr pf S V G tb f) (x : Int) : Calls Try.prog 22 #[fptr pf, .int .i64 x] wr fun e w' => e = .returned (.int .i64 (sizeG V G x)) ∧ LK W w' pf S V G tb f := by
  obtain ⟨L, h1, h2, h3, h4⟩ := h
  refine (fo_size h1 x).mono ?_
  rintro e w' ⟨rfl, hm⟩
  exact ⟨rfl, LK.moved h1 h2 h3 h4 hm⟩
theorem LK.exp (h : LK W wr pf S V G tb f) : Calls Try.prog 18 #[fptr pf] wr fun e w' => e = .returned (.tuple #[.int .i64 ((fstG G).getD 0 : Nat), .bool (fstG G).isSome]) ∧ LK W w' pf S V (popG G) tb f := by
  obtain ⟨L, h1, h2, h3, h4⟩ := h
  refine (fo_exp h1).mono ?_
  rintro e w' ⟨rfl, hm⟩
  exact ⟨rfl, LK.moved h1 h2 h3 h4 hm⟩
theorem LK.gw (h : LK W wr pf S V G tb f) : GW S V G := by obtain ⟨L, h1, _⟩ := h; exact h1.f.gw.1
end

theorem walk_forestUntil (W : World) (n : Int) (_ : (Lit.int .i64 n).wf = true) (a : Option Addr) (len cap : Nat) (z : Nat → Int × Int × Int) (hz : EdgesF W a len z) (x : Int) (_ : (Lit.int .i64 x).wf = true) (y : Int) (_ : (Lit.int .i64 y).wf = true) :
    Calls Try.prog 4 #[.int .i64 n, .slice a len cap, .int .i64 x, .int .i64 y] W fun e w' => e = .returned (.bool true) ∧ Below W.heap.size W w' := by
  have HS := Lib.hid (small_w36 W n a len cap hz.1)
  have HWk := Lib.hid (fun w => works_w w)
  cases hsm : smallF n len with
  | false =>
    rw [hsm] at HS
    clear hz hsm
    go_enter Try.func4, Try.ntmps4
    go_wp2_with fail
    refine HS.out.mono ?_
    rintro _ w1 ⟨rfl, rfl⟩
    go_wp2_with fail
    refine (HWk.out _).mono ?_
    rintro _ w2 ⟨rfl, hf⟩
    have HF := Lib.hid hf; clear hf
    go_wp2_with fail
    go_ret
    exact ⟨rfl, HF.out.below (by simp)⟩
  | true =>
    rw [hsm] at HS
    obtain ⟨n, rfl, hn, hl⟩ := small_true hsm
    have HG1 := Lib.hid (grown_w36 W W (Fr.refl _ _) n hn a len cap hl z hz false)
    have HZ := Lib.hid hz
    clear hz hsm
    go_enter Try.func4, Try.ntmps4
    go_wp2_with fail
    refine HS.out.mono ?_
    rintro _ w0 ⟨rfl, rfl⟩
    go_wp2_with fail
    refine HG1.out.mono ?_
    rintro _ w1 ⟨pf, tb, rfl, L, hO, hF, hQ, hB, ht, hnL⟩
    have hlk : LK w0 w1 pf len n (EG len n z fun _ => True) tb (fun t => okE n (z t)) := ⟨L, hO, hB, ht, hnL⟩
    have HGW := Lib.hid hlk.gw
    have A1 := Lib.hid (hlk.until x y)
    clear hO hF hQ hB ht hnL HG1 HS hlk
    go_wp2_with fail
    refine A1.out.mono ?_
    rintro _ w2 ⟨rfl, hlk⟩
    have H2 := Lib.hid hlk
    have HUT := Lib.hid (fun h => until_true (z := z) HGW.out (fun x y h => until_exB HGW.out h) (x := x) (y := y) h)
    clear hlk A1
    cases hok : untilB n (EG len n z fun _ => True) x y with
    | false =>
      have hv : untilV n (EG len n z fun _ => True) x y = 0 := by unfold untilV; rw [hok]; rfl
      rw [hv]
      by_cases hxy : x = y
      · have d1 : (x != y) = false := by simp [hxy]
        clear hok hv
        go_wp2_with fail
        refine (HWk.out _).mono ?_
        rintro _ w5 ⟨rfl, hf⟩
        have HF := Lib.hid (H2.out.fr.trans' hf); clear hf
        go_wp2_with fail
        go_ret
        exact ⟨rfl, HF.out.below (by simp)⟩
      · have d1 : (x != y) = true := by simp [hxy]
        have hc : connG n (EG len n z fun _ => True) x y = false := by
          unfold untilB at hok
          simpa [hxy] using hok
        have A2 := LK.conn H2.out x y
        rw [hc] at A2
        have A2 := Lib.hid A2
        clear hok hv hc hxy
        go_wp2_with fail
        refine A2.out.mono ?_
        rintro _ w3 ⟨rfl, h3⟩
        have H3 := Lib.hid h3; clear h3
        go_wp2_with fail
        refine (HWk.out _).mono ?_
        rintro _ w5 ⟨rfl, hf⟩
        have HF := Lib.hid (H3.out.fr.trans' hf); clear hf
        go_wp2_with fail
        go_ret
        exact ⟨rfl, HF.out.below (by simp)⟩
    | true =>
      obtain ⟨hxi, hyi, hun⟩ := HUT.out hok
      have hxy : x ≠ y := by rintro rfl; unfold untilB at hok; simp at hok
      have d1 : (x != y) = true := by simp [hxy]
      have hc : connG n (EG len n z fun _ => True) x y = true := by
        unfold untilB at hok
        simpa [hxy] using hok
      have A2 := LK.conn H2.out x y
      rw [hc] at A2
      have A2 := Lib.hid A2
      have HU := Lib.hid (And.intro hxi (And.intro hyi hun))
      clear hok hc hxy hxi hyi hun HUT
      generalize untilV n (EG len n z fun _ => True) x y = T at *
      go_wp2_with fail
      refine A2.out.mono ?_
      rintro _ w3 ⟨rfl, h3⟩
      have H3 := Lib.hid h3; clear h3 A2 H2
      go_wp2_with fail
      go_loopw [13, 14, 15] (fun e u x wr => ∃ i : Nat, i ≤ len ∧ x = .int .i64 i ∧ e = .int .i64 (cntT i fun t => okE n (z t) = true ∧ (z t).2.2 < T : Nat) ∧ u = .int .i64 (cntT i fun t => okE n (z t) = true ∧ (z t).2.2 ≤ T : Nat) ∧ Hid (LK w0 wr pf len n (EG len n z fun _ => True) tb (fun t => okE n (z t)))) (fun _ _ x _ => len - (intOf x).toNat)
      case atStart => exact ⟨0, Nat.zero_le _, rfl, rfl, rfl, H3⟩
      case round =>
        clear H3
        obtain ⟨i, hi, rfl, rfl, rfl, H⟩ := hrel
        by_cases hlt : i < len
        · have hlt' : (i : Int) < len := by omega
          have hw1 : IntKind.i64.wrap ((i : Int) + 1) = ((i + 1 : Nat) : Int) := by rw [show (i : Int) + 1 = ((i + 1 : Nat) : Int) by omega]; exact IntWalk.i64_in _ (by omega)
          have t0 := H.out.blk.cell i
          rw [bRow_at _ hlt] at t0
          obtain ⟨b, off, rfl, _, _, _, q2, _⟩ := (HZ.out.fr H.out.fr).2 i hlt
          have c1 := cntT_succ i fun t => okE n (z t) = true ∧ (z t).2.2 < T
          have c2 := cntT_succ i fun t => okE n (z t) = true ∧ (z t).2.2 ≤ T
          have b1 := cntT_le i fun t => okE n (z t) = true ∧ (z t).2.2 < T
          have b2 := cntT_le i fun t => okE n (z t) = true ∧ (z t).2.2 ≤ T
          have C1 := Lib.hid c1
          have C2 := Lib.hid c2
          clear c1 c2
          generalize (cntT i fun t => okE n (z t) = true ∧ (z t).2.2 < T) = e1 at *
          generalize (cntT i fun t => okE n (z t) = true ∧ (z t).2.2 ≤ T) = e2 at *
          have hw2 : IntKind.i64.wrap ((e1 : Int) + 1) = ((e1 + 1 : Nat) : Int) := by rw [show (e1 : Int) + 1 = ((e1 + 1 : Nat) : Int) by omega]; exact IntWalk.i64_in _ (by omega)
          have hw3 : IntKind.i64.wrap ((e2 : Int) + 1) = ((e2 + 1 : Nat) : Int) := by rw [show (e2 : Int) + 1 = ((e2 + 1 : Nat) : Int) by omega]; exact IntWalk.i64_in _ (by omega)
          cases ho : okE n (z i) with
          | false =>
            rw [ho] at t0
            have D1 := C1.out; rw [if_neg (by simp [ho])] at D1
            have D2 := C2.out; rw [if_neg (by simp [ho])] at D2
            have HD := Lib.hid (And.intro D1 D2)
            clear ho D1 D2
            go_wp2_with fail
            go_roundw
            case rel => exact ⟨i + 1, by omega, rfl, by rw [HD.out.1]; rfl, by rw [HD.out.2]; rfl, H⟩
            case measure => simp [intOf]; omega
          | true =>
            rw [ho] at t0
            generalize hxi : (z i).2.2 = xi at *
            by_cases h1 : xi < T
            · have D1 := C1.out; rw [if_pos ⟨ho, h1⟩] at D1
              have D2 := C2.out; rw [if_pos ⟨ho, by omega⟩] at D2
              have HD := Lib.hid (And.intro D1 D2)
              have d2 : decide (xi ≤ T) = true := decide_eq_true (by omega)
              clear ho D1 D2 hxi
              go_wp2_with fail
              go_roundw
              case rel => exact ⟨i + 1, by omega, rfl, by rw [HD.out.1]; rfl, by rw [HD.out.2]; rfl, H⟩
              case measure => simp [intOf]; omega
            · have d1' : decide (xi < T) = false := decide_eq_false h1
              have D1 := C1.out; rw [if_neg (fun h => h1 h.2)] at D1
              by_cases h2 : xi ≤ T
              · have D2 := C2.out; rw [if_pos ⟨ho, by omega⟩] at D2
                have HD := Lib.hid (And.intro D1 D2)
                clear ho D1 D2 hxi
                go_wp2_with fail
                go_roundw
                case rel => exact ⟨i + 1, by omega, rfl, by rw [HD.out.1]; rfl, by rw [HD.out.2]; rfl, H⟩
                case measure => simp [intOf]; omega
              · have d2 : decide (xi ≤ T) = false := decide_eq_false h2
                have D2 := C2.out; rw [if_neg (fun h => h2 h.2)] at D2
                have HD := Lib.hid (And.intro D1 D2)
                clear ho D1 D2 hxi
                go_wp2_with fail
                go_roundw
                case rel => exact ⟨i + 1, by omega, rfl, by rw [HD.out.1]; rfl, by rw [HD.out.2]; rfl, H⟩
                case measure => simp [intOf]; omega
        · obtain rfl : i = len := by omega
          have HEU := Lib.hid (until_some HU.out.2.2)
          have hE1 : ∃ e1, e1 = cntT i fun t => okE n (z t) = true ∧ (z t).2.2 < T := ⟨_, rfl⟩
          obtain ⟨e1, hE1⟩ := hE1
          have hE2 : ∃ e2, e2 = cntT i fun t => okE n (z t) = true ∧ (z t).2.2 ≤ T := ⟨_, rfl⟩
          obtain ⟨e2, hE2⟩ := hE2
          rw [← hE1, ← hE2]
          have hb1 : e1 ≤ i := by rw [hE1]; exact cntT_le _ _
          have hb2 : e2 ≤ i := by rw [hE2]; exact cntT_le _ _
          have h12 : e1 < e2 := by rw [hE1, hE2]; exact HEU.out
          have HE := Lib.hid (And.intro hE1 hE2); clear hE1 hE2
          have HP0 : Hid (∃ P : Nat → Prop, FX w0 wr pf i n (EG i n z P) ∧ (∀ t, t < i → okE n (z t) = true → ¬ P t → (z t).2.2 < T) ∧ (cntT i fun t => okE n (z t) = true ∧ ¬ P t) = 0) := Lib.hid ⟨fun _ => True, by obtain ⟨L, h1, _⟩ := H.out; exact ⟨L, h1⟩, fun t _ _ h => absurd trivial h, by rw [cntT_congr (T' := fun _ => False) (fun t => by simp), cntT_none]⟩
          clear H
          go_wp2_with fail
          go_loopw [16] (fun x wr => ∃ k : Nat, k ≤ e1 ∧ x = .int .i64 k ∧ Hid (∃ P : Nat → Prop, FX w0 wr pf i n (EG i n z P) ∧ (∀ t, t < i → okE n (z t) = true → ¬ P t → (z t).2.2 < T) ∧ (cntT i fun t => okE n (z t) = true ∧ ¬ P t) = k)) (fun x _ => e1 - (intOf x).toNat)
          case atStart => exact ⟨0, Nat.zero_le _, rfl, HP0⟩
          case round =>
            clear HP0
            obtain ⟨k, hk, rfl, HP⟩ := hrel
            by_cases hlt : k < e1
            · have hlt' : (k : Int) < e1 := by omega
              have hw1 : IntKind.i64.wrap ((k : Int) + 1) = ((k + 1 : Nat) : Int) := by rw [show (k : Int) + 1 = ((k + 1 : Nat) : Int) by omega]; exact IntWalk.i64_in _ (by omega)
              obtain ⟨P, h1, h2, h3⟩ := HP.out
              obtain ⟨m, p1, p2, p3, p4, p5, p6, p7, p8, p9⟩ := pop_next (S := i) (V := n) (z := z) (P := P) (D := fun t => (z t).2.2 < T) (fun t u _ _ hu hb => by unfold bef at hb; omega) h2 (by rw [h3, ← HE.out.1]; exact hlt)
              have A3 := h1.exp
              rw [p6] at A3
              have A3 := Lib.hid A3
              have HN := Lib.hid (And.intro p8 (show (cntT i fun t => okE n (z t) = true ∧ ¬ (P t ∧ t ≠ m)) = k + 1 by rw [p9, h3]))
              clear h1 h2 h3 p1 p2 p3 p4 p5 p6 p7 p8 p9 HP
              go_wp2_with fail
              refine A3.out.mono ?_
              rintro _ w5 ⟨rfl, h5⟩
              have H5 := Lib.hid h5; clear h5 A3
              go_wp2_with fail
              go_roundw
              case rel => exact ⟨k + 1, by omega, rfl, Lib.hid ⟨_, H5.out, HN.out.1, HN.out.2⟩⟩
              case measure => simp [intOf]; omega
            · obtain rfl : k = e1 := by omega
              obtain ⟨P, h1, h2, h3⟩ := HP.out
              have hd := pop_done (D := fun t => (z t).2.2 < T) h2 (by rw [h3, ← HE.out.1])
              have hcx : connG n (EG i n z P) x y = true := by
                rw [connG_iff ⟨HU.out.1, HU.out.2.1⟩, hd]
                exact decide_eq_true (until_early HU.out.2.2)
              have A3 := FX.conn h1 x y
              rw [hcx] at A3
              have A3 := Lib.hid A3
              have HP2 := Lib.hid (And.intro (fun t ht ho hp => Int.le_of_lt (h2 t ht ho hp)) h3)
              clear h1 h2 h3 hd hcx HP
              have d3 : ((e2 : Int) == (k : Int)) = false := by simp; omega
              go_wp2_with fail
              refine A3.out.mono ?_
              rintro _ w5 ⟨rfl, h5⟩
              have HP0 : Hid (∃ P : Nat → Prop, FX w0 w5 pf i n (EG i n z P) ∧ (∀ t, t < i → okE n (z t) = true → ¬ P t → (z t).2.2 ≤ T) ∧ (cntT i fun t => okE n (z t) = true ∧ ¬ P t) = k) := Lib.hid ⟨P, h5, HP2.out.1, HP2.out.2⟩
              clear h5 A3 HP2
              go_wp2_with fail
              go_loopw [17] (fun x wr => ∃ q : Nat, q ≤ e2 ∧ x = .int .i64 q ∧ Hid (∃ P : Nat → Prop, FX w0 wr pf i n (EG i n z P) ∧ (∀ t, t < i → okE n (z t) = true → ¬ P t → (z t).2.2 ≤ T) ∧ (cntT i fun t => okE n (z t) = true ∧ ¬ P t) = q)) (fun x _ => e2 - (intOf x).toNat)
              case atStart => exact ⟨k, by omega, rfl, HP0⟩
              case round =>
                clear HP0
                obtain ⟨q, hk, rfl, HP⟩ := hrel
                by_cases hlt : q < e2
                · have hlt' : (q : Int) < e2 := by omega
                  have hw1 : IntKind.i64.wrap ((q : Int) + 1) = ((q + 1 : Nat) : Int) := by rw [show (q : Int) + 1 = ((q + 1 : Nat) : Int) by omega]; exact IntWalk.i64_in _ (by omega)
                  obtain ⟨P, h1, h2, h3⟩ := HP.out
                  obtain ⟨m, p1, p2, p3, p4, p5, p6, p7, p8, p9⟩ := pop_next (S := i) (V := n) (z := z) (P := P) (D := fun t => (z t).2.2 ≤ T) (fun t u _ _ hu hb => by unfold bef at hb; omega) h2 (by rw [h3, ← HE.out.2]; exact hlt)
                  have A3 := h1.exp
                  rw [p6] at A3
                  have A3 := Lib.hid A3
                  have HN := Lib.hid (And.intro p8 (show (cntT i fun t => okE n (z t) = true ∧ ¬ (P t ∧ t ≠ m)) = q + 1 by rw [p9, h3]))
                  clear h1 h2 h3 p1 p2 p3 p4 p5 p6 p7 p8 p9 HP
                  go_wp2_with fail
                  refine A3.out.mono ?_
                  rintro _ w5 ⟨rfl, h5⟩
                  have H5 := Lib.hid h5; clear h5 A3
                  go_wp2_with fail
                  go_roundw
                  case rel => exact ⟨q + 1, by omega, rfl, Lib.hid ⟨_, H5.out, HN.out.1, HN.out.2⟩⟩
                  case measure => simp [intOf]; omega
                · obtain rfl : q = e2 := by omega
                  obtain ⟨P, h1, h2, h3⟩ := HP.out
                  have hd := pop_done (D := fun t => (z t).2.2 ≤ T) h2 (by rw [h3, ← HE.out.2])
                  have hcx : connG n (EG i n z P) x y = false := by
                    rw [connG_iff ⟨HU.out.1, HU.out.2.1⟩, hd]
                    exact decide_eq_false (until_upto HU.out.2.2)
                  have A3 := FX.conn h1 x y
                  rw [hcx] at A3
                  have A3 := Lib.hid A3
                  clear h1 h2 h3 hd hcx HP
                  go_wp2_with fail
                  refine A3.out.mono ?_
                  rintro _ w6 ⟨rfl, h6⟩
                  have H6 := Lib.hid h6; clear h6 A3
                  go_wp2_with fail
                  refine (HWk.out _).mono ?_
                  rintro _ w7 ⟨rfl, hf⟩
                  have HF := Lib.hid (H6.out.fr.trans' hf); clear hf
                  go_wp2_with fail
                  go_ret
                  exact ⟨rfl, HF.out.below (by simp)⟩
end Go.Proofs.Ythkkelkgfkehlaa

/- ForestExpires: the walk. -/
namespace Go.Proofs.Ythkkelkgfkehlaa
open Go.RowKit Classical
set_option maxRecDepth 10000
set_option maxHeartbeats 1600000

section
variable {S V : Nat} {z : Nat → Int × Int × Int} {P : Nat → Prop} {m : Nat}
theorem tree_pop (h1 : m < S) (h2 : okE V (z m) = true) (h3 : P m) (hf : ∀ t, t < S → okE V (z t) = true → P t → ¬ bef (z t).2.2 t (z m).2.2 m) :
    treeL S (EG S V z fun t => P t ∧ t ≠ m) = (treeL S (EG S V z P)).filter fun t => decide (t ≠ m) := by
  have hd := del_first (G := EG S V z P) (eg_at ⟨h3, h1, h2⟩) (fun t a b x h => by
    obtain ⟨⟨p1, p2, p3⟩, _, _, rfl⟩ := eg_some.1 h
    exact hf t p2 p3 p1)
  rw [eg_pop] at hd
  unfold treeL
  rw [List.filter_filter]
  refine List.filter_congr fun t _ => ?_
  rw [← Bool.decide_and]
  exact decide_eq_decide.2 ((hd t).trans ⟨fun h => ⟨h.2, h.1⟩, fun h => ⟨h.2, h.1⟩⟩)
theorem len_eg : lenG S (EG S V z P) + cntT S (fun t => okE V (z t) = true ∧ ¬ P t) = cntT S fun t => okE V (z t) = true := by
  have e : lenG S (EG S V z P) = cntT S fun t => okE V (z t) = true ∧ P t := by
    unfold lenG
    refine Nat.le_antisymm (cnt_le_on S fun t ht h => ?_) (cnt_le_on S fun t ht h => ?_)
    · unfold EG at h
      by_cases hp : P t ∧ t < S ∧ okE V (z t) = true
      · exact ⟨hp.2.2, hp.1⟩
      · rw [if_neg hp] at h; cases h
    · rw [eg_at ⟨h.2, ht, h.1⟩]; rfl
  rw [e]
  refine (cnt_split S (fun t => ⟨fun h => ?_, fun h => ?_⟩) (fun t h => h.2.2 h.1.2)).symm
  · by_cases hp : P t
    · exact .inl ⟨h, hp⟩
    · exact .inr ⟨h, hp⟩
  · exact h.elim (fun h => h.1) (fun h => h.1)
theorem pop_none (h : cntT S (fun t => okE V (z t) = true ∧ ¬ P t) = cntT S fun t => okE V (z t) = true) : EG S V z P = fun _ => none := by
  have h' : cntT S (fun t => okE V (z t) = true ∧ ¬ P t) = cntT S fun t => okE V (z t) = true ∧ True := by
    rw [h]; exact cntT_congr fun t => by simp
  rw [pop_done (D := fun _ => True) (fun _ _ _ _ => trivial) h']
  exact EG_none fun t h => h trivial
end
theorem treeL_le (S : Nat) (G : EMap) : (treeL S G).length ≤ S := cntT_le S (isTree G)
noncomputable def pB (P : Nat → Prop) (t : Nat) : Bool := decide (P t)
theorem pB_iff {P : Nat → Prop} {t : Nat} : pB P t = true ↔ P t := by unfold pB; exact decide_eq_true_iff
theorem comp_none (V S : Nat) : compG V (fun _ => none) = V := by
  have h := comp_tree (GW.no S V)
  have : cntT S (isTree fun _ => none) = 0 := by
    rw [cntT_congr (T' := fun _ => False) (fun t => ⟨fun ⟨_, _, _, e, _⟩ => (by cases e), False.elim⟩), cntT_none]
  omega
section
variable {W wr w' : World} {pf S V tb : Nat} {G G' : EMap} {f : Nat → Bool} {L : List Nat}
theorem LK.edges (h : LK W wr pf S V G tb f) : Calls Try.prog 20 #[fptr pf] wr fun e w' => ∃ v, e = .returned v ∧ RowN w' v (treeL S G) ∧ (∀ q, v.ownBlock = some q → wr.heap.size ≤ q) ∧ LKm W w' pf S V G tb f wr.heap.size ∧ Fr [] wr w' := by
  obtain ⟨L, h1, h2, h3, h4, h5, h6⟩ := h.now
  refine (fo_edges h1).mono ?_
  rintro e w' ⟨v, rfl, r1, r2, r3, r4⟩
  exact ⟨v, rfl, r1, r2, ⟨L, r3, r4.blk h2 (by simp), h3, h4, h5, h6⟩, r4⟩
theorem LK.len (h : LK W wr pf S V G tb f) : Calls Try.prog 25 #[fptr pf] wr fun e w' => e = .returned (.int .i64 (lenG S G)) ∧ LK W w' pf S V G tb f ∧ Fr [] wr w' := by
  obtain ⟨L, h1, h2, h3, h4⟩ := h
  refine (fo_len h1).mono ?_
  rintro e w' ⟨rfl, r3, r4⟩
  exact ⟨rfl, ⟨L, r3, r4.blk h2 (by simp), h3, h4⟩, r4⟩
theorem LK.count (h : LK W wr pf S V G tb f) : Calls Try.prog 21 #[fptr pf] wr fun e w' => e = .returned (.int .i64 (compG V G)) ∧ LK W w' pf S V G tb f ∧ Fr [] wr w' := by
  obtain ⟨L, h1, h2, h3, h4⟩ := h
  refine (fo_count h1).mono ?_
  rintro e w' ⟨rfl, r3, r4⟩
  exact ⟨rfl, ⟨L, r3, r4.blk h2 (by simp), h3, h4⟩, r4⟩
/-- Expire, with a row that was made. -/
theorem LKm.exp {m : Nat} (h : LKm W wr pf S V G tb f m) {v : Value} {p : List Nat} (hv : RowN wr v p) (hd : ∀ q, v.ownBlock = some q → m ≤ q) : Calls Try.prog 18 #[fptr pf] wr fun e w' => e = .returned (.tuple #[.int .i64 ((fstG G).getD 0 : Nat), .bool (fstG G).isSome]) ∧ LK W w' pf S V (popG G) tb f ∧ RowN w' v p := by
  obtain ⟨L, h1, h2, h3, h4, h5, h6⟩ := h
  refine (fo_exp h1).mono ?_
  rintro e w' ⟨rfl, hm⟩
  obtain ⟨L', m1, m2, m3⟩ := id hm
  exact ⟨rfl, LK.moved h1 h2 h3 h4 hm, hv.fr m2 (fun q hq hq' => by have := hd q hq; have := h5 q hq'; omega)⟩
/-- A cell of the row of what is there is set. -/
theorem LK.set (h : LK W wr pf S V G tb f) (i : Nat) (x : Bool) : LK W (wr.setCell ⟨tb, i, none⟩ (.bool x)) pf S V G tb (updT f i x) := by
  obtain ⟨L, h1, h2, h3, h4⟩ := h
  have hf : Fr [tb] wr (wr.setCell ⟨tb, i, none⟩ (.bool x)) := (Fr.refl _ _).setCell _ _ (.inl (by simp))
  refine ⟨L, h1.keep hf (fun q hq hm => by simp at hm; subst hm; exact h4 hq) (fun q hq => by simp at hq; omega), ?_, h3, h4⟩
  have := h2.set i (.bool x)
  rwa [bRow_set] at this
end
end Go.Proofs.Ythkkelkgfkehlaa

/- ForestNews: the walk. -/
namespace Go.Proofs.Ythkkelkgfkehlaa
open Go.RowKit Classical
set_option maxRecDepth 10000
set_option maxHeartbeats 1600000

@[go_sem] theorem eq_ref_nil (a : Addr) (w : World) : (binOp .eql 47 (.pointer none) (.pointer (some a))).run Try.prog w = .ok (.bool false) w := by
  have h : ∀ d : Nat, (Op.equalIn (d + 1) 47 (.pointer none) (.pointer (some a))).run Try.prog w = .ok false w := fun d => by
    simp [Op.equalIn, run_underlying Try.underlying47]
  simp only [binOp]
  simp [Op.equal, Op.maxDepth, h 9999]

section
variable (w : World)
theorem rn_valid : Calls Try.prog 63 #[.pointer none] w fun e w' => e = .returned (.bool false) ∧ w' = w := by
  go_enter Try.func63, Try.ntmps63
  go_wp2
  go_ret
  exact ⟨rfl, rfl⟩
theorem rn_has (a : Int) : Calls Try.prog 62 #[.pointer none, .int .i64 a] w fun e w' => e = .returned (.bool false) ∧ w' = w := by
  go_enter Try.func62, Try.ntmps62
  go_wp2_with (go_at_call 63; refine (rn_valid w).mono ?_; rintro e w' ⟨rfl, rfl⟩)
  go_ret
  exact ⟨rfl, rfl⟩
theorem rn_conn (a b : Int) : Calls Try.prog 41 #[.pointer none, .int .i64 a, .int .i64 b] w fun e w' => e = .returned (.bool false) ∧ w' = w := by
  go_enter Try.func41, Try.ntmps41
  go_wp2_with (go_at_call 62; refine (rn_has w a).mono ?_; rintro e w' ⟨rfl, rfl⟩)
  go_ret
  exact ⟨rfl, rfl⟩
theorem rn_until (a b : Int) : Calls Try.prog 40 #[.pointer none, .int .i64 a, .int .i64 b] w fun e w' => e = .returned (.tuple #[.int .i64 0, .bool false]) ∧ w' = w := by
  by_cases hab : a = b
  · subst hab
    go_enter Try.func40, Try.ntmps40
    go_wp2_with fail
    go_ret2
    exact ⟨rfl, rfl⟩
  · have d1 : (a == b) = false := by simp [hab]
    go_enter Try.func40, Try.ntmps40
    go_wp2_with (go_at_call 41; refine (rn_conn w a b).mono ?_; rintro e w' ⟨rfl, rfl⟩)
    go_ret2
    exact ⟨rfl, rfl⟩
theorem rn_size (a : Int) : Calls Try.prog 42 #[.pointer none, .int .i64 a] w fun e w' => e = .returned (.int .i64 0) ∧ w' = w := by
  go_enter Try.func42, Try.ntmps42
  go_wp2_with (go_at_call 62; refine (rn_has w a).mono ?_; rintro e w' ⟨rfl, rfl⟩)
  go_ret
  exact ⟨rfl, rfl⟩
theorem rn_count : Calls Try.prog 43 #[.pointer none] w fun e w' => e = .returned (.int .i64 0) ∧ w' = w := by
  go_enter Try.func43, Try.ntmps43
  go_wp2_with (go_at_call 63; refine (rn_valid w).mono ?_; rintro e w' ⟨rfl, rfl⟩)
  go_ret
  exact ⟨rfl, rfl⟩
theorem rn_len : Calls Try.prog 44 #[.pointer none] w fun e w' => e = .returned (.int .i64 0) ∧ w' = w := by
  go_enter Try.func44, Try.ntmps44
  go_wp2_with (go_at_call 63; refine (rn_valid w).mono ?_; rintro e w' ⟨rfl, rfl⟩)
  go_ret
  exact ⟨rfl, rfl⟩
theorem rn_tree (s : Int) : Calls Try.prog 45 #[.pointer none, .int .i64 s] w fun e w' => e = .returned (.bool false) ∧ w' = w := by
  go_enter Try.func45, Try.ntmps45
  go_wp2_with (go_at_call 63; refine (rn_valid w).mono ?_; rintro e w' ⟨rfl, rfl⟩)
  go_ret
  exact ⟨rfl, rfl⟩
theorem agree_nil (a b s : Int) : Calls Try.prog 26 #[.pointer none, .pointer none, .int .i64 a, .int .i64 b, .int .i64 s] w fun e w' => e = .returned (.bool true) ∧ Below w.heap.size w w' := by
  have hb : ∀ w : World, BadF w none := fun _ => .inl rfl
  have HB := Lib.hid hb; clear hb
  go_enter Try.func26, Try.ntmps26
  go_wp2_with (first | (go_at_call 16; refine (bad_until (HB.out _) a b).mono ?_; rintro e w' ⟨rfl, rfl⟩) | (go_at_call 40; refine (rn_until _ a b).mono ?_; rintro e w' ⟨rfl, rfl⟩) | fail)
  refine (bad_conn (HB.out _) a b).mono ?_
  rintro _ w2 ⟨rfl, h2⟩
  have H2 := Lib.hid h2; clear h2
  go_wp2_with (first | (go_at_call 41; refine (rn_conn _ a b).mono ?_; rintro e w' ⟨rfl, rfl⟩) | (go_at_call 22; refine (bad_size (HB.out _) a).mono ?_; rintro e w' ⟨rfl, rfl⟩) | (go_at_call 42; refine (rn_size _ a).mono ?_; rintro e w' ⟨rfl, rfl⟩) | (go_at_call 21; refine (bad_count (HB.out _)).mono ?_; rintro e w' ⟨rfl, rfl⟩) | (go_at_call 43; refine (rn_count _).mono ?_; rintro e w' ⟨rfl, rfl⟩) | (go_at_call 25; refine (bad_len (HB.out _)).mono ?_; rintro e w' ⟨rfl, rfl⟩) | (go_at_call 44; refine (rn_len _).mono ?_; rintro e w' ⟨rfl, rfl⟩) | (go_at_call 14; refine (bad_tree (HB.out _) s).mono ?_; rintro e w' ⟨rfl, rfl⟩) | (go_at_call 45; refine (rn_tree _ s).mono ?_; rintro e w' ⟨rfl, rfl⟩) | fail)
  go_ret
  exact ⟨rfl, H2.out⟩
end

theorem rnew_bad (v e : Int) (w : World) (hn : ¬ (0 ≤ v ∧ v ≤ 4096 ∧ 0 ≤ e ∧ e ≤ 16384)) :
    Calls Try.prog 24 #[.int .i64 v, .int .i64 e] w fun r w' => r = .returned (.tuple #[.pointer none, .int .i64 2]) ∧ w' = w := by
  by_cases h1 : v < 0
  · clear hn
    go_enter Try.func24, Try.ntmps24
    go_wp2
    go_ret2
    exact ⟨rfl, rfl⟩
  · have d1 : decide (v < 0) = false := decide_eq_false h1
    by_cases h2 : v > 4096
    · clear hn
      go_enter Try.func24, Try.ntmps24
      go_wp2
      go_ret2
      exact ⟨rfl, rfl⟩
    · have d2 : decide (v > 4096) = false := decide_eq_false h2
      by_cases h3 : e < 0
      · clear hn
        go_enter Try.func24, Try.ntmps24
        go_wp2
        go_ret2
        exact ⟨rfl, rfl⟩
      · have d3 : decide (e < 0) = false := decide_eq_false h3
        have h4 : e > 16384 := by omega
        clear hn
        go_enter Try.func24, Try.ntmps24
        go_wp2
        go_ret2
        exact ⟨rfl, rfl⟩
theorem rnew_w (V S : Nat) (w : World) (hV : V ≤ 4096) (hS : S ≤ 16384) :
    Calls Try.prog 24 #[.int .i64 V, .int .i64 S] w fun r w' => r = .returned (.tuple #[fptr w.heap.size, .int .i64 0]) ∧ RA w' w.heap.size V S (.slice none 0 0) [] ∧ Fr [] w w' := by
  have d1 : decide ((V : Int) < 0) = false := decide_eq_false (by omega)
  have d2 : decide ((V : Int) > 4096) = false := decide_eq_false (by omega)
  have d3 : decide ((S : Int) < 0) = false := decide_eq_false (by omega)
  have d4 : decide ((S : Int) > 16384) = false := decide_eq_false (by omega)
  have d2' : ¬ 4096 < V := by omega
  have d4' : ¬ 16384 < S := by omega
  go_enter Try.func24, Try.ntmps24
  go_wp2
  go_ret2
  refine ⟨rfl, ⟨Blk.new w [.bool true, .int .i64 V, .int .i64 S, .slice none 0 0] _, ⟨rfl, .inl ⟨rfl, rfl⟩⟩, (fun e => by cases e), (fun e he => by cases he), hV, hS, Nat.zero_le _⟩, (Fr.refl _ _).alloc _⟩
theorem reps_nil : Reps (fun _ => none) [] := ⟨fun s a b x => by simp, by simp⟩
theorem bf_new (W : World) (V S : Nat) (hV : V ≤ 4096) (hS : S ≤ 16384) : Calls Try.prog 23 #[.int .i64 V, .int .i64 S] W fun e w1 => ∃ pf, e = .returned (.tuple #[fptr pf, .int .i64 0]) ∧
    Calls Try.prog 24 #[.int .i64 V, .int .i64 S] w1 fun e w2 => ∃ pr, e = .returned (.tuple #[fptr pr, .int .i64 0]) ∧ BF W w2 pf pr S V (fun _ => none) (.slice none 0 0) [] := by
  refine (fo_new V S W W hV hS (Fr.refl _ _)).mono ?_
  rintro _ w1 ⟨pf, rfl, L, h1, h2, h3⟩
  refine ⟨pf, rfl, ?_⟩
  refine (rnew_w V S w1 hV hS).mono ?_
  rintro _ w2 ⟨rfl, r1, r2⟩
  exact ⟨_, rfl, L, h1.keep0 r2, r1, reps_nil, fun e => Nat.lt_irrefl _ (h1.lt _ e), fun q hq => (by cases hq), h2.size, fun q hq => (by cases hq)⟩

theorem walk_forestNews (W : World) (n : Int) (_ : (Lit.int .i64 n).wf = true) (m : Int) (_ : (Lit.int .i64 m).wf = true) (a : Int) (ha : (Lit.int .i64 a).wf = true) (b : Int) (_ : (Lit.int .i64 b).wf = true) :
    Calls Try.prog 7 #[.int .i64 n, .int .i64 m, .int .i64 a, .int .i64 b] W fun e w' => e = .returned (.bool true) ∧ Below W.heap.size W w' := by
  have HWk := Lib.hid (fun w => works_w w)
  have ha' : -9223372036854775808 ≤ a ∧ a ≤ 9223372036854775807 := by
    have : (decide ((-9223372036854775808 : Int) ≤ a) && decide (a ≤ 9223372036854775807)) = true := ha
    simpa using this
  clear ha
  by_cases hok : 0 ≤ n ∧ n ≤ 4096 ∧ 0 ≤ m ∧ m ≤ 16384
  · obtain ⟨n, rfl, hn⟩ : ∃ k : Nat, n = k ∧ k ≤ 4096 := ⟨n.toNat, by omega, by omega⟩
    obtain ⟨m, rfl, hm⟩ : ∃ k : Nat, m = k ∧ k ≤ 16384 := ⟨m.toNat, by omega, by omega⟩
    have HN := Lib.hid (bf_new W n m hn hm)
    clear hok
    go_enter Try.func7, Try.ntmps7
    go_wp2_with fail
    refine HN.out.mono ?_
    rintro _ w1 ⟨pf, rfl, h1⟩
    have H1 := Lib.hid h1; clear h1 HN
    go_wp2_with fail
    refine H1.out.mono ?_
    rintro _ w2 ⟨pr, rfl, h2⟩
    have H2 := Lib.hid h2; clear h2 H1
    by_cases h60 : 60 < n
    · have h60' : (60 : Int) < n := by omega
      have A1 := H2.out.count
      rw [comp_none n m] at A1
      have A1 := Lib.hid A1
      have A2 := fun (w' : World) (h : BF W w' pf pr m n (fun _ => none) (.slice none 0 0) []) => h.len
      have e0 : lenG m (fun _ => none) = 0 := by unfold lenG; rw [cntT_congr (T' := fun _ => False) (fun t => by simp), cntT_none]
      rw [e0] at A2
      have A2 := Lib.hid A2
      clear e0
      go_wp2_with fail
      refine A1.out.mono ?_
      rintro _ w3 ⟨rfl, h3⟩
      have A3 := Lib.hid (A2.out _ h3); clear h3 A1
      go_wp2_with fail
      refine A3.out.mono ?_
      rintro _ w4 ⟨rfl, h4⟩
      have H4 := Lib.hid h4; clear h4 A3
      go_wp2_with fail
      refine (HWk.out _).mono ?_
      rintro _ w5 ⟨rfl, hf⟩
      have HF := Lib.hid (H4.out.fr.trans' hf); clear hf
      go_wp2_with fail
      go_ret
      exact ⟨rfl, HF.out.below (by simp)⟩
    · have h60' : ¬ (60 : Int) < n := by omega
      have A1 := Lib.hid (agree_w H2.out a b a ha')
      have e0 : treeL m (fun _ => none) = [] := by
        unfold treeL
        rw [List.filter_eq_nil_iff]
        intro t _
        simp only [decide_eq_true_eq]
        rintro ⟨_, _, _, e, _⟩; cases e
      have HE := Lib.hid e0; clear e0
      go_wp2_with fail
      refine A1.out.mono ?_
      rintro _ w3 ⟨rfl, h3⟩
      obtain ⟨L, hO, hR⟩ := id h3
      have A2 := fo_edges hO
      rw [HE.out] at A2
      have A2 := Lib.hid A2
      have H3 := Lib.hid h3
      clear hO hR h3 A1
      go_wp2_with fail
      refine A2.out.mono ?_
      rintro _ w4 ⟨u, rfl, r1, r2, r3, r4⟩
      obtain ⟨au, cu, rfl⟩ := ownsRow_slice r1
      have H4 := Lib.hid (H3.out.keep r4)
      clear r1 r2 r3 r4 A2
      go_wp2_with fail
      refine (HWk.out _).mono ?_
      rintro _ w5 ⟨rfl, hf⟩
      have HF := Lib.hid (H4.out.fr.trans' hf); clear hf
      go_wp2_with fail
      go_ret
      exact ⟨rfl, HF.out.below (by simp)⟩
  · have HN := Lib.hid (fnew_bad n m W hok)
    have HN2 := Lib.hid (rnew_bad n m W hok)
    clear hok
    go_enter Try.func7, Try.ntmps7
    go_wp2_with fail
    refine HN.out.mono ?_
    rintro _ w1 ⟨rfl, rfl⟩
    go_wp2_with fail
    refine HN2.out.mono ?_
    rintro _ w1 ⟨rfl, rfl⟩
    by_cases h60 : 60 < n
    · go_wp2_with fail
      go_ret
      exact ⟨rfl, Below.refl _ _⟩
    · have hd : decide (n > 60) = false := decide_eq_false h60
      go_wp2_with fail
      refine (agree_nil _ a b a).mono ?_
      rintro _ w3 ⟨rfl, h3⟩
      have H3 := Lib.hid h3; clear h3
      go_wp2_with (first | (go_at_call 20; refine (bad_edges (.inl rfl)).mono ?_; rintro e w' ⟨rfl, rfl⟩) | fail)
      refine (HWk.out _).mono ?_
      rintro _ w5 ⟨rfl, hf⟩
      have HF := Lib.hid (hf.below (by simp)); clear hf
      go_wp2_with fail
      go_ret
      exact ⟨rfl, H3.out.trans (HF.out.mono H3.out.size)⟩
end Go.Proofs.Ythkkelkgfkehlaa

namespace Go.Proofs.Ythkkelkgfkehlaa.forestNews
open Go.ChangeShapes Go.WideShapes Go.ChangeAt Go.RowKit
set_option linter.unusedVariables false

theorem own : ownKnob Try.prog.godebug = none := by kernel_rfl
theorem laidOut : laidOutB Try.prog = true := by kernel_rfl

set_option maxRecDepth 100000 in
theorem lifted (os : Os) (started : os.Started) (H : Type) (enc : TypeId × Value → H) :
    ReturnsInHanded {} Try.checked os 7 .any (Rows.forestNewsSpec.pre6 enc Try.prog Try.f7 Rows.forestNewsRow.domain false) (Rows.forestNewsSpec.post enc Try.prog Try.f7 false true false false) := by
  refine returnsInHanded_of_change (C := Try.checked) own started (by kernel_rfl) Try.func7
    (ChangeSpec.witness6 (enc := enc) (C := Try.checked) false ⟨#[], #[.int .i64 0, .int .i64 0, .int .i64 0, .int .i64 0], []⟩ 8 (by kernel_rfl) (by kernel_rfl) (by kernel_rfl) (by kernel_rfl)) ?_
  intro W base args ds gs before hval0 hW hcnd _
  have hval : ∀ (j : Nat) t v, Try.f7.params[j]? = some t → args[j]? = some v → Value.okWide Try.prog W .any base t v := hval0
  have hW' := hW
  obtain ⟨p, q, hA0, hV, rfl, hfz, hnd⟩ := hW
  have hA : DataW.TrodAll enc Try.prog W 0 (fun _ => true) true Try.f7.params.toList args.toList ds p := hA0
  rw [Try.params7] at hA hval
  obtain ⟨v0, vs0, d0, ds0, p0, q0, hargs, rfl, rfl, h0, r0⟩ := trodAll_cons hA
  obtain ⟨v1, vs1, d1, ds1, p1, q1, rfl, rfl, rfl, h1, r1⟩ := trodAll_cons r0
  obtain ⟨v2, vs2, d2, ds2, p2, q2, rfl, rfl, rfl, h2, r2⟩ := trodAll_cons r1
  obtain ⟨v3, vs3, d3, ds3, p3, q3, rfl, rfl, rfl, h3, r3⟩ := trodAll_cons r2
  obtain ⟨rfl, rfl, rfl⟩ := trodAll_nil r3
  obtain rfl : args = #[v0, v1, v2, v3] := by cases args; simp_all
  obtain ⟨rfl, rfl⟩ := trodVars_none hV
  obtain ⟨a0, rfl, rfl, rfl, w0⟩ := open_int Try.underlying3 (hval 0 3 v0 rfl rfl) h0
  obtain ⟨a1, rfl, rfl, rfl, w1⟩ := open_int Try.underlying3 (hval 1 3 v1 rfl rfl) h1
  obtain ⟨a2, rfl, rfl, rfl, w2⟩ := open_int Try.underlying3 (hval 2 3 v2 rfl rfl) h2
  obtain ⟨a3, rfl, rfl, rfl, w3⟩ := open_int Try.underlying3 (hval 3 3 v3 rfl rfl) h3
  clear hA0 hval0
  refine (walk_forestNews W a0 w0 a1 w1 a2 w2 a3 w3).mono fun e W' ⟨he, bel⟩ => ?_
  subst he
  exact ⟨_, rfl, _, _, _, [], _, [], hW', trodAll_mk1 (shut_bool Try.underlying4 _), (trodAll_cons_mk (shut_int Try.underlying3 w0) (trodAll_cons_mk (shut_int Try.underlying3 w1) (trodAll_cons_mk (shut_int Try.underlying3 w2) (trodAll_cons_mk (shut_int Try.underlying3 w3) trodAll_mk0)))), rfl, bel.frame _, fun h => by cases h⟩

theorem over : Rows.forestNewsRow.holds Try.pinned (OpenSpec.ofChange Rows.forestNewsSpec) :=
  OpenClaim.holds_of_wide 7 Try.f7 rfl rfl rfl rfl rfl rfl rfl ⟨rfl, rfl, rfl, rfl, rfl⟩ rfl rfl rfl rfl rfl (by kernel_rfl) Try.func7 (by kernel_rfl)
    (of_decide_eq_true (by kernel_rfl)) (by unfold Func.isWrapper; first | (rw [if_pos (by decide +kernel)]; kernel_rfl) | (rw [if_neg (by decide +kernel)]; exact ⟨rfl, rfl⟩))
    (fun os started H enc _ => lifted os started H enc)

end Go.Proofs.Ythkkelkgfkehlaa.forestNews

namespace Go.Proofs.Ythkkelkgfkehlaa
theorem forestNews_holds : Rows.ForestNewsSaid := forestNews.over
#print axioms forestNews_holds
end Go.Proofs.Ythkkelkgfkehlaa
