/- A forest and the document's beside it: agree, New. -/
import Derived.Test.YthkkelkgfkehlaaForestNewsZ1
import Derived.Test.YthkkelkgfkehlaaB14
/- ForestLate: the walk. -/
namespace Go.Proofs.Ythkkelkgfkehlaa
open Go.RowKit Classical
set_option maxRecDepth 10000
set_option maxHeartbeats 1600000

theorem small_true {n : Int} {len : Nat} (h : smallF n len = true) : ∃ m : Nat, n = m ∧ m ≤ 30 ∧ len ≤ 80 := by
  unfold smallF at h
  simp only [Bool.and_eq_true, decide_eq_true_eq] at h
  exact ⟨n.toNat, by omega, by omega, h.2.2⟩
/-- What the walk of a law carries: the forest, and the row of what is there. -/
def LK (W wr : World) (pf S V : Nat) (G : EMap) (tb : Nat) (f : Nat → Bool) : Prop := ∃ L, FO W wr pf S V G L ∧ Blk wr tb 4 (bRow S f) ∧ W.heap.size ≤ tb ∧ tb ∉ L
/-- All its blocks are below m. -/
def LKm (W wr : World) (pf S V : Nat) (G : EMap) (tb : Nat) (f : Nat → Bool) (m : Nat) : Prop := ∃ L, FO W wr pf S V G L ∧ Blk wr tb 4 (bRow S f) ∧ W.heap.size ≤ tb ∧ tb ∉ L ∧ (∀ q ∈ L, q < m) ∧ tb < m
section
variable {W wr w' : World} {pf S V tb m : Nat} {G G' : EMap} {f : Nat → Bool} {L : List Nat}
theorem LK.now (h : LK W wr pf S V G tb f) : LKm W wr pf S V G tb f wr.heap.size := by
  obtain ⟨L, h1, h2, h3, h4⟩ := h
  exact ⟨L, h1, h2, h3, h4, h1.lt, h2.lt⟩
theorem LKm.lk (h : LKm W wr pf S V G tb f m) : LK W wr pf S V G tb f := by
  obtain ⟨L, h1, h2, h3, h4, _⟩ := h
  exact ⟨L, h1, h2, h3, h4⟩
theorem LKm.keep (h : LKm W wr pf S V G tb f m) {X : List Nat} (hf : Fr X wr w') (hx : ∀ q ∈ X, m ≤ q) (hw : ∀ q ∈ X, W.heap.size ≤ q) : LKm W w' pf S V G tb f m := by
  obtain ⟨L, h1, h2, h3, h4, h5, h6⟩ := h
  exact ⟨L, h1.keep hf (fun q hq hm => by have := hx q hm; have := h5 q hq; omega) hw, hf.blk h2 (fun hm => by have := hx _ hm; omega), h3, h4, h5, h6⟩
theorem LKm.keep0 (h : LKm W wr pf S V G tb f m) (hf : Fr [] wr w') : LKm W w' pf S V G tb f m := h.keep hf (by simp) (by simp)
theorem LKm.fr (h : LKm W wr pf S V G tb f m) : Fr [] W wr := by obtain ⟨L, h1, _⟩ := h; exact h1.fr
theorem LKm.blk (h : LKm W wr pf S V G tb f m) : Blk wr tb 4 (bRow S f) := by obtain ⟨L, _, h2, _⟩ := h; exact h2
theorem LKm.tree (h : LKm W wr pf S V G tb f m) {s : Int} (hs : -9223372036854775808 ≤ s ∧ s ≤ 9223372036854775807) : Calls Try.prog 14 #[fptr pf, .int .i64 s] wr fun e w' => e = .returned (.bool (treeG G s)) ∧ LKm W w' pf S V G tb f m ∧ Fr [] wr w' := by
  obtain ⟨L, h1, h2, h3, h4⟩ := h
  refine (fo_tree h1 hs).mono ?_
  rintro e w' ⟨rfl, h5, h6⟩
  exact ⟨rfl, ⟨L, h5, h6.blk h2 (by simp), h3, h4⟩, h6⟩
theorem LK.keep (h : LK W wr pf S V G tb f) (hf : Fr [] wr w') : LK W w' pf S V G tb f := by
  obtain ⟨L, h1, h2, h3, h4⟩ := h
  exact ⟨L, h1.keep0 hf, hf.blk h2 (by simp), h3, h4⟩
theorem LK.fr (h : LK W wr pf S V G tb f) : Fr [] W wr := by obtain ⟨L, h1, _⟩ := h; exact h1.fr
theorem LK.blk (h : LK W wr pf S V G tb f) : Blk wr tb 4 (bRow S f) := by obtain ⟨L, _, h2, _⟩ := h; exact h2
theorem LK.tree (h : LK W wr pf S V G tb f) {s : Int} (hs : -9223372036854775808 ≤ s ∧ s ≤ 9223372036854775807) : Calls Try.prog 14 #[fptr pf, .int .i64 s] wr fun e w' => e = .returned (.bool (treeG G s)) ∧ LK W w' pf S V G tb f ∧ Fr [] wr w' := by
  obtain ⟨L, h1, h2, h3, h4⟩ := h
  refine (fo_tree h1 hs).mono ?_
  rintro e w' ⟨rfl, h5, h6⟩
  exact ⟨rfl, ⟨L, h5, h6.blk h2 (by simp), h3, h4⟩, h6⟩
end

theorem walk_forestLate (W : World) (n : Int) (_ : (Lit.int .i64 n).wf = true) (a : Option Addr) (len cap : Nat) (z : Nat → Int × Int × Int) (hz : EdgesF W a len z) :
    Calls Try.prog 3 #[.int .i64 n, .slice a len cap] W fun e w' => e = .returned (.bool true) ∧ Below W.heap.size W w' := by
  have HS := Lib.hid (small_w36 W n a len cap hz.1)
  have HWk := Lib.hid (fun w => works_w w)
  cases hsm : smallF n len with
  | false =>
    rw [hsm] at HS
    clear hz hsm
    go_enter Try.func3, Try.ntmps3
    go_wp2_with fail
    refine HS.out.mono ?_
    rintro _ w1 ⟨rfl, rfl⟩
    go_wp2_with fail
    refine (HWk.out _).mono ?_
    rintro _ w2 ⟨rfl, hf⟩
    have HF := Lib.hid hf; clear hf
    go_wp2_with fail
    go_ret
    exact ⟨rfl, HF.out.below (by simp)⟩
  | true =>
    rw [hsm] at HS
    obtain ⟨n, rfl, hn, hl⟩ := small_true hsm
    have HG1 := Lib.hid (grown_w36 W W (Fr.refl _ _) n hn a len cap hl z hz true)
    have HZ := Lib.hid hz
    have HR := Lib.hid (fun (w : World) (hW : Fr [] W w) (ub ucap : Nat) (use : Nat → Bool) (hu : Blk w ub 4 (bRow len use)) (hok : ∀ i, i < len → use i = true → okE n (z i) = true) (p : Nat) (hp : p < n) => reached_w36 W w hW n hn a len cap hl z hz ub ucap use hu hok p hp)
    clear hz hsm
    go_enter Try.func3, Try.ntmps3
    go_wp2_with fail
    refine HS.out.mono ?_
    rintro _ w0 ⟨rfl, rfl⟩
    go_wp2_with fail
    refine HG1.out.mono ?_
    rintro _ w1 ⟨pf, tb, rfl, L, hO, hF, hQ, hB, ht, hnL⟩
    have H1 := Lib.hid (show LK w0 w1 pf len n _ tb _ from ⟨L, hO, hB, ht, hnL⟩)
    clear hO hF hQ hB ht hnL HG1 HS
    go_wp2_with fail
    go_loopw [7] (fun x wr => ∃ i : Nat, i ≤ len ∧ x = .int .i64 i ∧ Hid (LK w0 wr pf len n (EG len n z fun _ => True) tb (fun t => okE n (z t)))) (fun x _ => len - (intOf x).toNat)
    case atStart => exact ⟨0, Nat.zero_le _, rfl, H1⟩
    case round =>
      clear H1
      obtain ⟨i, hi, rfl, H⟩ := hrel
      rename World => wo
      by_cases hlt : i < len
      · have hlt' : (i : Int) < len := by omega
        have hw1 : IntKind.i64.wrap ((i : Int) + 1) = ((i + 1 : Nat) : Int) := by rw [show (i : Int) + 1 = ((i + 1 : Nat) : Int) by omega]; exact IntWalk.i64_in _ (by omega)
        have t0 := H.out.blk.cell i
        rw [bRow_at _ hlt] at t0
        cases ho : okE n (z i) with
        | false =>
          rw [ho] at t0
          clear ho
          go_wp2_with fail
          go_roundw
          case rel => exact ⟨i + 1, by omega, rfl, H⟩
          case measure => simp [intOf]; omega
        | true =>
          rw [ho] at t0
          have hmk := fun w' => run_makeB len w' (by omega)
          have HO := Lib.hid ho; clear ho
          go_wp2_with fail
          clear hmk t0
          have hb := Blk.new wo (bRow len fun _ => false) 4
          have hfa : Fr [] wo (wo.alloc (.cells (bRow len fun _ => false).toArray 4)) := (Fr.refl _ _).alloc _
          have H2 := Lib.hid (And.intro (H.out.now.keep0 hfa) (And.intro hb hfa)); clear hb hfa
          generalize wo.alloc (.cells (bRow len fun _ => false).toArray 4) = w2 at *
          go_loopw [9] (fun x wq => ∃ k : Nat, k ≤ len ∧ x = .int .i64 k ∧ Hid (LKm w0 wq pf len n (EG len n z fun _ => True) tb (fun t => okE n (z t)) wo.heap.size ∧ Blk wq wo.heap.size 4 (bRow len fun t => decide (t < k) && lateB len n z i t) ∧ Fr [] wo wq)) (fun x _ => len - (intOf x).toNat)
          case atStart => exact ⟨0, Nat.zero_le _, rfl, Lib.hid ⟨H2.out.1, by rw [bRow_congr (f' := fun _ => false) (fun t _ => by simp)]; exact H2.out.2.1, H2.out.2.2⟩⟩
          case round =>
            clear H2
            obtain ⟨k, hk, rfl, HK⟩ := hrel
            by_cases hlt : k < len
            · have hlt2 : (k : Int) < len := by omega
              have hw2 : IntKind.i64.wrap ((k : Int) + 1) = ((k + 1 : Nat) : Int) := by rw [show (k : Int) + 1 = ((k + 1 : Nat) : Int) by omega]; exact IntWalk.i64_in _ (by omega)
              have hWr := H.out.fr.size
              have fin : Hid (∀ (wq' : World), LKm w0 wq' pf len n (EG len n z fun _ => True) tb (fun t => okE n (z t)) wo.heap.size → Blk wq' wo.heap.size 4 (bRow len fun t => decide (t < k) && lateB len n z i t) → Fr [] wo wq' → ∀ v, lateB len n z i k = v →
                  LKm w0 (wq'.setCell ⟨wo.heap.size, k, none⟩ (.bool v)) pf len n (EG len n z fun _ => True) tb (fun t => okE n (z t)) wo.heap.size ∧ Blk (wq'.setCell ⟨wo.heap.size, k, none⟩ (.bool v)) wo.heap.size 4 (bRow len fun t => decide (t < k + 1) && lateB len n z i t) ∧ Fr [] wo (wq'.setCell ⟨wo.heap.size, k, none⟩ (.bool v))) := Lib.hid (fun wq' h1 h2 h3 v hv => by
                have hf : Fr [wo.heap.size] wq' (wq'.setCell ⟨wo.heap.size, k, none⟩ (.bool v)) := (Fr.refl _ _).setCell _ _ (.inl (by simp))
                refine ⟨h1.keep hf (by simp) (by simp; omega), ?_, h3.trans hf (fun q hq => .inr (by simp at hq; omega))⟩
                have h4 := h2.set k (.bool v)
                rw [bRow_set, bRow_congr (f' := fun t => decide (t < k + 1) && lateB len n z i t) (fun t ht => ?_)] at h4
                · exact h4
                · by_cases e : t = k
                  · rw [e, updT_same, ← hv]; simp
                  · rw [updT_other e]
                    have : (t < k + 1) ↔ (t < k) := by omega
                    simp only [this])
              have t0 := HK.out.1.blk.cell k
              rw [bRow_at _ hlt] at t0
              have l0 := HK.out.2.1.cell k
              have l1 := HK.out.2.1.frozen k
              rw [bRow_at _ hlt] at l0
              have hFq := HK.out.1.fr
              obtain ⟨b, off, rfl, hbi, _, _, xi, _⟩ := (HZ.out.fr hFq).2 i (by omega)
              obtain ⟨b', off', e, _, _, _, xk, _⟩ := (HZ.out.fr hFq).2 k hlt
              cases e
              have hTr := fun (nq : Nat) => LKm.tree (HK.out.1.keep0 ((Fr.refl [] wr).drewN nq)) (s := (k : Int)) (by omega)
              have hlb : lateB len n z i k = (okE n (z k) && (decide (bef (z i).2.2 i (z k).2.2 k) && treeG (EG len n z fun _ => True) k)) := rfl
              rw [hlb] at fin
              have HTr := Lib.hid hTr
              clear hTr hlb hFq
              generalize hxi : (z i).2.2 = yi at *
              generalize hxk : (z k).2.2 = yk at *
              have HXX := Lib.hid (And.intro hxi hxk); clear hxi hxk
              generalize treeG (EG len n z fun _ => True) k = tk at *
              cases hok : okE n (z k) with
              | false =>
                rw [hok] at t0 fin
                clear hok
                have hfin := fun (nq : Nat) => fin.out (wr.drewN nq) (HK.out.1.keep0 ((Fr.refl [] wr).drewN nq)) (HK.out.2.1.drewN nq) (HK.out.2.2.drewN nq) false rfl
                have HFin := Lib.hid hfin; clear hfin fin
                by_cases h1 : yi < yk
                · go_wp2_with fail
                  go_quiet (fail)
                  go_wp2_with fail
                  go_roundw
                  case rel => exact ⟨k + 1, by omega, rfl, Lib.hid (HFin.out _)⟩
                  case measure => simp [intOf]; omega
                · have d1 : decide (yk > yi) = false := decide_eq_false h1
                  by_cases h2 : yk = yi
                  · go_wp2_with fail
                    go_quiet (fail)
                    go_wp2_with fail
                    go_roundw
                    case rel => exact ⟨k + 1, by omega, rfl, Lib.hid (HFin.out _)⟩
                    case measure => simp [intOf]; omega
                  · have d2 : (yk == yi) = false := by simp [h2]
                    go_wp2_with fail
                    go_quiet (fail)
                    go_wp2_with fail
                    go_roundw
                    case rel => exact ⟨k + 1, by omega, rfl, Lib.hid (HFin.out _)⟩
                    case measure => simp [intOf]; omega
              | true =>
                rw [hok] at t0 fin
                clear hok
                by_cases hb : bef yi i yk k
                · rw [decide_eq_true hb] at fin
                  have Fin := Lib.hid fin.out; clear fin
                  unfold bef at hb
                  by_cases h1 : yi < yk
                  · clear hb
                    go_wp2_with fail
                    go_quiet (fail)
                    go_wp2_with fail
                    refine (HTr.out _).mono ?_
                    rintro _ w5 ⟨rfl, hk5, hf5'⟩
                    have hf5 : Fr [] wr w5 := ((Fr.refl [] wr).drewN _).trans' hf5'
                    clear hf5'
                    have hB5 := hf5.blk HK.out.2.1 (by simp)
                    have HFin := Lib.hid (Fin.out _ hk5 hB5 (HK.out.2.2.trans' hf5) tk rfl)
                    have l0 := hB5.cell k
                    have l1 := hB5.frozen k
                    rw [bRow_at _ hlt] at l0
                    clear hk5 hB5 hf5 Fin
                    go_wp2_with fail
                    go_roundw
                    case rel => exact ⟨k + 1, by omega, rfl, HFin⟩
                    case measure => simp [intOf]; omega
                  · have h2 : yk = yi := by omega
                    have h3 : i < k := by omega
                    have d1 : decide (yk > yi) = false := decide_eq_false h1
                    have d3 : decide ((k : Int) > i) = true := decide_eq_true (by omega)
                    clear hb
                    go_wp2_with fail
                    go_quiet (fail)
                    go_wp2_with fail
                    refine (HTr.out _).mono ?_
                    rintro _ w5 ⟨rfl, hk5, hf5'⟩
                    have hf5 : Fr [] wr w5 := ((Fr.refl [] wr).drewN _).trans' hf5'
                    clear hf5'
                    have hB5 := hf5.blk HK.out.2.1 (by simp)
                    have HFin := Lib.hid (Fin.out _ hk5 hB5 (HK.out.2.2.trans' hf5) tk rfl)
                    have l0 := hB5.cell k
                    have l1 := hB5.frozen k
                    rw [bRow_at _ hlt] at l0
                    clear hk5 hB5 hf5 Fin
                    go_wp2_with fail
                    go_roundw
                    case rel => exact ⟨k + 1, by omega, rfl, HFin⟩
                    case measure => simp [intOf]; omega
                · rw [decide_eq_false hb] at fin
                  have hfin := fun (nq : Nat) => fin.out (wr.drewN nq) (HK.out.1.keep0 ((Fr.refl [] wr).drewN nq)) (HK.out.2.1.drewN nq) (HK.out.2.2.drewN nq) false rfl
                  have HFin := Lib.hid hfin; clear hfin fin
                  unfold bef at hb
                  have h1 : ¬ yi < yk := by omega
                  have d1 : decide (yk > yi) = false := decide_eq_false h1
                  by_cases h2 : yk = yi
                  · have h3 : ¬ i < k := by omega
                    have d3 : decide ((k : Int) > i) = false := decide_eq_false (by omega)
                    clear hb
                    go_wp2_with fail
                    go_quiet (fail)
                    go_wp2_with fail
                    go_roundw
                    case rel => exact ⟨k + 1, by omega, rfl, Lib.hid (HFin.out _)⟩
                    case measure => simp [intOf]; omega
                  · have d2 : (yk == yi) = false := by simp [h2]
                    clear hb
                    go_wp2_with fail
                    go_quiet (fail)
                    go_wp2_with fail
                    go_roundw
                    case rel => exact ⟨k + 1, by omega, rfl, Lib.hid (HFin.out _)⟩
                    case measure => simp [intOf]; omega
            · obtain rfl : k = len := by omega
              have hin := okE_in HO.out
              have hrow : Blk wr wo.heap.size 4 (bRow k (lateB k n z i)) := by
                have := HK.out.2.1
                rwa [bRow_congr (f' := lateB k n z i) (fun t ht => by simp [ht])] at this
              have hRe := HR.out wr HK.out.1.fr wo.heap.size k (lateB k n z i) hrow (fun t ht h => late_ok (by omega) h) (zA z i) hin.2.2.1
              have hFq := HK.out.1.fr
              obtain ⟨b, off, rfl, hbi, q0, q1, _, _⟩ := (HZ.out.fr hFq).2 i (by omega)
              rw [hin.1] at q0
              have HRe := Lib.hid hRe
              have Hin := Lib.hid hin
              clear hRe hin hrow hFq q1
              go_wp2_with fail
              refine HRe.out.mono ?_
              rintro _ w5 ⟨sb, rfl, hb5, hs5, hf5⟩
              have H5 := Lib.hid (And.intro (HK.out.1.keep0 hf5) (And.intro hb5 hf5))
              have HLt := Lib.hid (late_tree (V := n) (z := z) (show i < k by omega) HO.out)
              clear hb5 hf5 q0 HRe
              obtain ⟨zb, hzb⟩ : ∃ zb, zb = zB z i := ⟨_, rfl⟩
              have hzbn : (zb : Int) < n := by rw [hzb]; have := Hin.out.2.2.2.1; omega
              obtain ⟨tk, htk⟩ : ∃ tk, tk = treeG (EG k n z fun _ => True) i := ⟨_, rfl⟩
              have HE := Lib.hid (And.intro hzb htk)
              clear hzb htk
              go_wp2_with fail
              refine region_cw (fun w' => LKm w0 w' pf k n (EG k n z fun _ => True) tb (fun t => okE n (z t)) wo.heap.size ∧ Fr [] w5 w') (by kernel_rfl) (by kernel_rfl) ⟨H5.out.1.keep0 (Fr.refl [] w5).drew, (Fr.refl [] w5).drew⟩ ?_
              iterate 5 (refine cw_pure (by kernel_rfl) (fun KK hK => ?_); go_simp; refine hK.out _ ?_; clear hK KK)
              refine cw_val (by kernel_rfl) (.int .i64 zb) (fun w' hw' => ?_) ?_
              · obtain ⟨b', off', e, _, _, q1, _⟩ := (HZ.out.fr hw'.1.fr).2 i (by omega)
                cases e
                rw [Hin.out.2.1, ← HE.out.1] at q1
                go_simp
              iterate 1 (refine cw_pure (by kernel_rfl) (fun KK hK => ?_); go_simp; refine hK.out _ ?_; clear hK KK)
              refine cw_val (by kernel_rfl) (.bool (!tk)) (fun w' hw' => ?_) ?_
              · have q2 := (hw'.2.blk H5.out.2.1 (by simp)).cell zb
                rw [bRow_at _ (by omega), HE.out.1, HLt.out, ← HE.out.2, ← HE.out.1] at q2
                go_simp
              iterate 2 (refine cw_pure (by kernel_rfl) (fun KK hK => ?_); go_simp; refine hK.out _ ?_; clear hK KK)
              refine cw_val (by kernel_rfl) (.bool tk) (fun w' hw' => ?_) ?_
              · go_simp
                refine (LKm.tree hw'.1 (s := (i : Int)) (by omega)).mono ?_
                rintro _ w6 ⟨rfl, h1, h2⟩
                exact ⟨by rw [HE.out.2], h1, hw'.2.trans' h2⟩
              have e9 : ((!tk) == tk) = false := by cases tk <;> rfl
              iterate 1 (refine cw_pure (by kernel_rfl) (fun KK hK => ?_); go_simp; refine hK.out _ ?_; clear hK KK)
              refine cw_nil ?_
              rintro w6 ⟨h1, h2⟩
              have H6 := Lib.hid h1.lk; clear h1 h2
              go_wp2_with fail
              go_roundw
              case rel => exact ⟨i + 1, by omega, rfl, H6⟩
              case measure => simp [intOf]; omega
      · obtain rfl : i = len := by omega
        go_wp2_with fail
        refine (HWk.out _).mono ?_
        rintro _ wc ⟨rfl, hf⟩
        have HF := Lib.hid (H.out.fr.trans' hf); clear hf
        go_wp2_with fail
        go_ret
        exact ⟨rfl, HF.out.below (by simp)⟩
end Go.Proofs.Ythkkelkgfkehlaa

/- ForestUntil: the walk. -/
namespace Go.Proofs.Ythkkelkgfkehlaa
open Go.RowKit Classical
set_option maxRecDepth 10000
set_option maxHeartbeats 1600000

section
variable {S V : Nat} {z : Nat → Int × Int × Int} {P : Nat → Prop} {a b : Nat} {T : Int}
theorem eg_cx : Cx (EG S V z P) (fun _ => True) a b ↔ Cx (EG S V z fun _ => True) P a b := by
  constructor
  · intro h
    refine h.mono' fun u f _ hg => ?_
    obtain ⟨a, b, x⟩ := f
    obtain ⟨⟨h1, h2, h3⟩, rfl, rfl, rfl⟩ := eg_some.1 hg
    exact ⟨h1, eg_at ⟨trivial, h2, h3⟩⟩
  · intro h
    refine h.mono' fun u f hp hg => ?_
    obtain ⟨a, b, x⟩ := f
    obtain ⟨⟨h1, h2, h3⟩, rfl, rfl, rfl⟩ := eg_some.1 hg
    exact ⟨trivial, eg_at ⟨hp, h2, h3⟩⟩
theorem until_early (h : IsUntil (EG S V z fun _ => True) a b T) : Cx (EG S V z fun t => ¬ (z t).2.2 < T) (fun _ => True) a b :=
  eg_cx.2 (h.1.mono fun u f hu hg => by
    obtain ⟨_, _, x, h1, h2⟩ := hu
    obtain ⟨_, _, _, rfl⟩ := eg_some.1 h1
    omega)
theorem until_upto (h : IsUntil (EG S V z fun _ => True) a b T) : ¬ Cx (EG S V z fun t => ¬ (z t).2.2 ≤ T) (fun _ => True) a b := fun hc =>
  h.2 ((eg_cx.1 hc).mono fun u f hu hg => by
    obtain ⟨a, b, x⟩ := f
    obtain ⟨_, rfl, rfl, rfl⟩ := eg_some.1 hg
    exact ⟨_, _, _, hg, by omega⟩)
theorem until_some (h : IsUntil (EG S V z fun _ => True) a b T) : cntT S (fun t => okE V (z t) = true ∧ (z t).2.2 < T) < cntT S fun t => okE V (z t) = true ∧ (z t).2.2 ≤ T := by
  apply Classical.byContradiction
  intro hn
  refine until_upto h ?_
  have e : EG S V z (fun t => ¬ (z t).2.2 < T) = EG S V z (fun t => ¬ (z t).2.2 ≤ T) := by
    funext t
    unfold EG
    by_cases hp : ¬ (z t).2.2 ≤ T ∧ t < S ∧ okE V (z t) = true
    · rw [if_pos hp, if_pos ⟨by omega, hp.2⟩]
    · rw [if_neg hp]
      rw [if_neg]
      rintro ⟨h1, h2, h3⟩
      refine hn (cnt_lt_of (fun s hs => ⟨hs.1, by omega⟩) h2 ⟨h3, ?_⟩ (fun h => h1 h.2))
      apply Classical.byContradiction
      intro h4
      exact hp ⟨h4, h2, h3⟩
  rw [← e]; exact until_early h
theorem connG_iff {G : EMap} {x y : Int} (h : inV V x = true ∧ inV V y = true) : connG V G x y = decide (Cx G (fun _ => True) x.toNat y.toNat) := by
  unfold connG; rw [h.1, h.2]; rfl
/-- What Until says where it says something. -/
theorem until_true {x y : Int} (_hG : GW S V (EG S V z fun _ => True)) (hu : ∀ x y : Int, untilB V (EG S V z fun _ => True) x y = true → ∃ T, IsUntil (EG S V z fun _ => True) x.toNat y.toNat T) (h : untilB V (EG S V z fun _ => True) x y = true) :
    inV V x = true ∧ inV V y = true ∧ IsUntil (EG S V z fun _ => True) x.toNat y.toNat (untilV V (EG S V z fun _ => True) x y) := by
  obtain ⟨T, hT⟩ := hu x y h
  have e : untilV V (EG S V z fun _ => True) x y = T := by unfold untilV; rw [if_pos h]; exact untilI_eq hT
  have h' := h
  unfold untilB connG at h'
  simp only [Bool.and_eq_true] at h'
  rw [e]
  exact ⟨h'.2.1.1, h'.2.1.2, hT⟩
end

/-- Where two vertices are connected, the first edge of their path says until when. -/
theorem until_ex {G : EMap} {S V : Nat} (hG : GW S V G) {a b : Nat} (hab : a ≠ b) (h : Cx G (fun _ => True) a b) : ∃ T, IsUntil G a b T := by
  -- the latest time with which they are connected
  have key : ∀ (k : Nat) (U : Nat → Prop), cntT S U ≤ k → (∀ t, U t → ∃ e, G t = some e) → Upw G U → Cx G U a b → ∃ T, IsUntil G a b T := by
    intro k
    induction k with
    | zero =>
      intro U hk hU _ hc
      exfalso
      have h0 : ∀ s, ¬ U s := fun s hs => by obtain ⟨e, he⟩ := hU s hs; exact cnt_zero (by omega) s (hG.slot s e he) hs
      cases hc with
      | refl => exact hab rfl
      | step s x _ h1 _ => exact h0 s h1
    | succ k ih =>
      intro U hk hU hup hc
      by_cases hex : ∃ s, U s
      · obtain ⟨s, c, d, x, hs, hgs, hall⟩ := first_ex hG.slot (k + 1) U hk hU hex
        by_cases hb : Cx G (Beyond G x) a b
        · -- what is beyond x is fewer
          have hd := cntT_drop (T := U) (hG.slot s _ hgs) hs
          have hsub : ∀ t, Beyond G x t ∧ U t → U t ∧ t ≠ s := fun t ⟨⟨_, _, y, h1, h2⟩, h3⟩ => ⟨h3, by rintro rfl; rw [hgs] at h1; simp at h1; omega⟩
          refine ih (fun t => Beyond G x t ∧ U t) (by have := cnt_le_of S hsub; omega) (fun t ht => hU t ht.2) ?_ ?_
          · rintro t c' d' y u ⟨⟨_, _, y', h1, h2⟩, h3⟩ h4 h5
            refine ⟨?_, hup t c' d' y u h3 h4 h5⟩
            rw [h4] at h1; simp only [Option.some.injEq, Prod.mk.injEq] at h1
            obtain ⟨_, _, v, h6, h7⟩ := h5
            exact ⟨_, _, v, h6, by unfold bef at h7; omega⟩
          · exact hb.mono fun t f ht hg => ⟨ht, by
              obtain ⟨_, _, y, h1, h2⟩ := ht
              by_cases e : t = s
              · rw [e]; exact hs
              · exact hup s c d x t hs hgs ⟨_, _, y, h1, by unfold bef; omega⟩⟩
        · refine ⟨x, hc.mono fun t f ht hg => ?_, hb⟩
          by_cases e : t = s
          · subst e; exact ⟨_, _, _, hgs, Int.le_refl _⟩
          · obtain ⟨_, _, y, h1, h2⟩ := hall t ht e
            exact ⟨_, _, y, h1, by unfold bef at h2; omega⟩
      · exfalso
        cases hc with
        | refl => exact hab rfl
        | step s x _ h1 _ => exact hex ⟨s, h1⟩
  refine key _ (fun t => ∃ e, G t = some e) (Nat.le_refl _) (fun t h => h) (fun _ _ _ _ _ _ _ ⟨_, _, _, h, _⟩ => ⟨_, h⟩) (h.mono fun t f _ hg => ⟨f, hg⟩)
theorem until_exB {G : EMap} {S V : Nat} (hG : GW S V G) {x y : Int} (h : untilB V G x y = true) : ∃ T, IsUntil G x.toNat y.toNat T := by
  unfold untilB connG at h
  simp only [Bool.and_eq_true, decide_eq_true_eq] at h
  obtain ⟨h1, ⟨h2, h3⟩, h4⟩ := h
  obtain ⟨a, rfl, _⟩ := inV_nat h2
  obtain ⟨b, rfl, _⟩ := inV_nat h3
  exact until_ex hG (by omega) h4

/-- A forest that was made since the call began; its blocks are not told. -/
def FX (W wr : World) (pf S V : Nat) (G : EMap) : Prop := ∃ L, FO W wr pf S V G L
theorem FX.fr {W wr : World} {pf S V : Nat} {G : EMap} (h : FX W wr pf S V G) : Fr [] W wr := by obtain ⟨L, h⟩ := h; exact h.fr
theorem FX.exp {W wr : World} {pf S V : Nat} {G : EMap} (h : FX W wr pf S V G) : Calls Try.prog 18 #[fptr pf] wr fun e w' => e = .returned (.tuple #[.int .i64 ((fstG G).getD 0 : Nat), .bool (fstG G).isSome]) ∧ FX W w' pf S V (popG G) := by
  obtain ⟨L, h⟩ := h
  refine (fo_exp h).mono ?_
  rintro e w' ⟨rfl, L', h1, _⟩
  exact ⟨rfl, L', h1⟩
theorem FX.conn {W wr : World} {pf S V : Nat} {G : EMap} (h : FX W wr pf S V G) (x y : Int) : Calls Try.prog 17 #[fptr pf, .int .i64 x, .int .i64 y] wr fun e w' => e = .returned (.bool (connG V G x y)) ∧ FX W w' pf S V G := by
  obtain ⟨L, h⟩ := h
  refine (fo_conn h x y).mono ?_
  rintro e w' ⟨rfl, L', h1, _⟩
  exact ⟨rfl, L', h1⟩
end Go.Proofs.Ythkkelkgfkehlaa

/- The document's forest: Until. -/
namespace Go.Proofs.Ythkkelkgfkehlaa
open Go.RowKit Classical
set_option maxRecDepth 10000
set_option maxHeartbeats 1600000

def lT (l : List RE) (i : Nat) : Int := (l.getD i (0, 0, 0, 0)).2.2.2
def lateL (l : List RE) (t : Int) : List RE := l.filter fun e => decide (t ≤ e.2.2.2)
noncomputable def bestR (V : Nat) (l : List RE) (a b : Nat) : Nat → Int
  | 0 => -9223372036854775808
  | k + 1 => if rchL V (lateL l (lT l k)) a b && decide (bestR V l a b k < lT l k) then lT l k else bestR V l a b k
noncomputable def untilR (V : Nat) (l : List RE) (a b : Int) : Int := if (decide (a ≠ b) && connL V l a b) = true then bestR V l a.toNat b.toNat l.length else 0

theorem late_ok' {n : Nat} {l : List RE} (h : REok n l) (t : Int) : REok n (lateL l t) := fun x hx => h x (List.mem_filter.1 hx).1
theorem bestR_eq {S V : Nat} {G : EMap} {l : List RE} (hG : GW S V G) (hok : REok V l) (h : Reps G l) {a b : Nat} (ha : a < V) {T : Int} (hT : IsUntil G a b T) : bestR V l a b l.length = T := by
  have hr : ∀ i, i < l.length → (rchL V (lateL l (lT l i)) a b = true ↔ lT l i ≤ T) := by
    intro i hi
    rw [rchL_iff (late_ok' hok _) ha b, cx_sub (AtLeast G (lT l i)) (G := G) (fun s c d y => by
      unfold lateL
      rw [List.mem_filter, ← h.iff]
      refine and_congr_right fun hs => ?_
      rw [decide_eq_true_iff]
      constructor
      · rintro ⟨_, _, y', e1, e2⟩
        rw [hs] at e1; simp only [Option.some.injEq, Prod.mk.injEq] at e1
        obtain ⟨_, _, rfl⟩ := e1
        exact e2
      · intro e2; exact ⟨c, d, y, hs, e2⟩)]
    constructor
    · intro hc
      apply Classical.byContradiction
      intro hn
      exact hT.2 (hc.mono fun t _ ⟨c, d, x, h1, h2⟩ _ => ⟨c, d, x, h1, by omega⟩)
    · intro hle
      exact hT.1.mono fun t _ ⟨c, d, x, h1, h2⟩ _ => ⟨c, d, x, h1, by omega⟩
  have hex : ∃ i, i < l.length ∧ lT l i = T := by
    apply Classical.byContradiction
    intro hn
    refine hT.2 (hT.1.mono fun t f ⟨c, d, x, h1, h2⟩ _ => ⟨c, d, x, h1, ?_⟩)
    obtain ⟨i, hi, he⟩ := List.mem_iff_getElem.1 ((h.iff _ _ _ _).1 h1)
    have : lT l i ≠ T := fun e => hn ⟨i, hi, e⟩
    have e2 : lT l i = x := by simp [lT, hi, he]
    omega
  have hlow : -9223372036854775808 ≤ T := by
    obtain ⟨i, hi, e⟩ := hex
    have hm : l[i] ∈ l := List.getElem_mem hi
    have := hG.rng l[i].1 l[i].2.1 l[i].2.2.1 l[i].2.2.2 ((h.iff _ _ _ _).2 hm)
    have e2 : lT l i = l[i].2.2.2 := by simp [lT, hi]
    omega
  have key : ∀ k, k ≤ l.length → bestR V l a b k ≤ T ∧ ∀ i, i < k → lT l i ≤ T → lT l i ≤ bestR V l a b k := by
    intro k
    induction k with
    | zero => intro _; exact ⟨hlow, fun i hi => absurd hi (Nat.not_lt_zero _)⟩
    | succ k ih =>
      intro hk
      obtain ⟨h1, h2⟩ := ih (by omega)
      have hrk := hr k (by omega)
      unfold bestR
      by_cases hc : (rchL V (lateL l (lT l k)) a b && decide (bestR V l a b k < lT l k)) = true
      · rw [if_pos hc]
        simp only [Bool.and_eq_true, decide_eq_true_eq] at hc
        refine ⟨hrk.1 hc.1, fun i hi hle => ?_⟩
        by_cases e : i = k
        · rw [e]; exact Int.le_refl _
        · have := h2 i (by omega) hle; omega
      · rw [if_neg hc]
        simp only [Bool.and_eq_true, decide_eq_true_eq, not_and] at hc
        refine ⟨h1, fun i hi hle => ?_⟩
        by_cases e : i = k
        · subst e
          have := hc (hrk.2 hle)
          omega
        · exact h2 i (by omega) hle
  obtain ⟨i, hi, e⟩ := hex
  have h1 := (key l.length (Nat.le_refl _)).1
  have h2 := (key l.length (Nat.le_refl _)).2 i hi (by omega)
  omega
theorem untilR_eq {S V : Nat} {G : EMap} {l : List RE} (hG : GW S V G) (hok : REok V l) (h : Reps G l) (a b : Int) : untilR V l a b = untilV V G a b ∧ (decide (a ≠ b) && connL V l a b) = untilB V G a b := by
  have e : (decide (a ≠ b) && connL V l a b) = untilB V G a b := by unfold untilB; rw [connL_eq hok h]
  refine ⟨?_, e⟩
  unfold untilR untilV
  rw [e]
  by_cases hu : untilB V G a b = true
  · rw [if_pos hu, if_pos hu]
    obtain ⟨T, hT⟩ := until_exB hG hu
    rw [untilI_eq hT]
    have hu' := hu
    unfold untilB connG at hu'
    simp only [Bool.and_eq_true] at hu'
    obtain ⟨x, rfl, hx⟩ := inV_nat hu'.2.1.1
    exact bestR_eq hG hok h (by rw [Int.toNat_natCast]; exact hx) hT
  · rw [if_neg hu, if_neg hu]
end Go.Proofs.Ythkkelkgfkehlaa

/- The document's forest: Until, the walk. -/
namespace Go.Proofs.Ythkkelkgfkehlaa
open Go.RowKit Classical
set_option maxRecDepth 10000
set_option maxHeartbeats 1600000

section
variable {w w' : World} {pr V S : Nat} {v : Value} {l : List RE}
theorem runtil (h : RA w pr V S v l) (a b : Int) : Calls Try.prog 40 #[fptr pr, .int .i64 a, .int .i64 b] w fun e w' => e = .returned (.tuple #[.int .i64 (untilR V l a b), .bool (decide (a ≠ b) && connL V l a b)]) ∧ Fr [] w w' := by
  have hV := h.leV
  have hS := h.leS
  have hl := h.len
  by_cases hab : a = b
  · have e1 : (decide (a ≠ b) && connL V l a b) = false := by simp [hab]
    have e2 : untilR V l a b = 0 := by unfold untilR; rw [e1]; rfl
    rw [e1, e2]
    subst hab
    clear h e1 e2
    go_enter Try.func40, Try.ntmps40
    go_wp2_with fail
    go_ret2
    exact ⟨rfl, Fr.refl _ _⟩
  · have d1 : (a == b) = false := by simp [hab]
    have HC := rconn h a b
    cases hc : connL V l a b with
    | false =>
      have e2 : untilR V l a b = 0 := by unfold untilR; rw [hc]; simp
      rw [hc] at HC
      rw [e2, show (decide (a ≠ b) && false) = false by simp]
      have HC := Lib.hid HC
      clear h e2 hc hab
      go_enter Try.func40, Try.ntmps40
      go_wp2_with fail
      refine HC.out.mono ?_
      rintro _ w1 ⟨rfl, hf⟩
      have HF := Lib.hid hf; clear hf
      go_wp2_with fail
      go_ret2
      exact ⟨rfl, HF.out⟩
    | true =>
      rw [hc] at HC
      obtain ⟨a, rfl, ha⟩ := inV_nat (show inV V a = true by unfold connL at hc; simp only [Bool.and_eq_true] at hc; exact hc.1.1)
      obtain ⟨b, rfl, hb⟩ := inV_nat (show inV V b = true by unfold connL at hc; simp only [Bool.and_eq_true] at hc; exact hc.1.2)
      have e2 : untilR V l a b = bestR V l a b l.length := by unfold untilR; rw [hc, if_pos (by simp [hab]), Int.toNat_natCast, Int.toNat_natCast]
      obtain ⟨ur, hur⟩ : ∃ ur, ur = untilR V l a b := ⟨_, rfl⟩
      rw [← hur, show (decide ((a : Int) ≠ b) && true) = true by simp [hab]]
      have HE := Lib.hid (hur.trans e2)
      have HC := Lib.hid HC
      have hbV : (b : Int) < V := by omega
      obtain ⟨av, cv, rfl⟩ := h.row.slice
      have H := Lib.hid h
      have hlS : l.length ≤ 16384 := Nat.le_trans hl hS
      clear h e2 hc hab hur
      go_enter Try.func40, Try.ntmps40
      go_wp2_with fail
      refine HC.out.mono ?_
      rintro _ w1 ⟨rfl, hf⟩
      have HF1 := Lib.hid hf; clear hf HC
      go_wp2_with fail
      go_loopw [8, 9] (fun x y wr => ∃ k : Nat, k ≤ l.length ∧ y = .int .i64 k ∧ x = .int .i64 (bestR V l a b k) ∧ Hid (Fr [] w wr)) (fun _ y _ => l.length - (intOf y).toNat)
      case atStart => exact ⟨0, Nat.zero_le _, rfl, rfl, HF1⟩
      case round =>
        clear HF1
        obtain ⟨k, hk, rfl, rfl, HF⟩ := hrel
        have hRA := H.out.fr0 HF.out
        have c3 := hRA.hd.cell 3
        simp only [List.getElem?_cons_zero, List.getElem?_cons_succ] at c3
        by_cases hlt : k < l.length
        · have hlt' : (k : Int) < l.length := by omega
          have hw1 : IntKind.i64.wrap ((k : Int) + 1) = ((k + 1 : Nat) : Int) := by rw [show (k : Int) + 1 = ((k + 1 : Nat) : Int) by omega]; exact IntWalk.i64_in _ (by omega)
          obtain ⟨bb, cap, ev, hbb, _, _, _, q3⟩ := hRA.row.at hlt
          simp only [Value.slice.injEq, true_and] at ev
          obtain ⟨rfl, rfl⟩ := ev
          rw [show l[k].2.2.2 = lT l k by simp [lT, hlt]] at q3
          have hbs : bestR V l a b (k + 1) = if rchL V (lateL l (lT l k)) a b && decide (bestR V l a b k < lT l k) then lT l k else bestR V l a b k := rfl
          have HBS := Lib.hid hbs; clear hbs
          generalize hbe : bestR V l a b (k + 1) = bn at *
          have HBE := Lib.hid hbe; clear hbe
          generalize bestR V l a b k = bo at *
          generalize lT l k = t at *
          clear hRA
          rename World => wo
          go_wp2_with fail
          go_loopw [11, 12] (fun u y wr => ∃ j : Nat, j ≤ l.length ∧ y = .int .i64 j ∧ Hid (Fr [] wo wr ∧ ∀ q, u.ownBlock = some q → wo.heap.size ≤ q) ∧ RowE wr u (lateL (l.take j) t)) (fun _ y _ => l.length - (intOf y).toNat)
          case atStart => exact ⟨0, Nat.zero_le _, rfl, Lib.hid ⟨Fr.refl _ _, fun q e => by cases e⟩, ⟨rfl, .inl ⟨rfl, rfl⟩⟩⟩
          case round =>
            obtain ⟨j, hj, rfl, HK, hown⟩ := hrel
            have hfl : (lateL (l.take j) t).length ≤ (l.take j).length := List.length_filter_le _ _
            have htk := List.length_take_le j l
            have hRA := H.out.fr0 (HF.out.trans' HK.out.1)
            have c3 := hRA.hd.cell 3
            have c1 := hRA.hd.cell 1
            simp only [List.getElem?_cons_zero, List.getElem?_cons_succ] at c1 c3
            by_cases hlt : j < l.length
            · have hlt2 : (j : Int) < l.length := by omega
              have hw2 : IntKind.i64.wrap ((j : Int) + 1) = ((j + 1 : Nat) : Int) := by rw [show (j : Int) + 1 = ((j + 1 : Nat) : Int) by omega]; exact IntWalk.i64_in _ (by omega)
              obtain ⟨a8, c8, rfl⟩ := hown.slice
              obtain ⟨b', cap, ev, hb', p0, p1, p2, p3⟩ := hRA.row.at hlt
              simp only [Value.slice.injEq, Option.some.injEq, Addr.mk.injEq, and_true, true_and] at ev
              obtain ⟨rfl, rfl⟩ := ev
              have hst : lateL (l.take (j + 1)) t = lateL (l.take j) t ++ if t ≤ l[j].2.2.2 then [l[j]] else [] := by
                unfold lateL
                rw [List.take_add_one, List.getElem?_eq_getElem hlt, List.filter_append]
                congr 1
                by_cases e' : t ≤ l[j].2.2.2 <;> simp [e']
              obtain ⟨e', he'⟩ : ∃ e', e' = l[j] := ⟨_, rfl⟩
              rw [← he'] at hst p0 p1 p2 p3
              have HO := Lib.hid hown
              clear hown he' hRA
              by_cases hte : t ≤ e'.2.2.2
              · rw [if_pos hte] at hst
                have HST := Lib.hid hst; clear hst
                generalize lateL (l.take j) t = us at *
                have HBn := Lib.hid (Blk.new wr (reC e') 102)
                have HO6 := Lib.hid (HO.out.fr ((Fr.refl [] wr).alloc (.cells (reC e').toArray 102)) (by simp))
                clear HO
                go_wp2_with (first | (at_builtin; refine wpList_appE rfl _ _ rfl (.slice a8 us.length c8) us rfl HO6.out wr.heap.size e' rfl HBn.out (by omega) ?_; intro g' cap' w6 hown6 hgrow6 hg6; have hF6 : Fr (Value.slice a8 us.length c8).ownBlock.toList wr w6 := ((Fr.refl _ _).alloc _).grown hgrow6 (fun q e => .inl (by simp [e]))) | fail)
                go_roundw
                case rel =>
                  have hb : ∀ q ∈ (Value.slice a8 us.length c8).ownBlock.toList, wo.heap.size ≤ q := fun q hq => HK.out.2 q (by simpa using hq)
                  have hs1 := HK.out.1.size
                  refine ⟨j + 1, by omega, rfl, Lib.hid ⟨HK.out.1.trans hF6 (fun q hq => .inr (hb q hq)), fun q e => ?_⟩, ?_⟩
                  · simp only [Value.ownBlock, Option.some.injEq] at e
                    subst e
                    simp only [World.size_alloc] at hg6
                    rcases hg6 with e | e
                    · exact HK.out.2 _ e
                    · omega
                  · rw [HST.out]; exact hown6
                case measure => simp [intOf]; omega
              · rw [if_neg hte, List.append_nil] at hst
                have HST := Lib.hid hst; clear hst
                go_wp2_with fail
                go_roundw
                case rel => exact ⟨j + 1, by omega, rfl, HK, by rw [HST.out]; exact HO.out⟩
                case measure => simp [intOf]; omega
            · obtain rfl : j = l.length := by omega
              rw [List.take_of_length_le (Nat.le_refl _)] at hown
              rw [List.take_of_length_le (Nat.le_refl _)] at *
              have hll : (lateL l t).length ≤ l.length := List.length_filter_le _ _
              have HQ := Lib.hid (reached_r hown V hV (by omega) (late_ok' H.out.ok t) a ha)
              clear hown hRA
              go_wp2_with fail
              refine HQ.out.mono ?_
              rintro _ w6 ⟨sb, rfl, hB, _, hf⟩
              have t0 := hB.cell b
              rw [bRow_at _ (by omega)] at t0
              have HF6 := Lib.hid ((HF.out.trans' HK.out.1).trans' hf)
              clear hB hf HQ c1 c3
              cases hrb : rchL V (lateL l t) a b with
              | false =>
                rw [hrb] at t0
                have HBn := Lib.hid (show bn = bo by rw [HBS.out, hrb]; rfl)
                clear hrb
                go_wp2_with fail
                go_roundw
                case rel => exact ⟨k + 1, by omega, rfl, by rw [HBE.out, HBn.out], HF6⟩
                case measure => simp [intOf]; omega
              | true =>
                rw [hrb] at t0
                by_cases hlt3 : bo < t
                · have HBn := Lib.hid (show bn = t by rw [HBS.out, hrb, decide_eq_true hlt3]; rfl)
                  clear hrb
                  go_wp2_with fail
                  go_roundw
                  case rel => exact ⟨k + 1, by omega, rfl, by rw [HBE.out, HBn.out], HF6⟩
                  case measure => simp [intOf]; omega
                · have HBn := Lib.hid (show bn = bo by rw [HBS.out, hrb, decide_eq_false hlt3]; rfl)
                  have d2 : decide (bo < t) = false := decide_eq_false hlt3
                  clear hrb
                  go_wp2_with fail
                  go_roundw
                  case rel => exact ⟨k + 1, by omega, rfl, by rw [HBE.out, HBn.out], HF6⟩
                  case measure => simp [intOf]; omega
        · obtain rfl : k = l.length := by omega
          rw [← HE.out]
          clear hRA
          go_wp2_with fail
          go_ret2
          exact ⟨rfl, HF.out⟩
end
end Go.Proofs.Ythkkelkgfkehlaa

/- ForestNil: the walk. -/
namespace Go.Proofs.Ythkkelkgfkehlaa
open Go.RowKit
set_option maxRecDepth 10000
set_option maxHeartbeats 800000

@[go_sem] theorem eq_for_nil (a : Addr) (w : World) : (binOp .eql 25 (.pointer none) (.pointer (some a))).run Try.prog w = .ok (.bool false) w := by
  have h : ∀ d : Nat, (Op.equalIn (d + 1) 25 (.pointer none) (.pointer (some a))).run Try.prog w = .ok false w := fun d => by
    simp [Op.equalIn, run_underlying Try.underlying25]
  simp only [binOp]
  simp [Op.equal, Op.maxDepth, h 9999]

/-- A nil forest, or one that was not made by New. -/
def BadF (w : World) (q : Option Addr) : Prop := q = none ∨ ∃ p, q = some ⟨p, 0, none⟩ ∧ p < w.heap.size ∧ w.cell? ⟨p, 4, none⟩ = some (.map none)
theorem BadF.fr {w w' : World} {q : Option Addr} (h : BadF w q) (hf : Below w.heap.size w w') : BadF w' q := by
  rcases h with h | ⟨p, h1, h2, h3⟩
  · exact .inl h
  · exact .inr ⟨p, h1, Nat.lt_of_lt_of_le h2 hf.size, (hf.cell (p := ⟨p, 4, none⟩) h2).trans h3⟩

section
variable {w : World} {q : Option Addr} (h : BadF w q)
include h
theorem bad_valid : Calls Try.prog 29 #[.pointer q] w fun e w' => e = .returned (.bool false) ∧ w' = w := by
  rcases h with rfl | ⟨pt, rfl, _, hc⟩
  · go_enter Try.func29, Try.ntmps29
    go_wp2
    go_ret
    exact ⟨rfl, rfl⟩
  · go_enter Try.func29, Try.ntmps29
    go_wp2
    go_ret
    exact ⟨rfl, rfl⟩
theorem bad_has (a : Int) : Calls Try.prog 30 #[.pointer q, .int .i64 a] w fun e w' => e = .returned (.bool false) ∧ w' = w := by
  have H := Lib.hid (bad_valid h); clear h
  go_enter Try.func30, Try.ntmps30
  go_wp2_with (go_at_call 29; refine H.out.mono ?_; rintro e w' ⟨rfl, rfl⟩)
  go_ret
  exact ⟨rfl, rfl⟩
theorem bad_exp : Calls Try.prog 18 #[.pointer q] w fun e w' => e = .returned (.tuple #[.int .i64 0, .bool false]) ∧ w' = w := by
  have H := Lib.hid (bad_valid h); clear h
  go_enter Try.func18, Try.ntmps18
  go_wp2_with (go_at_call 29; refine H.out.mono ?_; rintro e w' ⟨rfl, rfl⟩)
  go_ret2
  exact ⟨rfl, rfl⟩
theorem bad_until (a b : Int) : Calls Try.prog 16 #[.pointer q, .int .i64 a, .int .i64 b] w fun e w' => e = .returned (.tuple #[.int .i64 0, .bool false]) ∧ w' = w := by
  have H := Lib.hid (bad_has h a); clear h
  go_enter Try.func16, Try.ntmps16
  go_wp2_with (go_at_call 30; refine H.out.mono ?_; rintro e w' ⟨rfl, rfl⟩)
  go_ret2
  exact ⟨rfl, rfl⟩
theorem bad_add (s a b x : Int) : Calls Try.prog 28 #[.pointer q, .int .i64 s, .int .i64 a, .int .i64 b, .int .i64 x] w fun e w' => e = .returned (.int .i64 1) ∧ w' = w := by
  have H := Lib.hid (bad_valid h); clear h
  go_enter Try.func28, Try.ntmps28
  go_wp2_with (go_at_call 29; refine H.out.mono ?_; rintro e w' ⟨rfl, rfl⟩)
  go_ret
  exact ⟨rfl, rfl⟩
theorem bad_size (a : Int) : Calls Try.prog 22 #[.pointer q, .int .i64 a] w fun e w' => e = .returned (.int .i64 0) ∧ w' = w := by
  have H := Lib.hid (bad_has h a); clear h
  go_enter Try.func22, Try.ntmps22
  go_wp2_with (go_at_call 30; refine H.out.mono ?_; rintro e w' ⟨rfl, rfl⟩)
  go_ret
  exact ⟨rfl, rfl⟩
theorem bad_conn (a b : Int) : Calls Try.prog 17 #[.pointer q, .int .i64 a, .int .i64 b] w fun e w' => e = .returned (.bool false) ∧ Below w.heap.size w w' := by
  have HH := Lib.hid (fun (w' : World) (hb : Below w.heap.size w w') => bad_has (h.fr hb) a); clear h
  go_enter Try.func17, Try.ntmps17
  go_wp2_with fail
  refine region_cw (fun w' => Below w.heap.size w w') (by kernel_rfl) (by kernel_rfl) (Fr.below ((Fr.refl [] w).drew) (by simp)) ?_
  iterate 2 (refine cw_pure (by kernel_rfl) (fun KK hK => ?_); go_simp; refine hK.out _ ?_; clear hK KK)
  refine cw_val (by kernel_rfl) (.bool false) (fun w' hw' => ?_) ?_
  · go_simp
    refine (HH.out _ hw').mono ?_
    rintro _ w2 ⟨rfl, rfl⟩
    exact ⟨rfl, hw'⟩
  (refine cw_pure (by kernel_rfl) (fun KK hK => ?_); go_simp; refine hK.out _ ?_; clear hK KK)
  iterate 3 (refine cw_skip (by kernel_rfl) ?_; go_frame)
  iterate 2 (refine cw_pure (by kernel_rfl) (fun KK hK => ?_); go_simp; refine hK.out _ ?_; clear hK KK)
  iterate 18 (refine cw_skip (by kernel_rfl) ?_; go_frame)
  iterate 2 (refine cw_pure (by kernel_rfl) (fun KK hK => ?_); go_simp; refine hK.out _ ?_; clear hK KK)
  refine cw_nil ?_
  intro w2 h2
  have H2 := Lib.hid h2; clear h2
  go_wp2
  go_ret
  exact ⟨rfl, H2.out⟩
theorem bad_count : Calls Try.prog 21 #[.pointer q] w fun e w' => e = .returned (.int .i64 0) ∧ w' = w := by
  have H := Lib.hid (bad_valid h); clear h
  go_enter Try.func21, Try.ntmps21
  go_wp2_with (go_at_call 29; refine H.out.mono ?_; rintro e w' ⟨rfl, rfl⟩)
  go_ret
  exact ⟨rfl, rfl⟩
theorem bad_tree (s : Int) : Calls Try.prog 14 #[.pointer q, .int .i64 s] w fun e w' => e = .returned (.bool false) ∧ w' = w := by
  have H := Lib.hid (bad_valid h); clear h
  go_enter Try.func14, Try.ntmps14
  go_wp2_with (go_at_call 29; refine H.out.mono ?_; rintro e w' ⟨rfl, rfl⟩)
  go_ret
  exact ⟨rfl, rfl⟩
theorem bad_edges : Calls Try.prog 20 #[.pointer q] w fun e w' => e = .returned (.slice none 0 0) ∧ w' = w := by
  have H := Lib.hid (bad_valid h); clear h
  go_enter Try.func20, Try.ntmps20
  go_wp2_with (go_at_call 29; refine H.out.mono ?_; rintro e w' ⟨rfl, rfl⟩)
  go_ret
  exact ⟨rfl, rfl⟩
theorem bad_len : Calls Try.prog 25 #[.pointer q] w fun e w' => e = .returned (.int .i64 0) ∧ w' = w := by
  have H := Lib.hid (bad_valid h); clear h
  go_enter Try.func25, Try.ntmps25
  go_wp2_with (go_at_call 29; refine H.out.mono ?_; rintro e w' ⟨rfl, rfl⟩)
  go_ret
  exact ⟨rfl, rfl⟩
theorem bad_copy : Calls Try.prog 27 #[.pointer q] w fun e w' => e = .returned (.pointer none) ∧ w' = w := by
  have H := Lib.hid (bad_valid h); clear h
  go_enter Try.func27, Try.ntmps27
  go_wp2_with (go_at_call 29; refine H.out.mono ?_; rintro e w' ⟨rfl, rfl⟩)
  go_ret
  exact ⟨rfl, rfl⟩
end

theorem walk_forestNil (w : World) (s : Int) (_ws : (Lit.int .i64 s).wf = true) (a : Int) (_wa : (Lit.int .i64 a).wf = true) (b : Int) (_wb : (Lit.int .i64 b).wf = true) (k : Int) (_wk : (Lit.int .i64 k).wf = true) :
    Calls Try.prog 10 #[.int .i64 s, .int .i64 a, .int .i64 b, .int .i64 k] w fun e w' => e = .returned (.bool true) ∧ Below w.heap.size w w' := by
  clear _ws _wa _wb _wk
  go_enter Try.func10, Try.ntmps10
  go_wp2
  obtain ⟨W, hW⟩ : ∃ W, (w.alloc (.cells #[.int .i64 0, .int .i64 0, .pointer none, .pointer none, .map none, .int .i64 0] 60)).alloc (.cells #[.pointer none, .pointer (some ⟨w.heap.size, 0, none⟩)] 25) = W := ⟨_, rfl⟩
  have e1 : Blk W w.heap.size 60 [.int .i64 0, .int .i64 0, .pointer none, .pointer none, .map none, .int .i64 0] := by subst hW; exact (Blk.new w _ _).alloc _
  have e2 : Blk W (w.heap.size + 1) 25 [.pointer none, .pointer (some ⟨w.heap.size, 0, none⟩)] := by
    subst hW
    have := Blk.new (w.alloc (.cells #[.int .i64 0, .int .i64 0, .pointer none, .pointer none, .map none, .int .i64 0] 60)) [.pointer none, .pointer (some ⟨w.heap.size, 0, none⟩)] 25
    rw [World.size_alloc] at this; exact this
  have hB : Below w.heap.size w W := by subst hW; exact ((Below.refl _ w).alloc (Nat.le_refl _) _).alloc (by simp) _
  rw [hW]
  clear hW
  have c0 : W.cell? ⟨w.heap.size + 1, 0, none⟩ = some (.pointer none) := e2.cell 0
  have c1 : W.cell? ⟨w.heap.size + 1, 1, none⟩ = some (.pointer (some ⟨w.heap.size, 0, none⟩)) := e2.cell 1
  have cz : W.cell? ⟨w.heap.size, 4, none⟩ = some (.map none) := e1.cell 4
  have l1 := e1.lt
  have l2 := e2.lt
  have HC := Lib.hid (And.intro (And.intro c0 c1) cz); clear c0 c1 cz e1 e2
  go_loopw [11] (fun x wr => ∃ j : Nat, j ≤ 2 ∧ x = .int .i64 j ∧ Below W.heap.size W wr) (fun x _ => 2 - (intOf x).toNat)
  case atStart => exact ⟨0, by omega, rfl, Below.refl _ _⟩
  case round =>
    obtain ⟨j, hj, rfl, hBr⟩ := hrel
    by_cases hlt : j < 2
    · obtain ⟨q, hv, hbt⟩ : ∃ q, wr.cell? ⟨w.heap.size + 1, j, none⟩ = some (.pointer q) ∧ BadF wr q := by
        rcases (show j = 0 ∨ j = 1 by omega) with rfl | rfl
        · exact ⟨_, (hBr.cell (p := ⟨w.heap.size + 1, 0, none⟩) l2).trans HC.out.1.1, .inl rfl⟩
        · exact ⟨_, (hBr.cell (p := ⟨w.heap.size + 1, 1, none⟩) l2).trans HC.out.1.2, .inr ⟨_, rfl, Nat.lt_of_lt_of_le l1 hBr.size, (hBr.cell (p := ⟨w.heap.size, 4, none⟩) l1).trans HC.out.2⟩⟩
      have HB := Lib.hid hbt; clear hbt
      have hj2 : (j : Int) < 2 := by omega
      have HBr := Lib.hid hBr; clear hBr
      go_wp2_with (first | (go_at_call 18; refine (bad_exp HB.out).mono ?_; rintro e w' ⟨rfl, rfl⟩) | (go_at_call 16; refine (bad_until HB.out a b).mono ?_; rintro e w' ⟨rfl, rfl⟩) | (go_at_call 28; refine (bad_add HB.out s a b k).mono ?_; rintro e w' ⟨rfl, rfl⟩) | fail)
      refine (bad_conn HB.out a b).mono ?_
      rintro _ w2 ⟨rfl, b2⟩
      have H2 := Lib.hid (HB.out.fr b2)
      have H2B := Lib.hid (HBr.out.trans (b2.mono HBr.out.size))
      clear HB HBr b2 hv
      go_wp2_with (first | (go_at_call 22; refine (bad_size H2.out a).mono ?_; rintro e w' ⟨rfl, rfl⟩) | (go_at_call 21; refine (bad_count H2.out).mono ?_; rintro e w' ⟨rfl, rfl⟩) | (go_at_call 14; refine (bad_tree H2.out s).mono ?_; rintro e w' ⟨rfl, rfl⟩) | (go_at_call 20; refine (bad_edges H2.out).mono ?_; rintro e w' ⟨rfl, rfl⟩) | (go_at_call 25; refine (bad_len H2.out).mono ?_; rintro e w' ⟨rfl, rfl⟩) | (go_at_call 27; refine (bad_copy H2.out).mono ?_; rintro e w' ⟨rfl, rfl⟩))
      go_roundw
      case rel => exact ⟨j + 1, by omega, by go_num, H2B.out⟩
      case measure => simp [intOf]; omega
    · have HBr := Lib.hid hBr; clear hBr
      go_wp2_with fail
      refine (works_w _).mono ?_
      rintro _ w3 ⟨rfl, hf⟩
      have hB3 := Lib.hid (hf.below (by simp)); clear hf
      go_wp2
      go_ret
      exact ⟨rfl, hB.trans ((HBr.out.trans (hB3.out.mono HBr.out.size)).mono hB.size)⟩
end Go.Proofs.Ythkkelkgfkehlaa

namespace Go.Proofs.Ythkkelkgfkehlaa
open Go.RowKit Classical
set_option maxRecDepth 10000
set_option maxHeartbeats 1600000

/-- Both, with the same edges. -/
def BF (W wr : World) (pf pr S V : Nat) (G : EMap) (v : Value) (l : List RE) : Prop :=
  ∃ L, FO W wr pf S V G L ∧ RA wr pr V S v l ∧ Reps G l ∧ pr ∉ L ∧ (∀ q, v.ownBlock = some q → q ∉ L) ∧ W.heap.size ≤ pr ∧ ∀ q, v.ownBlock = some q → W.heap.size ≤ q
section
variable {W wr w' : World} {pf pr S V : Nat} {G G' : EMap} {v : Value} {l : List RE}
theorem BF.keep (h : BF W wr pf pr S V G v l) (hf : Fr [] wr w') : BF W w' pf pr S V G v l := by
  obtain ⟨L, h1, h2, h3⟩ := h
  exact ⟨L, h1.keep0 hf, h2.fr0 hf, h3⟩
theorem BF.fr (h : BF W wr pf pr S V G v l) : Fr [] W wr := by obtain ⟨L, h1, _⟩ := h; exact h1.fr
theorem BF.moved {L : List Nat} (h1 : FO W wr pf S V G L) (h2 : RA wr pr V S v l) (h3 : Reps G l) (h4 : pr ∉ L) (h5 : ∀ q, v.ownBlock = some q → q ∉ L) (h6 : W.heap.size ≤ pr) (h7 : ∀ q, v.ownBlock = some q → W.heap.size ≤ q) (hm : FM W wr w' pf S V G L) : BF W w' pf pr S V G v l := by
  obtain ⟨L', m1, m2, m3⟩ := hm
  refine ⟨L', m1, h2.fr m2 h4 h5, h3, fun e => (m3 _ e).elim h4 (fun e => by have := h2.hd.lt; omega), fun q hq e => (m3 _ e).elim (h5 q hq) (fun e => by have := ownsRow_lt h2.row hq; omega), h6, h7⟩
theorem BF.until (h : BF W wr pf pr S V G v l) (a b : Int) : Calls Try.prog 16 #[fptr pf, .int .i64 a, .int .i64 b] wr fun e w' => e = .returned (.tuple #[.int .i64 (untilV V G a b), .bool (untilB V G a b)]) ∧ BF W w' pf pr S V G v l := by
  obtain ⟨L, h1, h2, h3, h4, h5, h6, h7⟩ := h
  refine (fo_until h1 a b).mono ?_
  rintro e w' ⟨rfl, hm⟩
  exact ⟨rfl, BF.moved h1 h2 h3 h4 h5 h6 h7 hm⟩
theorem BF.conn (h : BF W wr pf pr S V G v l) (a b : Int) : Calls Try.prog 17 #[fptr pf, .int .i64 a, .int .i64 b] wr fun e w' => e = .returned (.bool (connG V G a b)) ∧ BF W w' pf pr S V G v l := by
  obtain ⟨L, h1, h2, h3, h4, h5, h6, h7⟩ := h
  refine (fo_conn h1 a b).mono ?_
  rintro e w' ⟨rfl, hm⟩
  exact ⟨rfl, BF.moved h1 h2 h3 h4 h5 h6 h7 hm⟩
theorem BF.size (h : BF W wr pf pr S V G v l) (a : Int) : Calls Try.prog 22 #[fptr pf, .int .i64 a] wr fun e w' => e = .returned (.int .i64 (sizeG V G a)) ∧ BF W w' pf pr S V G v l := by
  obtain ⟨L, h1, h2, h3, h4, h5, h6, h7⟩ := h
  refine (fo_size h1 a).mono ?_
  rintro e w' ⟨rfl, hm⟩
  exact ⟨rfl, BF.moved h1 h2 h3 h4 h5 h6 h7 hm⟩
theorem BF.count (h : BF W wr pf pr S V G v l) : Calls Try.prog 21 #[fptr pf] wr fun e w' => e = .returned (.int .i64 (compG V G)) ∧ BF W w' pf pr S V G v l := by
  obtain ⟨L, h1, h2⟩ := id h
  refine (fo_count h1).mono ?_
  rintro e w' ⟨rfl, _, hf⟩
  exact ⟨rfl, h.keep hf⟩
theorem BF.len (h : BF W wr pf pr S V G v l) : Calls Try.prog 25 #[fptr pf] wr fun e w' => e = .returned (.int .i64 (lenG S G)) ∧ BF W w' pf pr S V G v l := by
  obtain ⟨L, h1, h2⟩ := id h
  refine (fo_len h1).mono ?_
  rintro e w' ⟨rfl, _, hf⟩
  exact ⟨rfl, h.keep hf⟩
theorem BF.tree (h : BF W wr pf pr S V G v l) {s : Int} (hs : -9223372036854775808 ≤ s ∧ s ≤ 9223372036854775807) : Calls Try.prog 14 #[fptr pf, .int .i64 s] wr fun e w' => e = .returned (.bool (treeG G s)) ∧ BF W w' pf pr S V G v l := by
  obtain ⟨L, h1, h2⟩ := id h
  refine (fo_tree h1 hs).mono ?_
  rintro e w' ⟨rfl, _, hf⟩
  exact ⟨rfl, h.keep hf⟩
theorem len_reps {S : Nat} {G : EMap} {l : List RE} (hS : ∀ s e, G s = some e → s < S) (h : Reps G l) : lenG S G = l.length := by
  unfold lenG cntT
  have hp : ((List.range S).filter fun s => decide ((G s).isSome = true)).Perm (l.map fun e => e.1) := by
    refine (List.perm_ext_iff_of_nodup (List.nodup_range.filter _) h.one).2 fun s => ?_
    simp only [List.mem_filter, List.mem_range, decide_eq_true_eq, List.mem_map]
    constructor
    · rintro ⟨_, hs⟩
      obtain ⟨⟨a, b, x⟩, he⟩ := Option.isSome_iff_exists.1 hs
      exact ⟨_, (h.iff s a b x).1 he, rfl⟩
    · rintro ⟨⟨t, a, b, x⟩, hm, rfl⟩
      have := (h.iff t a b x).2 hm
      exact ⟨hS _ _ this, by rw [this]; rfl⟩
  have h2 := hp.length_eq
  rw [List.length_map] at h2
  rw [← h2]
  congr 1
  exact List.filter_congr fun s _ => decide_eq_decide.2 Iff.rfl
-- the document's side, in the words of the forest
theorem BF.until' (h : BF W wr pf pr S V G v l) (a b : Int) : Calls Try.prog 40 #[fptr pr, .int .i64 a, .int .i64 b] wr fun e w' => e = .returned (.tuple #[.int .i64 (untilV V G a b), .bool (untilB V G a b)]) ∧ BF W w' pf pr S V G v l := by
  obtain ⟨L, h1, h2, h3, _⟩ := id h
  have e := untilR_eq h1.f.gw.1 h2.ok h3 a b
  refine (runtil h2 a b).mono ?_
  rintro _ w' ⟨rfl, hf⟩
  exact ⟨by rw [e.1, e.2], h.keep hf⟩
theorem BF.conn' (h : BF W wr pf pr S V G v l) (a b : Int) : Calls Try.prog 41 #[fptr pr, .int .i64 a, .int .i64 b] wr fun e w' => e = .returned (.bool (connG V G a b)) ∧ BF W w' pf pr S V G v l := by
  obtain ⟨L, h1, h2, h3, _⟩ := id h
  refine (rconn h2 a b).mono ?_
  rintro _ w' ⟨rfl, hf⟩
  exact ⟨by rw [connL_eq h2.ok h3], h.keep hf⟩
theorem BF.size' (h : BF W wr pf pr S V G v l) (a : Int) : Calls Try.prog 42 #[fptr pr, .int .i64 a] wr fun e w' => e = .returned (.int .i64 (sizeG V G a)) ∧ BF W w' pf pr S V G v l := by
  obtain ⟨L, h1, h2, h3, _⟩ := id h
  refine (rsize h2 a).mono ?_
  rintro _ w' ⟨rfl, hf⟩
  exact ⟨by rw [sizeL_eq h2.ok h3], h.keep hf⟩
theorem BF.count' (h : BF W wr pf pr S V G v l) : Calls Try.prog 43 #[fptr pr] wr fun e w' => e = .returned (.int .i64 (compG V G)) ∧ BF W w' pf pr S V G v l := by
  obtain ⟨L, h1, h2, h3, _⟩ := id h
  refine (rcount h2).mono ?_
  rintro _ w' ⟨rfl, hf⟩
  exact ⟨by rw [compL_eq h2.ok h3], h.keep hf⟩
theorem BF.len' (h : BF W wr pf pr S V G v l) : Calls Try.prog 44 #[fptr pr] wr fun e w' => e = .returned (.int .i64 (lenG S G)) ∧ BF W w' pf pr S V G v l := by
  obtain ⟨L, h1, h2, h3, _⟩ := id h
  refine (rlen h2).mono ?_
  rintro _ w' ⟨rfl, hf⟩
  exact ⟨by rw [len_reps h1.f.gw.1.slot h3], h.keep hf⟩
theorem BF.tree' (h : BF W wr pf pr S V G v l) (s : Int) : Calls Try.prog 45 #[fptr pr, .int .i64 s] wr fun e w' => e = .returned (.bool (treeG G s)) ∧ BF W w' pf pr S V G v l := by
  obtain ⟨L, h1, h2, h3, _⟩ := id h
  refine (rtree h2 s).mono ?_
  rintro _ w' ⟨rfl, hf⟩
  exact ⟨by rw [treeR_eq h2.ok h3], h.keep hf⟩

theorem agree_w (h : BF W wr pf pr S V G v l) (a b s : Int) (hs : -9223372036854775808 ≤ s ∧ s ≤ 9223372036854775807) :
    Calls Try.prog 26 #[fptr pf, fptr pr, .int .i64 a, .int .i64 b, .int .i64 s] wr fun e w' => e = .returned (.bool true) ∧ BF W w' pf pr S V G v l := by
  have A1 := Lib.hid (fun (w' : World) (h : BF W w' pf pr S V G v l) => h.until a b)
  have A2 := Lib.hid (fun (w' : World) (h : BF W w' pf pr S V G v l) => h.until' a b)
  have A3 := Lib.hid (fun (w' : World) (h : BF W w' pf pr S V G v l) => h.conn a b)
  have A4 := Lib.hid (fun (w' : World) (h : BF W w' pf pr S V G v l) => h.conn' a b)
  have A5 := Lib.hid (fun (w' : World) (h : BF W w' pf pr S V G v l) => h.size a)
  have A6 := Lib.hid (fun (w' : World) (h : BF W w' pf pr S V G v l) => h.size' a)
  have A7 := Lib.hid (fun (w' : World) (h : BF W w' pf pr S V G v l) => h.count)
  have A8 := Lib.hid (fun (w' : World) (h : BF W w' pf pr S V G v l) => h.count')
  have A9 := Lib.hid (fun (w' : World) (h : BF W w' pf pr S V G v l) => h.len)
  have B1 := Lib.hid (fun (w' : World) (h : BF W w' pf pr S V G v l) => h.len')
  have B2 := Lib.hid (fun (w' : World) (h : BF W w' pf pr S V G v l) => h.tree hs)
  have B3 := Lib.hid (fun (w' : World) (h : BF W w' pf pr S V G v l) => h.tree' s)
  generalize untilV V G a b = t at *
  generalize untilB V G a b = tb at *
  generalize connG V G a b = c at *
  generalize sizeG V G a = z at *
  generalize compG V G = q at *
  generalize lenG S G = n at *
  generalize treeG G s = d at *
  have H := Lib.hid h
  clear h
  go_enter Try.func26, Try.ntmps26
  go_wp2_with fail
  refine (A1.out _ H.out).mono ?_
  rintro _ w1 ⟨rfl, h1⟩
  have H := Lib.hid h1; clear h1
  go_wp2_with fail
  refine (A2.out _ H.out).mono ?_
  rintro _ w2 ⟨rfl, h1⟩
  have H := Lib.hid h1; clear h1
  go_wp2_with fail
  refine (A3.out _ H.out).mono ?_
  rintro _ w3 ⟨rfl, h1⟩
  have H := Lib.hid h1; clear h1
  go_wp2_with fail
  refine (A4.out _ H.out).mono ?_
  rintro _ w4 ⟨rfl, h1⟩
  have H := Lib.hid h1; clear h1
  go_wp2_with fail
  refine (A5.out _ H.out).mono ?_
  rintro _ w5 ⟨rfl, h1⟩
  have H := Lib.hid h1; clear h1
  go_wp2_with fail
  refine (A6.out _ H.out).mono ?_
  rintro _ w6 ⟨rfl, h1⟩
  have H := Lib.hid h1; clear h1
  go_wp2_with fail
  refine (A7.out _ H.out).mono ?_
  rintro _ w7 ⟨rfl, h1⟩
  have H := Lib.hid h1; clear h1
  go_wp2_with fail
  refine (A8.out _ H.out).mono ?_
  rintro _ w8 ⟨rfl, h1⟩
  have H := Lib.hid h1; clear h1
  go_wp2_with fail
  refine (A9.out _ H.out).mono ?_
  rintro _ w9 ⟨rfl, h1⟩
  have H := Lib.hid h1; clear h1
  go_wp2_with fail
  refine (B1.out _ H.out).mono ?_
  rintro _ wa ⟨rfl, h1⟩
  have H := Lib.hid h1; clear h1
  go_wp2_with fail
  refine (B2.out _ H.out).mono ?_
  rintro _ wb ⟨rfl, h1⟩
  have H := Lib.hid h1; clear h1
  go_wp2_with fail
  refine (B3.out _ H.out).mono ?_
  rintro _ wc ⟨rfl, h1⟩
  have H := Lib.hid h1; clear h1
  go_wp2_with fail
  go_ret
  exact ⟨rfl, H.out⟩
end
end Go.Proofs.Ythkkelkgfkehlaa
