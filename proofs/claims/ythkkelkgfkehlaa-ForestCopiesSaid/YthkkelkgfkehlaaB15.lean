/- forest: rows of slots; whether two are equal. -/
import Derived.Test.YthkkelkgfkehlaaB14
/- forest: reached, the laws' own. -/
namespace Go.Proofs.Ythkkelkgfkehlaa
open Go.RowKit Classical
set_option maxRecDepth 10000
set_option maxHeartbeats 1600000

def zA (z : Nat → Int × Int × Int) (i : Nat) : Nat := (z i).1.toNat
def zB (z : Nat → Int × Int × Int) (i : Nat) : Nat := (z i).2.1.toNat
theorem okE_in {n : Nat} {z : Nat → Int × Int × Int} {i : Nat} (h : okE n (z i) = true) : (z i).1 = (zA z i : Int) ∧ (z i).2.1 = (zB z i : Int) ∧ zA z i < n ∧ zB z i < n ∧ zA z i ≠ zB z i := by
  unfold okE at h
  simp only [Bool.and_eq_true, Bool.not_eq_true', decide_eq_false_iff_not] at h
  obtain ⟨x, e1, h1⟩ := inV_nat h.1.1
  obtain ⟨y, e2, h2⟩ := inV_nat h.1.2
  unfold zA zB
  omega
noncomputable def rch (n len : Nat) (z : Nat → Int × Int × Int) (use : Nat → Bool) (p : Nat) : Nat → Bool := rdR use (zA z) (zB z) len n (updT (fun _ => false) p true)

theorem reached_w36 (W w : World) (hW : Fr [] W w) (n : Nat) (hn : n ≤ 30) (a : Option Addr) (len cap : Nat) (hlen : len ≤ 80) (z : Nat → Int × Int × Int) (hz : EdgesF W a len z) (ub ucap : Nat) (use : Nat → Bool) (hu : Blk w ub 4 (bRow len use)) (hok : ∀ i, i < len → use i = true → okE n (z i) = true) (p : Nat) (hp : p < n) :
    Calls Try.prog 15 #[.int .i64 n, .slice a len cap, .slice (some ⟨ub, 0, none⟩) len ucap, .int .i64 p] w fun e w' => ∃ sb, e = .returned (.slice (some ⟨sb, 0, none⟩) n n) ∧ Blk w' sb 4 (bRow n (rch n len z use p)) ∧ w.heap.size ≤ sb ∧ Fr [] w w' := by
  have HZ := Lib.hid hz
  have hmk := fun w' => run_makeB n w' (by omega)
  have hpn : (p : Int) < n := by omega
  have hb0 := Blk.new w (bRow n fun _ => false) 4
  have q0 := hb0.cell p
  have q1 := hb0.frozen p
  rw [bRow_at _ hp] at q0
  have hb1 : Blk (w.alloc (.cells ((bRow n fun _ => false).set p (.bool true)).toArray 4)) w.heap.size 4 (bRow n (updT (fun _ => false) p true)) := Eq.mp (congrArg (Blk _ _ _) (bRow_set (fun _ => false) p true)) (Blk.new w ((bRow n fun _ => false).set p (.bool true)) 4)
  have hub := hu.lt
  have HU := Lib.hid hu
  have HOK := Lib.hid hok
  have HB1 := Lib.hid hb1
  clear hz hb0 hb1 hu hok
  go_enter Try.func15, Try.ntmps15
  go_wp2_with fail
  clear hmk q0 q1
  have hf1 : Fr [] w (w.alloc (.cells ((bRow n fun _ => false).set p (.bool true)).toArray 4)) := (Fr.refl _ _).alloc _
  have H1 := Lib.hid (And.intro HB1.out hf1)
  clear hf1 HB1
  generalize w.alloc (.cells ((bRow n fun _ => false).set p (.bool true)).toArray 4) = w1 at *
  go_loopw [10] (fun x wr => ∃ r : Nat, r ≤ n ∧ x = .int .i64 r ∧ Hid (Blk wr w.heap.size 4 (bRow n (rdR use (zA z) (zB z) len r (updT (fun _ => false) p true))) ∧ Fr [] w wr)) (fun x _ => n - (intOf x).toNat)
  case atStart => exact ⟨0, Nat.zero_le _, rfl, H1⟩
  case round =>
    clear H1
    obtain ⟨r, hr, rfl, HR⟩ := hrel
    by_cases hlt : r < n
    · have hlt' : (r : Int) < n := by omega
      have hw1 : IntKind.i64.wrap ((r : Int) + 1) = ((r + 1 : Nat) : Int) := by rw [show (r : Int) + 1 = ((r + 1 : Nat) : Int) by omega]; exact IntWalk.i64_in _ (by omega)
      have HE := Lib.hid (show rdR use (zA z) (zB z) len (r + 1) (updT (fun _ => false) p true) = rdF use (zA z) (zB z) len (rdR use (zA z) (zB z) len r (updT (fun _ => false) p true)) from rfl)
      generalize rdR use (zA z) (zB z) len r (updT (fun _ => false) p true) = f at *
      go_wp2_with fail
      go_loopw [11] (fun x wr => ∃ k : Nat, k ≤ len ∧ x = .int .i64 k ∧ Hid (Blk wr w.heap.size 4 (bRow n (rdF use (zA z) (zB z) k f)) ∧ Fr [] w wr)) (fun x _ => len - (intOf x).toNat)
      case atStart => exact ⟨0, Nat.zero_le _, rfl, HR⟩
      case round =>
        clear HR
        obtain ⟨k, hk, rfl, HR⟩ := hrel
        by_cases hlt : k < len
        · have hlt' : (k : Int) < len := by omega
          have hw2 : IntKind.i64.wrap ((k : Int) + 1) = ((k + 1 : Nat) : Int) := by rw [show (k : Int) + 1 = ((k + 1 : Nat) : Int) by omega]; exact IntWalk.i64_in _ (by omega)
          have hEF : rdF use (zA z) (zB z) (k + 1) f = if use k && (rdF use (zA z) (zB z) k f (zA z k) || rdF use (zA z) (zB z) k f (zB z k)) then updT (updT (rdF use (zA z) (zB z) k f) (zA z k) true) (zB z k) true else rdF use (zA z) (zB z) k f := rfl
          have HEF := Lib.hid hEF; clear hEF
          generalize hfe : rdF use (zA z) (zB z) (k + 1) f = f'' at *
          have HFE := Lib.hid hfe; clear hfe
          generalize rdF use (zA z) (zB z) k f = f' at *
          have u0 := (HR.out.2.blk HU.out (by simp)).cell k
          rw [bRow_at _ hlt] at u0
          cases huk : use k with
          | false =>
            rw [huk] at u0
            have HF := Lib.hid (show f'' = f' by rw [HEF.out, huk]; rfl)
            clear huk
            go_wp2_with fail
            go_roundw
            case rel => exact ⟨k + 1, by omega, rfl, Lib.hid (by rw [HFE.out, HF.out]; exact HR.out)⟩
            case measure => simp [intOf]; omega
          | true =>
            rw [huk] at u0
            obtain ⟨e1, e2, hA, hB, _⟩ := okE_in (HOK.out k hlt huk)
            obtain ⟨b, off, rfl, hb, q0, q1, _⟩ := (HZ.out.fr (hW.trans' HR.out.2)).2 k hlt
            have hbw : b < W.heap.size := by obtain ⟨b', off', e, hb', _⟩ := HZ.out.2 k hlt; cases e; exact hb'
            have hWs := hW.size
            rw [e1] at q0
            rw [e2] at q1
            clear e1 e2
            have t0 := HR.out.1.cell (zA z k)
            have t1 := HR.out.1.cell (zB z k)
            have t2 := HR.out.1.frozen (zA z k)
            have t3 := HR.out.1.frozen (zB z k)
            rw [bRow_at _ hA] at t0
            rw [bRow_at _ hB] at t1
            have hset := (HR.out.1.set (zA z k) (.bool true))
            have s3 := hset.frozen (zB z k)
            have s0 := hset.cell (zB z k)
            rw [bRow_set] at hset s0
            rw [bRow_at _ hB] at s0
            have hset2 := hset.set (zB z k) (.bool true)
            rw [bRow_set] at hset2
            have hf2 : Fr [] w ((wr.setCell ⟨w.heap.size, zA z k, none⟩ (.bool true)).setCell ⟨w.heap.size, zB z k, none⟩ (.bool true)) := (HR.out.2.setCell _ _ (.inr (Nat.le_refl _))).setCell _ _ (.inr (Nat.le_refl _))
            have p0 : (wr.setCell ⟨w.heap.size, zA z k, none⟩ (.bool true)).cell? ⟨b, off + k * 3 + 1, none⟩ = some (.int .i64 (zB z k)) := by
              exact ((Fr.refl [w.heap.size] wr).setCell ⟨w.heap.size, zA z k, none⟩ (.bool true) (.inl (by simp))).cell q1 (by simp; omega)
            have HS := Lib.hid (And.intro hset2 hf2)
            clear hset hset2 hf2
            have hA' : ((zA z k : Nat) : Int) < n := by omega
            have hB' : ((zB z k : Nat) : Int) < n := by omega
            generalize zA z k = za at *
            generalize zB z k = zb at *
            cases hfa : f' za with
            | true =>
              rw [hfa] at t0
              have HF := Lib.hid (show f'' = updT (updT f' za true) zb true by rw [HEF.out, huk, hfa]; rfl)
              clear huk hfa
              go_wp2_with fail
              go_roundw
              case rel => exact ⟨k + 1, by omega, rfl, Lib.hid (by rw [HFE.out, HF.out]; exact HS.out)⟩
              case measure => simp [intOf]; omega
            | false =>
              rw [hfa] at t0
              cases hfb : f' zb with
              | true =>
                rw [hfb] at t1
                have HF := Lib.hid (show f'' = updT (updT f' za true) zb true by rw [HEF.out, huk, hfa, hfb]; rfl)
                clear huk hfa hfb
                go_wp2_with fail
                go_roundw
                case rel => exact ⟨k + 1, by omega, rfl, Lib.hid (by rw [HFE.out, HF.out]; exact HS.out)⟩
                case measure => simp [intOf]; omega
              | false =>
                rw [hfb] at t1
                have HF := Lib.hid (show f'' = f' by rw [HEF.out, huk, hfa, hfb]; rfl)
                clear huk hfa hfb
                go_wp2_with fail
                go_roundw
                case rel => exact ⟨k + 1, by omega, rfl, Lib.hid (by rw [HFE.out, HF.out]; exact HR.out)⟩
                case measure => simp [intOf]; omega
        · obtain rfl : k = len := by omega
          go_wp2_with fail
          go_roundw
          case rel => exact ⟨r + 1, by omega, rfl, Lib.hid (by rw [HE.out]; exact HR.out)⟩
          case measure => simp [intOf]; omega
    · obtain rfl : r = n := by omega
      go_wp2_with fail
      go_ret
      exact ⟨w.heap.size, rfl, HR.out.1, Nat.le_refl _, HR.out.2⟩
end Go.Proofs.Ythkkelkgfkehlaa

namespace Go.Proofs.Ythkkelkgfkehlaa
open Go.RowKit Classical
set_option maxRecDepth 10000
set_option maxHeartbeats 800000

/-- A slice reads the numbers p. -/
def RowN (w : World) (v : Value) (p : List Nat) : Prop := w.ownsRow 0 3 1 v p.length (encT p)
theorem RowN.fr {w w' : World} {v : Value} {p : List Nat} {S : List Nat} (h : RowN w v p) (hf : Fr S w w') (hs : ∀ q, v.ownBlock = some q → q ∉ S) : RowN w' v p :=
  ownsRow_same h (fun q hq => hf.keep q (ownsRow_lt h hq) (hs q hq))
theorem RowN.at {w : World} {v : Value} {p : List Nat} (h : RowN w v p) {i : Nat} (hi : i < p.length) : ∃ b cap, v = .slice (some ⟨b, 0, none⟩) p.length cap ∧ b < w.heap.size ∧ w.cell? ⟨b, i, none⟩ = some (.int .i64 (p[i]'hi)) := by
  obtain ⟨b, cap, e, _, h2, h3, _⟩ := ownsRow_at h hi
  refine ⟨b, cap, e, h2, h3.trans ?_⟩
  simp [encT, hi]
theorem RowN.slice {w : World} {v : Value} {p : List Nat} (h : RowN w v p) : ∃ a cap, v = .slice a p.length cap := ownsRow_slice h

theorem drew_ex (w : World) (k n : Nat) : ∃ m, (w.drewN k).drewN n = w.drewN m := ⟨k + n, by simp⟩

theorem same_w {w : World} {v u : Value} {p q : List Nat} (hv : RowN w v p) (hu : RowN w u q) (hp : p.length ≤ 65536) (_hq : q.length ≤ 65536) :
    Calls Try.prog 19 #[v, u] w fun e w' => e = .returned (.bool (decide (p = q))) ∧ ∃ k, w' = w.drewN k := by
  obtain ⟨a1, c1, rfl⟩ := hv.slice
  obtain ⟨a2, c2, rfl⟩ := hu.slice
  have HV := Lib.hid hv; clear hv
  have HU := Lib.hid hu; clear hu
  by_cases hl : p.length = q.length
  · have hb : ((p.length : Int) != (q.length : Int)) = false := by simp; omega
    go_enter Try.func19, Try.ntmps19
    go_wp2
    go_loopw [5] (fun x wr => ∃ i : Nat, i ≤ p.length ∧ x = .int .i64 i ∧ (∃ k, wr = w.drewN k) ∧ Hid (p.take i = q.take i)) (fun x _ => p.length - (intOf x).toNat)
    case atStart => exact ⟨0, Nat.zero_le _, rfl, ⟨0, rfl⟩, Lib.hid (by simp)⟩
    case round =>
      obtain ⟨i, hi, rfl, ⟨k, rfl⟩, HT⟩ := hrel
      by_cases hlt : i < p.length
      · obtain ⟨b1, c1', e1, _, r1⟩ := HV.out.at hlt
        obtain ⟨b2, c2', e2, _, r2⟩ := HU.out.at (show i < q.length by omega)
        simp only [Value.slice.injEq, true_and] at e1 e2
        obtain ⟨rfl, rfl⟩ := e1
        obtain ⟨rfl, rfl⟩ := e2
        have hi1 : (i : Int) < p.length := by omega
        have hi2 : (i : Int) < q.length := by omega
        have hi0 : (0 : Int) ≤ i := by omega
        have hgp : p[i]? = some (p[i]'hlt) := List.getElem?_eq_getElem hlt
        have hgq : q[i]? = some (q[i]'(by omega)) := List.getElem?_eq_getElem (by omega)
        have Hg := Lib.hid (And.intro hgp hgq); clear hgp hgq
        generalize p[i]'hlt = x at *
        generalize q[i]'(by omega) = y at *
        by_cases hxy : x = y
        · have hne : ((x : Int) != (y : Int)) = false := by simp; omega
          have Hxy := Lib.hid hxy; clear hxy
          go_wp2
          go_quiet (fail)
          go_wp2
          go_roundw
          case rel =>
            refine ⟨i + 1, by omega, by go_num, ⟨_, rfl⟩, Lib.hid ?_⟩
            rw [List.take_add_one, List.take_add_one, HT.out, Hg.out.1, Hg.out.2, Hxy.out]
          case measure => simp [intOf]; omega
        · have hne : ((x : Int) != (y : Int)) = true := by simp; omega
          have Hxy := Lib.hid hxy; clear hxy
          go_wp2
          go_quiet (fail)
          go_wp2
          go_ret
          refine ⟨?_, drew_ex _ _ _⟩
          have : decide (p = q) = false := decide_eq_false (fun e => by
            have h1 := Hg.out.1; have h2 := Hg.out.2
            rw [e, h2] at h1
            exact Hxy.out (Option.some.inj h1).symm)
          rw [this]; rfl
      · obtain rfl : i = p.length := by omega
        go_wp2
        go_ret
        refine ⟨?_, _, rfl⟩
        have : decide (p = q) = true := decide_eq_true (by
          have := HT.out
          rw [List.take_of_length_le (Nat.le_refl _), List.take_of_length_le (by omega)] at this
          exact this)
        rw [this]; rfl
  · have hb : ((p.length : Int) != (q.length : Int)) = true := by simp; omega
    have Hl := Lib.hid hl; clear hl
    go_enter Try.func19, Try.ntmps19
    go_wp2
    go_ret
    refine ⟨?_, 0, rfl⟩
    rw [decide_eq_false (fun e => Hl.out (by rw [e]))]; rfl

end Go.Proofs.Ythkkelkgfkehlaa
