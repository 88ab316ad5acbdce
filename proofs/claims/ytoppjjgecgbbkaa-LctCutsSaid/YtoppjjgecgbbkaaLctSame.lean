/- lct: rows of vertices that were made; whether two are equal. -/
import Derived.Test.YtoppjjgecgbbkaaLctPathF
namespace Go.Proofs.Ytoppjjgecgbbkaa
open Go.RowKit Classical
set_option maxRecDepth 10000
set_option maxHeartbeats 800000

/-- A slice reads the numbers p. -/
def RowN (w : World) (v : Value) (p : List Nat) : Prop := w.ownsRow 0 3 1 v p.length (encR p)
theorem RowN.fr {w w' : World} {v : Value} {p : List Nat} {S : List Nat} (h : RowN w v p) (hf : Fr S w w') (hs : ∀ q, v.ownBlock = some q → q ∉ S) : RowN w' v p :=
  ownsRow_same h (fun q hq => hf.keep q (h.lt q hq).2 (hs q hq))
theorem RowN.at {w : World} {v : Value} {p : List Nat} (h : RowN w v p) {i : Nat} (hi : i < p.length) : ∃ b cap, v = .slice (some ⟨b, 0, none⟩) p.length cap ∧ b < w.heap.size ∧ w.cell? ⟨b, i, none⟩ = some (.int .i64 (p[i]'hi)) := by
  obtain ⟨b, cap, e, _, h2, h3, _⟩ := ownsRow_at h hi
  refine ⟨b, cap, e, h2, h3.trans ?_⟩
  simp [encR, encI, hi]
theorem RowN.slice {w : World} {v : Value} {p : List Nat} (h : RowN w v p) : ∃ a cap, v = .slice a p.length cap := ownsRow_slice h

noncomputable def sizeI (n : Nat) (E : Nat → Nat → Prop) (a : Int) : Int := if inV n a then (csize n E a.toNat : Int) else 0
theorem size_d {w : World} {pf g n : Nat} {E : Nat → Nat → Prop} {key : Nat → Int} {ed : Int} (h : LG w pf g n E key ed) (a : Int) :
    Calls Try.prog 18 #[.pointer (some ⟨pf, 0, none⟩), .int .i64 a] w fun e w' => e = .returned (.int .i64 (sizeI n E a)) ∧ LG w' pf g n E key ed ∧ Fr [g] w w' := size_w h a
theorem drew_ex (w : World) (k n : Nat) : ∃ m, (w.drewN k).drewN n = w.drewN m := ⟨k + n, by simp⟩

theorem same_w {w : World} {v u : Value} {p q : List Nat} (hv : RowN w v p) (hu : RowN w u q) (hp : p.length ≤ 65536) (_hq : q.length ≤ 65536) :
    Calls Try.prog 23 #[v, u] w fun e w' => e = .returned (.bool (decide (p = q))) ∧ ∃ k, w' = w.drewN k := by
  obtain ⟨a1, c1, rfl⟩ := hv.slice
  obtain ⟨a2, c2, rfl⟩ := hu.slice
  have HV := Lib.hid hv; clear hv
  have HU := Lib.hid hu; clear hu
  by_cases hl : p.length = q.length
  · have hb : ((p.length : Int) != (q.length : Int)) = false := by simp; omega
    go_enter Try.func23, Try.ntmps23
    go_wp2
    go_loopw [5] (fun x wr => ∃ i : Nat, i ≤ p.length ∧ x = .int .i64 i ∧ (∃ k, wr = w.drewN k) ∧ Hid (p.take i = q.take i)) (fun x _ => p.length - (intOf x).toNat)
    case atStart => exact ⟨0, Nat.zero_le _, rfl, ⟨0, rfl⟩, Lib.hid (by simp)⟩
    case round =>
      obtain ⟨i, hi, rfl, ⟨k, rfl⟩, HT⟩ := hrel
      by_cases hlt : i < p.length
      · obtain ⟨b1, c1', e1, _, r1⟩ := HV.out.at hlt
        obtain ⟨b2, c2', e2, _, r2⟩ := HU.out.at (show i < q.length by omega)
        simp only [Value.slice.injEq, true_and] at e1 e2
        obtain ⟨rfl, rfl⟩ := e1
        obtain ⟨rfl, rfl⟩ := e2
        have hi1 : (i : Int) < p.length := by omega
        have hi2 : (i : Int) < q.length := by omega
        have hi0 : (0 : Int) ≤ i := by omega
        have hgp : p[i]? = some (p[i]'hlt) := List.getElem?_eq_getElem hlt
        have hgq : q[i]? = some (q[i]'(by omega)) := List.getElem?_eq_getElem (by omega)
        have Hg := Lib.hid (And.intro hgp hgq); clear hgp hgq
        generalize p[i]'hlt = x at *
        generalize q[i]'(by omega) = y at *
        by_cases hxy : x = y
        · have hne : ((x : Int) != (y : Int)) = false := by simp; omega
          have Hxy := Lib.hid hxy; clear hxy
          go_wp2
          go_quiet (fail)
          go_wp2
          go_roundw
          case rel =>
            refine ⟨i + 1, by omega, by go_num, ⟨_, rfl⟩, Lib.hid ?_⟩
            rw [List.take_add_one, List.take_add_one, HT.out, Hg.out.1, Hg.out.2, Hxy.out]
          case measure => simp [intOf]; omega
        · have hne : ((x : Int) != (y : Int)) = true := by simp; omega
          have Hxy := Lib.hid hxy; clear hxy
          go_wp2
          go_quiet (fail)
          go_wp2
          go_ret
          refine ⟨?_, drew_ex _ _ _⟩
          have : decide (p = q) = false := decide_eq_false (fun e => by
            have h1 := Hg.out.1; have h2 := Hg.out.2
            rw [e, h2] at h1
            exact Hxy.out (Option.some.inj h1).symm)
          rw [this]; rfl
      · obtain rfl : i = p.length := by omega
        go_wp2
        go_ret
        refine ⟨?_, _, rfl⟩
        have : decide (p = q) = true := decide_eq_true (by
          have := HT.out
          rw [List.take_of_length_le (Nat.le_refl _), List.take_of_length_le (by omega)] at this
          exact this)
        rw [this]; rfl
  · have hb : ((p.length : Int) != (q.length : Int)) = true := by simp; omega
    have Hl := Lib.hid hl; clear hl
    go_enter Try.func23, Try.ntmps23
    go_wp2
    go_ret
    refine ⟨?_, 0, rfl⟩
    rw [decide_eq_false (fun e => Hl.out (by rw [e]))]; rfl

end Go.Proofs.Ytoppjjgecgbbkaa
