/- How a slice of steps (a number, an id) reads. -/
import Derived.Deep.Slices
import Derived.ChangeSame
import Derived.Test.YtciacnnelpijeaaFilled
namespace Go.Proofs.Ytciacnnelpijeaa
open Go.ChangeShapes Go.WideShapes Go.ChangeAt Go.RowKit Go.Deep

/-- A slice of len steps reads D and I. -/
def StepsF (w : World) (a : Option Addr) (len : Nat) (z : (Nat → Int) × (Nat → Nat)) : Prop :=
  len ≤ 9223372036854775807 ∧ (∀ i, i < len → z.2 i < 18446744073709551616) ∧
  ∀ i, i < len → ∃ b off, a = some ⟨b, off, none⟩ ∧ b < w.heap.size ∧ w.cell? ⟨b, off + i * 2, none⟩ = some (.int .i64 (z.1 i)) ∧ w.cell? ⟨b, off + i * 2 + 1, none⟩ = some (.int .u64 (z.2 i))

theorem StepsF.below {w w' : World} {a : Option Addr} {len : Nat} {z : (Nat → Int) × (Nat → Nat)} (h : StepsF w a len z) (hb : Below w.heap.size w w') : StepsF w' a len z := by
  refine ⟨h.1, h.2.1, fun i hi => ?_⟩
  obtain ⟨b, off, rfl, hlt, h1, h2⟩ := h.2.2 i hi
  exact ⟨b, off, rfl, Nat.lt_of_lt_of_le hlt hb.size, (hb.cell (p := ⟨b, off + i * 2, none⟩) hlt).trans h1, (hb.cell (p := ⟨b, off + i * 2 + 1, none⟩) hlt).trans h2⟩

theorem cell_no_spot {W : World} {y : Addr} {v : Value} (h : W.cell? y = some v) : y.spot = none := by
  unfold World.cell? at h
  split at h
  · by_cases hs : y.spot.isSome = true
    · rw [if_pos hs] at h; cases h
    · cases hy : y.spot with
      | none => rfl
      | some s => rw [hy] at hs; exact absurd rfl hs
  · cases h

theorem stepFields : ∃ f0 f1 : Field, Try.prog.underlying 30 = some (.struct #[f0, f1]) ∧ f0.type = 3 ∧ f0.offset = 0 ∧ f1.type = 23 ∧ f1.offset = 1 :=
  ⟨_, _, Try.underlying30, rfl, rfl, rfl, rfl⟩

theorem open_steps {H : Type} {enc : TypeId × Value → H} {W : World} {a : Option Addr} {len cap : Nat} {d : DataW H} {p : List MemPlace}
    (h : DataW.Trod enc Try.prog W 0 (fun _ => true) true 22 (.slice a len cap) d p) : ∃ z, StepsF W a len z := by
  obtain ⟨fuel, hf⟩ := h
  have c3 : Try.prog.cellsOf 3 = 1 := by kernel_rfl
  have c23 : Try.prog.cellsOf 23 = 1 := by kernel_rfl
  have c30 : Try.prog.cellsOf 30 = 2 := by kernel_rfl
  rcases open_slice Try.underlying22 hf with ⟨hcs, _⟩ | ⟨x, l, c, m, n, D, Pl, hcs, _, hl, hm, hmm, _, hel⟩
  · simp [Value.cells] at hcs
    obtain ⟨rfl, rfl, rfl⟩ := hcs
    exact ⟨(fun _ => 0, fun _ => 0), by omega, fun i hi => absurd hi (Nat.not_lt_zero _), fun i hi => absurd hi (Nat.not_lt_zero _)⟩
  · simp [Value.cells] at hcs
    obtain ⟨rfl, rfl, rfl⟩ := hcs
    have hml : len ≤ m := by rw [hmm]; simpa using hl
    have key : ∀ i, i < len → ∃ (u : Int) (y : Nat), y < 18446744073709551616 ∧ W.cell? (x.add (i * 2)) = some (.int .i64 u) ∧ W.cell? ((x.add (i * 2)).add 1) = some (.int .u64 y) := by
      intro i hi
      obtain ⟨cs', hc, ht⟩ := hel i (by omega)
      rw [c30] at hc
      obtain ⟨f0, f1, hu, t0, o0, t1, o1⟩ := stepFields
      obtain ⟨y0, y1, n', _, hlen, h0, h1⟩ := trod_struct2 hu ht
      obtain ⟨_, _, hat⟩ := World.cells?_some hc
      rw [t0, o0, c3] at h0
      rw [t1, o1, c23] at h1
      rw [c30] at hlen
      obtain ⟨n0, e0, _, _⟩ := DataW.trod_int Try.underlying3 h0
      obtain ⟨n1, e1, _, wf1⟩ := DataW.trod_int Try.underlying23 h1
      have b1 := bounds_u64 wf1
      have g0 := hat 0 (by decide)
      have g1 := hat 1 (by decide)
      have q0 : cs'[0]? = some (.int .i64 n0) := by
        have := congrArg (fun l => l[0]?) e0; simpa using this
      have q1 : cs'[1]? = some (.int .u64 n1) := by
        have := congrArg (fun l => l[0]?) e1; simpa using this
      have z0 : ∀ y : Addr, y.add 0 = y := fun y => by simp [Addr.add]
      rw [z0] at g0
      refine ⟨n0, n1.toNat, by omega, g0.trans q0, ?_⟩
      rw [Int.toNat_of_nonneg b1.1]; exact g1.trans q1
    have key2 : ∀ i, ∃ u : Int × Nat, i < len → u.2 < 18446744073709551616 ∧ W.cell? (x.add (i * 2)) = some (.int .i64 u.1) ∧ W.cell? ((x.add (i * 2)).add 1) = some (.int .u64 u.2) := by
      intro i
      by_cases hi : i < len
      · obtain ⟨u, y, h⟩ := key i hi
        exact ⟨(u, y), fun _ => h⟩
      · exact ⟨(0, 0), fun h => absurd h hi⟩
    obtain ⟨F, hF⟩ := Classical.axiomOfChoice key2
    refine ⟨(fun i => (F i).1, fun i => (F i).2), by unfold maxLen at hm; omega, fun i hi => (hF i hi).1, fun i hi => ?_⟩
    obtain ⟨_, h1, h2⟩ := hF i hi
    have hsp := cell_no_spot (hF 0 (by omega)).2.1
    have z0 : ∀ y : Addr, y.add (0 * 2) = y := fun y => by simp [Addr.add]
    rw [z0] at hsp
    obtain ⟨b, off, sp⟩ := x
    simp only at hsp
    subst hsp
    rw [Addr.add_lit] at h1
    rw [Addr.add_lit, Addr.add_lit] at h2
    exact ⟨b, off, rfl, cell_lt h1, h1, h2⟩

end Go.Proofs.Ytciacnnelpijeaa
