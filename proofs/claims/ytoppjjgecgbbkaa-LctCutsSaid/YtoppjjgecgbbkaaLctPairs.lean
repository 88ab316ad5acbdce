/- How a slice of pairs of integers reads. -/
import Derived.Deep.Slices
import Derived.ChangeSame
import Derived.OpenShut
import Derived.Test.YtoppjjgecgbbkaaLctDet
import Derived.Test.YtoppjjgecgbbkaaLawKit
namespace Go.Proofs.Ytoppjjgecgbbkaa
open Go.ChangeShapes Go.WideShapes Go.ChangeAt Go.RowKit Go.Deep

/-- A slice of len pairs reads z. -/
def PairsF (w : World) (a : Option Addr) (len : Nat) (z : Nat → Int × Int) : Prop :=
  len ≤ 9223372036854775807 ∧ ∀ i, i < len → ∃ b off, a = some ⟨b, off, none⟩ ∧ b < w.heap.size ∧ w.cell? ⟨b, off + i * 2, none⟩ = some (.int .i64 (z i).1) ∧ w.cell? ⟨b, off + i * 2 + 1, none⟩ = some (.int .i64 (z i).2)

theorem PairsF.below {w w' : World} {a : Option Addr} {len : Nat} {z : Nat → Int × Int} (h : PairsF w a len z) (hb : Below w.heap.size w w') : PairsF w' a len z := by
  refine ⟨h.1, fun i hi => ?_⟩
  obtain ⟨b, off, rfl, hlt, h1, h2⟩ := h.2 i hi
  exact ⟨b, off, rfl, Nat.lt_of_lt_of_le hlt hb.size, (hb.cell (p := ⟨b, off + i * 2, none⟩) hlt).trans h1, (hb.cell (p := ⟨b, off + i * 2 + 1, none⟩) hlt).trans h2⟩

theorem cell_no_spot {W : World} {y : Addr} {v : Value} (h : W.cell? y = some v) : y.spot = none := by
  unfold World.cell? at h
  split at h
  · by_cases hs : y.spot.isSome = true
    · rw [if_pos hs] at h; cases h
    · cases hy : y.spot with
      | none => rfl
      | some s => rw [hy] at hs; exact absurd rfl hs
  · cases h

theorem open_pairs {H : Type} {enc : TypeId × Value → H} {W : World} {a : Option Addr} {len cap : Nat} {d : DataW H} {p : List MemPlace}
    (h : DataW.Trod enc Try.prog W 0 (fun _ => true) true 22 (.slice a len cap) d p) : ∃ z, PairsF W a len z := by
  obtain ⟨fuel, hf⟩ := h
  have c3 : Try.prog.cellsOf 3 = 1 := by kernel_rfl
  have c30 : Try.prog.cellsOf 30 = 2 := by kernel_rfl
  rcases open_slice Try.underlying22 hf with ⟨hcs, _⟩ | ⟨x, l, c, m, n, D, Pl, hcs, _, hl, hm, hmm, _, hel⟩
  · simp [Value.cells] at hcs
    obtain ⟨rfl, rfl, rfl⟩ := hcs
    exact ⟨fun _ => (0, 0), by omega, fun i hi => absurd hi (Nat.not_lt_zero _)⟩
  · simp [Value.cells] at hcs
    obtain ⟨rfl, rfl, rfl⟩ := hcs
    have hml : len ≤ m := by rw [hmm]; simpa using hl
    have key : ∀ i, i < len → ∃ u : Int × Int, W.cell? (x.add (i * 2)) = some (.int .i64 u.1) ∧ W.cell? ((x.add (i * 2)).add 1) = some (.int .i64 u.2) := by
      intro i hi
      obtain ⟨cs', hc, ht⟩ := hel i (by omega)
      rw [c30] at hc
      obtain ⟨xs, n', _, _, hlen, hxl, hall⟩ := DataW.trod_array Try.underlying30 ht
      obtain ⟨_, _, hat⟩ := World.cells?_some hc
      rw [c3] at hall
      have h0 := hall 0 (by decide)
      have h1 := hall 1 (by decide)
      rw [List.getElem?_eq_getElem (by omega)] at h0 h1
      obtain ⟨n0, e0, _, _⟩ := DataW.trod_int Try.underlying3 h0
      obtain ⟨n1, e1, _, _⟩ := DataW.trod_int Try.underlying3 h1
      have g0 := hat 0 (by decide)
      have g1 := hat 1 (by decide)
      have q0 : cs'[0]? = some (.int .i64 n0) := by
        have := congrArg (fun l => l[0]?) e0; simpa using this
      have q1 : cs'[1]? = some (.int .i64 n1) := by
        have := congrArg (fun l => l[0]?) e1; simpa using this
      have z0 : ∀ y : Addr, y.add 0 = y := fun y => by simp [Addr.add]
      rw [z0] at g0
      exact ⟨(n0, n1), g0.trans q0, g1.trans q1⟩
    have key2 : ∀ i, ∃ u : Int × Int, i < len → W.cell? (x.add (i * 2)) = some (.int .i64 u.1) ∧ W.cell? ((x.add (i * 2)).add 1) = some (.int .i64 u.2) := by
      intro i
      by_cases hi : i < len
      · obtain ⟨u, h⟩ := key i hi
        exact ⟨u, fun _ => h⟩
      · exact ⟨(0, 0), fun h => absurd h hi⟩
    obtain ⟨F, hF⟩ := Classical.axiomOfChoice key2
    refine ⟨F, by unfold maxLen at hm; omega, fun i hi => ?_⟩
    obtain ⟨h1, h2⟩ := hF i hi
    have hsp := cell_no_spot (hF 0 (by omega)).1
    have z0 : ∀ y : Addr, y.add (0 * 2) = y := fun y => by simp [Addr.add]
    rw [z0] at hsp
    obtain ⟨b, off, sp⟩ := x
    simp only at hsp
    subst hsp
    rw [Addr.add_lit] at h1
    rw [Addr.add_lit, Addr.add_lit] at h2
    exact ⟨b, off, rfl, cell_lt h1, h1, h2⟩

end Go.Proofs.Ytoppjjgecgbbkaa
