/- How an array of three integers reads. -/
import Derived.Test.YtoppjjgecgbbkaaLctPairs
namespace Go.Proofs.Ytoppjjgecgbbkaa
open Go.ChangeShapes Go.WideShapes Go.ChangeAt Go.RowKit Go.Deep

theorem open_three {H : Type} {enc : TypeId × Value → H} {W : World} {base : Nat} {v : Value} {d : DataW H} {p : List MemPlace} (hv : Value.okWide Try.prog W .any base 34 v)
    (h : DataW.Trod enc Try.prog W 0 (fun _ => true) true 34 v d p) : ∃ z : Int × Int × Int, v = .agg #[.int .i64 z.1, .int .i64 z.2.1, .int .i64 z.2.2] ∧ True := by
  have c3 : Try.prog.cellsOf 3 = 1 := by kernel_rfl
  have c30 : Try.prog.cellsOf 34 = 3 := by kernel_rfl
  obtain ⟨fuel, hf⟩ := h
  unfold Value.okWide at hv
  simp only [Try.underlying34] at hv
  obtain ⟨cs, rfl, hsz, _⟩ := hv
  obtain ⟨xs, n', _, _, hlen, hxl, hall⟩ := DataW.trod_array Try.underlying34 hf
  rw [c3] at hall
  simp only [Value.cells] at hall hlen
  have h0 := hall 0 (by decide)
  have h1 := hall 1 (by decide)
  have h2 := hall 2 (by decide)
  rw [List.getElem?_eq_getElem (by omega)] at h0 h1 h2
  obtain ⟨n0, e0, _, _⟩ := DataW.trod_int Try.underlying3 h0
  obtain ⟨n1, e1, _, _⟩ := DataW.trod_int Try.underlying3 h1
  obtain ⟨n2, e2, _, _⟩ := DataW.trod_int Try.underlying3 h2
  rw [c30] at hlen
  refine ⟨(n0, n1, n2), ?_, trivial⟩
  obtain ⟨l⟩ := cs
  match l, hlen with
  | [x0, x1, x2], _ =>
    simp at e0 e1 e2
    subst e0; subst e1; subst e2
    rfl

end Go.Proofs.Ytoppjjgecgbbkaa
