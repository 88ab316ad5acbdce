/- A region that draws its order, whose operations give the same values in every world of a class and keep the class: one walk in the order of the text serves every order. -/
import Derived.Test.YtoppjjgecgbbkaaOneWrite
namespace Go.Proofs.Ytoppjjgecgbbkaa
open Go.RowKit

section
variable {P : Program} {ops : Array Oper} {C : World → Prop}
theorem region_class {id : Nat} {Q : Exit → Act → World → Prop} {a : Act} {w : World} {l : List Oper} (C : World → Prop) (hm : P.follows .mixedOrders = true) (hB : Region.lexB .any l.toArray = true) (hC : C w.drew)
    (h : wpQuiet P l.toArray C (fun a' => ∀ w', C w' → Q .normal a' w') l a) : (Code.region id l.toArray true).wp P Q a w :=
  wp_region_quiet hm hB hC (by simpa using h)
theorem cWalk_pure {Q : Act → Prop} {o : Oper} {rest : List Oper} {a : Act}
    (h : ∀ K : Act → Prop, (∀ a, wpQuiet P ops C Q rest a → K a) → if Region.wanted o (yielded ops a.tmps) then Oper.pure_ P o a K else K (a.put o.dst undef)) : wpQuiet P ops C Q (o :: rest) a := by
  have h := h _ (fun _ h => h)
  unfold wpQuiet
  by_cases hw : Region.wanted o (yielded ops a.tmps) = true
  · rw [if_pos hw] at *
    obtain ⟨v, h1, h2⟩ := h
    refine ⟨v, fun w _ => ?_, h2⟩
    have := h1 w
    unfold Oper.quietAt
    revert this
    generalize (execOp a.eval o).run P w = r
    intro this
    cases r with
    | halt x w' => exact this.elim
    | ok x w' =>
      cases x with
      | value u => exact ⟨this.1, this.2⟩
      | skip => exact ⟨this.1, this.2⟩
      | _ => exact this.elim
  · rw [if_neg hw] at *; exact h
theorem cWalk_val {Q : Act → Prop} {o : Oper} {rest : List Oper} {a : Act} (hg : o.guard = none) (v : Value)
    (h0 : ∀ w, C w → Oper.quietUpon P C w v ((execOp a.eval o).run P w)) (h : wpQuiet P ops C Q rest (a.put o.dst v)) : wpQuiet P ops C Q (o :: rest) a := by
  unfold wpQuiet
  rw [if_pos (by simp [Region.wanted, hg])]
  exact ⟨v, h0, h⟩
theorem cWalk_nil {Q : Act → Prop} {a : Act} (h : Q a) : wpQuiet P ops C Q [] a := h
end
end Go.Proofs.Ytoppjjgecgbbkaa
