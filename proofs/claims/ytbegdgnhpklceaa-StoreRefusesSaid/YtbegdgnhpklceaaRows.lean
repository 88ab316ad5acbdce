/-
  No cell of these rows narrows 'for every input' (looked for: loops, veiled, ifaces, maps, wideKeys, modest, calm, conditions, laid).
  DERIVED. THE GIVEN ROWS OF THIS SEAT. 7 by the template 'for every input the law returns true; each argument reads behind the call as it read before'; 0 by the template 'total and deterministic' (their statements: YtbegdgnhpklceaaTotals.lean).
  GIVEN WITH THE SEED: the statements are not yours to turn. If you find one false, say at which input.
  Laid BY PROGRAM, IN A SANDBOX (cutbox-rows.mjs): the forced cells as the released guide's own fill.sh prints them over the translation 7158864598cb6122… (all of the seat's roots in one cut). By AI agents, Wed Nov 11 2026. No macro, syntax, notation, axiom, sorry.
-/
import Derived.Test.YtbegdgnhpklceaaChecked
import GoSem.Claim
import GoSem.ClaimJoined
import GoSem.ClaimMapViews
import Derived.JoinedTies
import Derived.KernelRfl
namespace Go.Proofs.Ytbegdgnhpklceaa
/- THE CELL 'sum', in the pinned program and in every row, IS THE sha256 OF THE DUMP (.gsa) THAT YtbegdgnhpklceaaProg.lean LOADS. Nothing in Lean hashes anything: it is a label: what it is worth is what the hold of that sum in a sandbox is worth. -/
noncomputable def Try.pinned : Pinned := { name := "ytbegdgnhpklceaa", sum := "7158864598cb6122d2ec1d205cc8871c1f06311440f70d796b02e30a80505c41", checked := Try.checked }
namespace Rows
def none {H : Type} : Left H := { results := [], args := [] }

/-- 'seepagelaw34.StoreKeeps': WHATEVER THE INPUT: true; the input reads as it did. -/
def storeKeepsSpec : ChangeSpec := { name := "storeKeeps", fn := fun _ => fun
  | [d] => { results := [.lit (.bool true)], args := [d] }
  | _ => none }
def storeKeepsRow : OpenClaim := { program := "ytbegdgnhpklceaa", sum := "7158864598cb6122d2ec1d205cc8871c1f06311440f70d796b02e30a80505c41", func := "seepage/seepagelaw34.StoreKeeps", spec := "storeKeeps", unfollowed := true, recurses := true, apart := false }
def StoreKeepsSaid : Prop := storeKeepsRow.holds Try.pinned (OpenSpec.ofChange storeKeepsSpec)

/-- ITS FALSE NEIGHBOUR: 'it returns false'. Refute it at one input. -/
def storeKeepsWrong : ChangeSpec := { name := "storeKeeps", fn := fun _ => fun
  | [d] => { results := [.lit (.bool false)], args := [d] }
  | _ => none }
def StoreKeepsWrongFalsely : Prop := storeKeepsRow.holds Try.pinned (OpenSpec.ofChange storeKeepsWrong)

/-- 'seepagelaw34.StoreVertices': WHATEVER THE INPUT: true; the input reads as it did. -/
def storeVerticesSpec : ChangeSpec := { name := "storeVertices", fn := fun _ => fun
  | [d] => { results := [.lit (.bool true)], args := [d] }
  | _ => none }
def storeVerticesRow : OpenClaim := { program := "ytbegdgnhpklceaa", sum := "7158864598cb6122d2ec1d205cc8871c1f06311440f70d796b02e30a80505c41", func := "seepage/seepagelaw34.StoreVertices", spec := "storeVertices", unfollowed := true, recurses := true, apart := false }
def StoreVerticesSaid : Prop := storeVerticesRow.holds Try.pinned (OpenSpec.ofChange storeVerticesSpec)

/-- ITS FALSE NEIGHBOUR: 'it returns false'. Refute it at one input. -/
def storeVerticesWrong : ChangeSpec := { name := "storeVertices", fn := fun _ => fun
  | [d] => { results := [.lit (.bool false)], args := [d] }
  | _ => none }
def StoreVerticesWrongFalsely : Prop := storeVerticesRow.holds Try.pinned (OpenSpec.ofChange storeVerticesWrong)

/-- 'seepagelaw34.StoreRefuses': WHATEVER THE INPUT: true; the input reads as it did. -/
def storeRefusesSpec : ChangeSpec := { name := "storeRefuses", fn := fun _ => fun
  | [d1, d2, d3] => { results := [.lit (.bool true)], args := [d1, d2, d3] }
  | _ => none }
def storeRefusesRow : OpenClaim := { program := "ytbegdgnhpklceaa", sum := "7158864598cb6122d2ec1d205cc8871c1f06311440f70d796b02e30a80505c41", func := "seepage/seepagelaw34.StoreRefuses", spec := "storeRefuses", unfollowed := true, recurses := true, apart := false }
def StoreRefusesSaid : Prop := storeRefusesRow.holds Try.pinned (OpenSpec.ofChange storeRefusesSpec)

/-- ITS FALSE NEIGHBOUR: 'it returns false'. Refute it at one input. -/
def storeRefusesWrong : ChangeSpec := { name := "storeRefuses", fn := fun _ => fun
  | [d1, d2, d3] => { results := [.lit (.bool false)], args := [d1, d2, d3] }
  | _ => none }
def StoreRefusesWrongFalsely : Prop := storeRefusesRow.holds Try.pinned (OpenSpec.ofChange storeRefusesWrong)

/-- 'seepagelaw34.StoreUndo': WHATEVER THE INPUT: true; the input reads as it did. -/
def storeUndoSpec : ChangeSpec := { name := "storeUndo", fn := fun _ => fun
  | [d1, d2, d3] => { results := [.lit (.bool true)], args := [d1, d2, d3] }
  | _ => none }
def storeUndoRow : OpenClaim := { program := "ytbegdgnhpklceaa", sum := "7158864598cb6122d2ec1d205cc8871c1f06311440f70d796b02e30a80505c41", func := "seepage/seepagelaw34.StoreUndo", spec := "storeUndo", unfollowed := true, recurses := true, apart := false }
def StoreUndoSaid : Prop := storeUndoRow.holds Try.pinned (OpenSpec.ofChange storeUndoSpec)

/-- ITS FALSE NEIGHBOUR: 'it returns false'. Refute it at one input. -/
def storeUndoWrong : ChangeSpec := { name := "storeUndo", fn := fun _ => fun
  | [d1, d2, d3] => { results := [.lit (.bool false)], args := [d1, d2, d3] }
  | _ => none }
def StoreUndoWrongFalsely : Prop := storeUndoRow.holds Try.pinned (OpenSpec.ofChange storeUndoWrong)

/-- 'seepagelaw34.StoreEmpties': WHATEVER THE INPUT: true; the input reads as it did. -/
def storeEmptiesSpec : ChangeSpec := { name := "storeEmpties", fn := fun _ => fun
  | [d1, d2] => { results := [.lit (.bool true)], args := [d1, d2] }
  | _ => none }
def storeEmptiesRow : OpenClaim := { program := "ytbegdgnhpklceaa", sum := "7158864598cb6122d2ec1d205cc8871c1f06311440f70d796b02e30a80505c41", func := "seepage/seepagelaw34.StoreEmpties", spec := "storeEmpties", unfollowed := true, recurses := true, apart := false }
def StoreEmptiesSaid : Prop := storeEmptiesRow.holds Try.pinned (OpenSpec.ofChange storeEmptiesSpec)

/-- ITS FALSE NEIGHBOUR: 'it returns false'. Refute it at one input. -/
def storeEmptiesWrong : ChangeSpec := { name := "storeEmpties", fn := fun _ => fun
  | [d1, d2] => { results := [.lit (.bool false)], args := [d1, d2] }
  | _ => none }
def StoreEmptiesWrongFalsely : Prop := storeEmptiesRow.holds Try.pinned (OpenSpec.ofChange storeEmptiesWrong)

/-- 'seepagelaw34.StoreCopies': WHATEVER THE INPUT: true; the input reads as it did. -/
def storeCopiesSpec : ChangeSpec := { name := "storeCopies", fn := fun _ => fun
  | [d1, d2, d3] => { results := [.lit (.bool true)], args := [d1, d2, d3] }
  | _ => none }
def storeCopiesRow : OpenClaim := { program := "ytbegdgnhpklceaa", sum := "7158864598cb6122d2ec1d205cc8871c1f06311440f70d796b02e30a80505c41", func := "seepage/seepagelaw34.StoreCopies", spec := "storeCopies", inPlace := ["maps.clone"], unfollowed := true, recurses := true, apart := false }
def StoreCopiesSaid : Prop := storeCopiesRow.holds Try.pinned (OpenSpec.ofChange storeCopiesSpec)

/-- ITS FALSE NEIGHBOUR: 'it returns false'. Refute it at one input. -/
def storeCopiesWrong : ChangeSpec := { name := "storeCopies", fn := fun _ => fun
  | [d1, d2, d3] => { results := [.lit (.bool false)], args := [d1, d2, d3] }
  | _ => none }
def StoreCopiesWrongFalsely : Prop := storeCopiesRow.holds Try.pinned (OpenSpec.ofChange storeCopiesWrong)

/-- 'seepagelaw34.StoreNil': WHATEVER THE INPUT: true; the input reads as it did. -/
def storeNilSpec : ChangeSpec := { name := "storeNil", fn := fun _ => fun
  | [d1, d2] => { results := [.lit (.bool true)], args := [d1, d2] }
  | _ => none }
def storeNilRow : OpenClaim := { program := "ytbegdgnhpklceaa", sum := "7158864598cb6122d2ec1d205cc8871c1f06311440f70d796b02e30a80505c41", func := "seepage/seepagelaw34.StoreNil", spec := "storeNil", inPlace := ["maps.clone"], unfollowed := true, recurses := true, apart := false }
def StoreNilSaid : Prop := storeNilRow.holds Try.pinned (OpenSpec.ofChange storeNilSpec)

/-- ITS FALSE NEIGHBOUR: 'it returns false'. Refute it at one input. -/
def storeNilWrong : ChangeSpec := { name := "storeNil", fn := fun _ => fun
  | [d1, d2] => { results := [.lit (.bool false)], args := [d1, d2] }
  | _ => none }
def StoreNilWrongFalsely : Prop := storeNilRow.holds Try.pinned (OpenSpec.ofChange storeNilWrong)

/- THE SECOND FORM. 'bulk': how many values and letters a reading holds, each counted each time it is reached (what is shared counts as often as it is met; a slice's spare places count too). A statement '..UptoSaid' is the law's where the arguments, and the package variables that the reading takes, are together of bulk at most 1048576: NARROWER than '..Said'. Prove '..Said' where nothing that the law and all that it calls make is longer than what came in: it says more and counts as full. Else prove '..UptoSaid'. A law counts once. -/
mutual
def uptoBulk {H : Type} : DataW H → Nat
  | .lit (.string bytes) => bytes.length + 1
  | .lit _ => 1
  | .nil => 1
  | .ptr d => uptoBulk d + 1
  | .slice elems spare => uptoBulkAll elems + uptoBulkAll spare + 1
  | .agg parts => uptoBulkAll parts + 1
  | .iface _ d => uptoBulk d + 1
  | .map entries => uptoBulkEntries entries + 1
  | .held _ => 1
def uptoBulkAll {H : Type} : List (DataW H) → Nat
  | [] => 0
  | d :: r => uptoBulk d + uptoBulkAll r
def uptoBulkEntries {H : Type} : List (Lit × DataW H) → Nat
  | [] => 0
  | x :: r => uptoBulkEntry x + uptoBulkEntries r
def uptoBulkEntry {H : Type} : Lit × DataW H → Nat
  | (.string bytes, d) => bytes.length + uptoBulk d + 1
  | (_, d) => uptoBulk d + 1
 end
def uptoSmall : (H : Type) → List (DataW H) → Bool := fun _ ds => decide (uptoBulkAll ds ≤ 1048576)
def OpenSpec.upto (s : _root_.Go.ChangeSpec) : _root_.Go.OpenSpec := { _root_.Go.OpenSpec.ofChange s with cond := some uptoSmall }

/-- 'seepagelaw34.StoreKeeps', WHERE WHAT IT READS IS OF BULK AT MOST 1048576: true; the input reads as it did. -/
def storeKeepsUptoRow : OpenClaim := { program := "ytbegdgnhpklceaa", sum := "7158864598cb6122d2ec1d205cc8871c1f06311440f70d796b02e30a80505c41", func := "seepage/seepagelaw34.StoreKeeps", spec := "storeKeeps", unfollowed := true, recurses := true, apart := false, narrowed := true }
def StoreKeepsUptoSaid : Prop := storeKeepsUptoRow.holds Try.pinned (OpenSpec.upto storeKeepsSpec)

/-- 'seepagelaw34.StoreVertices', WHERE WHAT IT READS IS OF BULK AT MOST 1048576: true; the input reads as it did. -/
def storeVerticesUptoRow : OpenClaim := { program := "ytbegdgnhpklceaa", sum := "7158864598cb6122d2ec1d205cc8871c1f06311440f70d796b02e30a80505c41", func := "seepage/seepagelaw34.StoreVertices", spec := "storeVertices", unfollowed := true, recurses := true, apart := false, narrowed := true }
def StoreVerticesUptoSaid : Prop := storeVerticesUptoRow.holds Try.pinned (OpenSpec.upto storeVerticesSpec)

/-- 'seepagelaw34.StoreRefuses', WHERE WHAT IT READS IS OF BULK AT MOST 1048576: true; the input reads as it did. -/
def storeRefusesUptoRow : OpenClaim := { program := "ytbegdgnhpklceaa", sum := "7158864598cb6122d2ec1d205cc8871c1f06311440f70d796b02e30a80505c41", func := "seepage/seepagelaw34.StoreRefuses", spec := "storeRefuses", unfollowed := true, recurses := true, apart := false, narrowed := true }
def StoreRefusesUptoSaid : Prop := storeRefusesUptoRow.holds Try.pinned (OpenSpec.upto storeRefusesSpec)

/-- 'seepagelaw34.StoreUndo', WHERE WHAT IT READS IS OF BULK AT MOST 1048576: true; the input reads as it did. -/
def storeUndoUptoRow : OpenClaim := { program := "ytbegdgnhpklceaa", sum := "7158864598cb6122d2ec1d205cc8871c1f06311440f70d796b02e30a80505c41", func := "seepage/seepagelaw34.StoreUndo", spec := "storeUndo", unfollowed := true, recurses := true, apart := false, narrowed := true }
def StoreUndoUptoSaid : Prop := storeUndoUptoRow.holds Try.pinned (OpenSpec.upto storeUndoSpec)

/-- 'seepagelaw34.StoreEmpties', WHERE WHAT IT READS IS OF BULK AT MOST 1048576: true; the input reads as it did. -/
def storeEmptiesUptoRow : OpenClaim := { program := "ytbegdgnhpklceaa", sum := "7158864598cb6122d2ec1d205cc8871c1f06311440f70d796b02e30a80505c41", func := "seepage/seepagelaw34.StoreEmpties", spec := "storeEmpties", unfollowed := true, recurses := true, apart := false, narrowed := true }
def StoreEmptiesUptoSaid : Prop := storeEmptiesUptoRow.holds Try.pinned (OpenSpec.upto storeEmptiesSpec)

/-- 'seepagelaw34.StoreCopies', WHERE WHAT IT READS IS OF BULK AT MOST 1048576: true; the input reads as it did. -/
def storeCopiesUptoRow : OpenClaim := { program := "ytbegdgnhpklceaa", sum := "7158864598cb6122d2ec1d205cc8871c1f06311440f70d796b02e30a80505c41", func := "seepage/seepagelaw34.StoreCopies", spec := "storeCopies", inPlace := ["maps.clone"], unfollowed := true, recurses := true, apart := false, narrowed := true }
def StoreCopiesUptoSaid : Prop := storeCopiesUptoRow.holds Try.pinned (OpenSpec.upto storeCopiesSpec)

/-- 'seepagelaw34.StoreNil', WHERE WHAT IT READS IS OF BULK AT MOST 1048576: true; the input reads as it did. -/
def storeNilUptoRow : OpenClaim := { program := "ytbegdgnhpklceaa", sum := "7158864598cb6122d2ec1d205cc8871c1f06311440f70d796b02e30a80505c41", func := "seepage/seepagelaw34.StoreNil", spec := "storeNil", inPlace := ["maps.clone"], unfollowed := true, recurses := true, apart := false, narrowed := true }
def StoreNilUptoSaid : Prop := storeNilUptoRow.holds Try.pinned (OpenSpec.upto storeNilSpec)

end Rows
end Go.Proofs.Ytbegdgnhpklceaa
