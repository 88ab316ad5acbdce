/-
  No cell of these rows narrows 'for every input' (looked for: loops, veiled, ifaces, maps, wideKeys, modest, calm, conditions, laid).
  DERIVED. THE GIVEN ROWS OF THIS SEAT. 9 by the template 'for every input the law returns true; each argument reads behind the call as it read before'; 0 by the template 'total and deterministic' (their statements: YtoppjjgecgbbkaaTotals.lean).
  GIVEN WITH THE SEED: the statements are not yours to turn. If you find one false, say at which input.
  Laid BY PROGRAM, IN A SANDBOX (cutbox-rows.mjs): the forced cells as the released guide's own fill.sh prints them over the translation 650993133c5722c4… (all of the seat's roots in one cut). By AI agents, Wed Nov 11 2026. No macro, syntax, notation, axiom, sorry.
-/
import Derived.Test.YtoppjjgecgbbkaaChecked
import GoSem.Claim
import GoSem.ClaimJoined
import GoSem.ClaimMapViews
import Derived.JoinedTies
import Derived.KernelRfl
namespace Go.Proofs.Ytoppjjgecgbbkaa
/- THE CELL 'sum', in the pinned program and in every row, IS THE sha256 OF THE DUMP (.gsa) THAT YtoppjjgecgbbkaaProg.lean LOADS. Nothing in Lean hashes anything: it is a label: what it is worth is what the hold of that sum in a sandbox is worth. -/
noncomputable def Try.pinned : Pinned := { name := "ytoppjjgecgbbkaa", sum := "650993133c5722c407de61e204df3671959128c6f92572a7576809f31b158f13", checked := Try.checked }
namespace Rows
def none {H : Type} : Left H := { results := [], args := [] }

/-- 'seepagelaw12.LctCounts': WHATEVER THE INPUT: true; the input reads as it did. -/
def lctCountsSpec : ChangeSpec := { name := "lctCounts", fn := fun _ => fun
  | [d1, d2] => { results := [.lit (.bool true)], args := [d1, d2] }
  | _ => none }
def lctCountsRow : OpenClaim := { program := "ytoppjjgecgbbkaa", sum := "650993133c5722c407de61e204df3671959128c6f92572a7576809f31b158f13", func := "seepage/seepagelaw12.LctCounts", spec := "lctCounts", unfollowed := true, recurses := true, apart := false }
def LctCountsSaid : Prop := lctCountsRow.holds Try.pinned (OpenSpec.ofChange lctCountsSpec)

/-- ITS FALSE NEIGHBOUR: 'it returns false'. Refute it at one input. -/
def lctCountsWrong : ChangeSpec := { name := "lctCounts", fn := fun _ => fun
  | [d1, d2] => { results := [.lit (.bool false)], args := [d1, d2] }
  | _ => none }
def LctCountsWrongFalsely : Prop := lctCountsRow.holds Try.pinned (OpenSpec.ofChange lctCountsWrong)

/-- 'seepagelaw12.LctMeets': WHATEVER THE INPUT: true; the input reads as it did. -/
def lctMeetsSpec : ChangeSpec := { name := "lctMeets", fn := fun _ => fun
  | [d1, d2, d3] => { results := [.lit (.bool true)], args := [d1, d2, d3] }
  | _ => none }
def lctMeetsRow : OpenClaim := { program := "ytoppjjgecgbbkaa", sum := "650993133c5722c407de61e204df3671959128c6f92572a7576809f31b158f13", func := "seepage/seepagelaw12.LctMeets", spec := "lctMeets", unfollowed := true, recurses := true, apart := false }
def LctMeetsSaid : Prop := lctMeetsRow.holds Try.pinned (OpenSpec.ofChange lctMeetsSpec)

/-- ITS FALSE NEIGHBOUR: 'it returns false'. Refute it at one input. -/
def lctMeetsWrong : ChangeSpec := { name := "lctMeets", fn := fun _ => fun
  | [d1, d2, d3] => { results := [.lit (.bool false)], args := [d1, d2, d3] }
  | _ => none }
def LctMeetsWrongFalsely : Prop := lctMeetsRow.holds Try.pinned (OpenSpec.ofChange lctMeetsWrong)

/-- 'seepagelaw12.LctPaths': WHATEVER THE INPUT: true; the input reads as it did. -/
def lctPathsSpec : ChangeSpec := { name := "lctPaths", fn := fun _ => fun
  | [d1, d2, d3, d4] => { results := [.lit (.bool true)], args := [d1, d2, d3, d4] }
  | _ => none }
def lctPathsRow : OpenClaim := { program := "ytoppjjgecgbbkaa", sum := "650993133c5722c407de61e204df3671959128c6f92572a7576809f31b158f13", func := "seepage/seepagelaw12.LctPaths", spec := "lctPaths", unfollowed := true, recurses := true, apart := false }
def LctPathsSaid : Prop := lctPathsRow.holds Try.pinned (OpenSpec.ofChange lctPathsSpec)

/-- ITS FALSE NEIGHBOUR: 'it returns false'. Refute it at one input. -/
def lctPathsWrong : ChangeSpec := { name := "lctPaths", fn := fun _ => fun
  | [d1, d2, d3, d4] => { results := [.lit (.bool false)], args := [d1, d2, d3, d4] }
  | _ => none }
def LctPathsWrongFalsely : Prop := lctPathsRow.holds Try.pinned (OpenSpec.ofChange lctPathsWrong)

/-- 'seepagelaw12.LctOrder': WHATEVER THE INPUT: true; the input reads as it did. -/
def lctOrderSpec : ChangeSpec := { name := "lctOrder", fn := fun _ => fun
  | [d1, d2, d3, d4] => { results := [.lit (.bool true)], args := [d1, d2, d3, d4] }
  | _ => none }
def lctOrderRow : OpenClaim := { program := "ytoppjjgecgbbkaa", sum := "650993133c5722c407de61e204df3671959128c6f92572a7576809f31b158f13", func := "seepage/seepagelaw12.LctOrder", spec := "lctOrder", unfollowed := true, recurses := true, apart := false }
def LctOrderSaid : Prop := lctOrderRow.holds Try.pinned (OpenSpec.ofChange lctOrderSpec)

/-- ITS FALSE NEIGHBOUR: 'it returns false'. Refute it at one input. -/
def lctOrderWrong : ChangeSpec := { name := "lctOrder", fn := fun _ => fun
  | [d1, d2, d3, d4] => { results := [.lit (.bool false)], args := [d1, d2, d3, d4] }
  | _ => none }
def LctOrderWrongFalsely : Prop := lctOrderRow.holds Try.pinned (OpenSpec.ofChange lctOrderWrong)

/-- 'seepagelaw12.LctNews': WHATEVER THE INPUT: true; the input reads as it did. -/
def lctNewsSpec : ChangeSpec := { name := "lctNews", fn := fun _ => fun
  | [d1, d2, d3] => { results := [.lit (.bool true)], args := [d1, d2, d3] }
  | _ => none }
def lctNewsRow : OpenClaim := { program := "ytoppjjgecgbbkaa", sum := "650993133c5722c407de61e204df3671959128c6f92572a7576809f31b158f13", func := "seepage/seepagelaw12.LctNews", spec := "lctNews", unfollowed := true, recurses := true, apart := false }
def LctNewsSaid : Prop := lctNewsRow.holds Try.pinned (OpenSpec.ofChange lctNewsSpec)

/-- ITS FALSE NEIGHBOUR: 'it returns false'. Refute it at one input. -/
def lctNewsWrong : ChangeSpec := { name := "lctNews", fn := fun _ => fun
  | [d1, d2, d3] => { results := [.lit (.bool false)], args := [d1, d2, d3] }
  | _ => none }
def LctNewsWrongFalsely : Prop := lctNewsRow.holds Try.pinned (OpenSpec.ofChange lctNewsWrong)

/-- 'seepagelaw12.LctMins': WHATEVER THE INPUT: true; the input reads as it did. -/
def lctMinsSpec : ChangeSpec := { name := "lctMins", fn := fun _ => fun
  | [d1, d2, d3] => { results := [.lit (.bool true)], args := [d1, d2, d3] }
  | _ => none }
def lctMinsRow : OpenClaim := { program := "ytoppjjgecgbbkaa", sum := "650993133c5722c407de61e204df3671959128c6f92572a7576809f31b158f13", func := "seepage/seepagelaw12.LctMins", spec := "lctMins", unfollowed := true, recurses := true, apart := false }
def LctMinsSaid : Prop := lctMinsRow.holds Try.pinned (OpenSpec.ofChange lctMinsSpec)

/-- ITS FALSE NEIGHBOUR: 'it returns false'. Refute it at one input. -/
def lctMinsWrong : ChangeSpec := { name := "lctMins", fn := fun _ => fun
  | [d1, d2, d3] => { results := [.lit (.bool false)], args := [d1, d2, d3] }
  | _ => none }
def LctMinsWrongFalsely : Prop := lctMinsRow.holds Try.pinned (OpenSpec.ofChange lctMinsWrong)

/-- 'seepagelaw12.LctCuts': WHATEVER THE INPUT: true; the input reads as it did. -/
def lctCutsSpec : ChangeSpec := { name := "lctCuts", fn := fun _ => fun
  | [d1, d2, d3] => { results := [.lit (.bool true)], args := [d1, d2, d3] }
  | _ => none }
def lctCutsRow : OpenClaim := { program := "ytoppjjgecgbbkaa", sum := "650993133c5722c407de61e204df3671959128c6f92572a7576809f31b158f13", func := "seepage/seepagelaw12.LctCuts", spec := "lctCuts", unfollowed := true, recurses := true, apart := false }
def LctCutsSaid : Prop := lctCutsRow.holds Try.pinned (OpenSpec.ofChange lctCutsSpec)

/-- ITS FALSE NEIGHBOUR: 'it returns false'. Refute it at one input. -/
def lctCutsWrong : ChangeSpec := { name := "lctCuts", fn := fun _ => fun
  | [d1, d2, d3] => { results := [.lit (.bool false)], args := [d1, d2, d3] }
  | _ => none }
def LctCutsWrongFalsely : Prop := lctCutsRow.holds Try.pinned (OpenSpec.ofChange lctCutsWrong)

/-- 'seepagelaw12.LctPlays': WHATEVER THE INPUT: true; the input reads as it did. -/
def lctPlaysSpec : ChangeSpec := { name := "lctPlays", fn := fun _ => fun
  | [d1, d2, d3] => { results := [.lit (.bool true)], args := [d1, d2, d3] }
  | _ => none }
def lctPlaysRow : OpenClaim := { program := "ytoppjjgecgbbkaa", sum := "650993133c5722c407de61e204df3671959128c6f92572a7576809f31b158f13", func := "seepage/seepagelaw12.LctPlays", spec := "lctPlays", unfollowed := true, recurses := true, apart := false }
def LctPlaysSaid : Prop := lctPlaysRow.holds Try.pinned (OpenSpec.ofChange lctPlaysSpec)

/-- ITS FALSE NEIGHBOUR: 'it returns false'. Refute it at one input. -/
def lctPlaysWrong : ChangeSpec := { name := "lctPlays", fn := fun _ => fun
  | [d1, d2, d3] => { results := [.lit (.bool false)], args := [d1, d2, d3] }
  | _ => none }
def LctPlaysWrongFalsely : Prop := lctPlaysRow.holds Try.pinned (OpenSpec.ofChange lctPlaysWrong)

/-- 'seepagelaw12.LctNil': WHATEVER THE INPUT: true; the input reads as it did. -/
def lctNilSpec : ChangeSpec := { name := "lctNil", fn := fun _ => fun
  | [d1, d2, d3, d4] => { results := [.lit (.bool true)], args := [d1, d2, d3, d4] }
  | _ => none }
def lctNilRow : OpenClaim := { program := "ytoppjjgecgbbkaa", sum := "650993133c5722c407de61e204df3671959128c6f92572a7576809f31b158f13", func := "seepage/seepagelaw12.LctNil", spec := "lctNil", unfollowed := true, recurses := true, apart := false }
def LctNilSaid : Prop := lctNilRow.holds Try.pinned (OpenSpec.ofChange lctNilSpec)

/-- ITS FALSE NEIGHBOUR: 'it returns false'. Refute it at one input. -/
def lctNilWrong : ChangeSpec := { name := "lctNil", fn := fun _ => fun
  | [d1, d2, d3, d4] => { results := [.lit (.bool false)], args := [d1, d2, d3, d4] }
  | _ => none }
def LctNilWrongFalsely : Prop := lctNilRow.holds Try.pinned (OpenSpec.ofChange lctNilWrong)

/- THE SECOND FORM. 'bulk': how many values and letters a reading holds, each counted each time it is reached (what is shared counts as often as it is met; a slice's spare places count too). A statement '..UptoSaid' is the law's where the arguments, and the package variables that the reading takes, are together of bulk at most 1048576: NARROWER than '..Said'. Prove '..Said' where nothing that the law and all that it calls make is longer than what came in: it says more and counts as full. Else prove '..UptoSaid'. A law counts once. -/
mutual
def uptoBulk {H : Type} : DataW H → Nat
  | .lit (.string bytes) => bytes.length + 1
  | .lit _ => 1
  | .nil => 1
  | .ptr d => uptoBulk d + 1
  | .slice elems spare => uptoBulkAll elems + uptoBulkAll spare + 1
  | .agg parts => uptoBulkAll parts + 1
  | .iface _ d => uptoBulk d + 1
  | .map entries => uptoBulkEntries entries + 1
  | .held _ => 1
def uptoBulkAll {H : Type} : List (DataW H) → Nat
  | [] => 0
  | d :: r => uptoBulk d + uptoBulkAll r
def uptoBulkEntries {H : Type} : List (Lit × DataW H) → Nat
  | [] => 0
  | x :: r => uptoBulkEntry x + uptoBulkEntries r
def uptoBulkEntry {H : Type} : Lit × DataW H → Nat
  | (.string bytes, d) => bytes.length + uptoBulk d + 1
  | (_, d) => uptoBulk d + 1
 end
def uptoSmall : (H : Type) → List (DataW H) → Bool := fun _ ds => decide (uptoBulkAll ds ≤ 1048576)
def OpenSpec.upto (s : _root_.Go.ChangeSpec) : _root_.Go.OpenSpec := { _root_.Go.OpenSpec.ofChange s with cond := some uptoSmall }

/-- 'seepagelaw12.LctCounts', WHERE WHAT IT READS IS OF BULK AT MOST 1048576: true; the input reads as it did. -/
def lctCountsUptoRow : OpenClaim := { program := "ytoppjjgecgbbkaa", sum := "650993133c5722c407de61e204df3671959128c6f92572a7576809f31b158f13", func := "seepage/seepagelaw12.LctCounts", spec := "lctCounts", unfollowed := true, recurses := true, apart := false, narrowed := true }
def LctCountsUptoSaid : Prop := lctCountsUptoRow.holds Try.pinned (OpenSpec.upto lctCountsSpec)

/-- 'seepagelaw12.LctMeets', WHERE WHAT IT READS IS OF BULK AT MOST 1048576: true; the input reads as it did. -/
def lctMeetsUptoRow : OpenClaim := { program := "ytoppjjgecgbbkaa", sum := "650993133c5722c407de61e204df3671959128c6f92572a7576809f31b158f13", func := "seepage/seepagelaw12.LctMeets", spec := "lctMeets", unfollowed := true, recurses := true, apart := false, narrowed := true }
def LctMeetsUptoSaid : Prop := lctMeetsUptoRow.holds Try.pinned (OpenSpec.upto lctMeetsSpec)

/-- 'seepagelaw12.LctPaths', WHERE WHAT IT READS IS OF BULK AT MOST 1048576: true; the input reads as it did. -/
def lctPathsUptoRow : OpenClaim := { program := "ytoppjjgecgbbkaa", sum := "650993133c5722c407de61e204df3671959128c6f92572a7576809f31b158f13", func := "seepage/seepagelaw12.LctPaths", spec := "lctPaths", unfollowed := true, recurses := true, apart := false, narrowed := true }
def LctPathsUptoSaid : Prop := lctPathsUptoRow.holds Try.pinned (OpenSpec.upto lctPathsSpec)

/-- 'seepagelaw12.LctOrder', WHERE WHAT IT READS IS OF BULK AT MOST 1048576: true; the input reads as it did. -/
def lctOrderUptoRow : OpenClaim := { program := "ytoppjjgecgbbkaa", sum := "650993133c5722c407de61e204df3671959128c6f92572a7576809f31b158f13", func := "seepage/seepagelaw12.LctOrder", spec := "lctOrder", unfollowed := true, recurses := true, apart := false, narrowed := true }
def LctOrderUptoSaid : Prop := lctOrderUptoRow.holds Try.pinned (OpenSpec.upto lctOrderSpec)

/-- 'seepagelaw12.LctNews', WHERE WHAT IT READS IS OF BULK AT MOST 1048576: true; the input reads as it did. -/
def lctNewsUptoRow : OpenClaim := { program := "ytoppjjgecgbbkaa", sum := "650993133c5722c407de61e204df3671959128c6f92572a7576809f31b158f13", func := "seepage/seepagelaw12.LctNews", spec := "lctNews", unfollowed := true, recurses := true, apart := false, narrowed := true }
def LctNewsUptoSaid : Prop := lctNewsUptoRow.holds Try.pinned (OpenSpec.upto lctNewsSpec)

/-- 'seepagelaw12.LctMins', WHERE WHAT IT READS IS OF BULK AT MOST 1048576: true; the input reads as it did. -/
def lctMinsUptoRow : OpenClaim := { program := "ytoppjjgecgbbkaa", sum := "650993133c5722c407de61e204df3671959128c6f92572a7576809f31b158f13", func := "seepage/seepagelaw12.LctMins", spec := "lctMins", unfollowed := true, recurses := true, apart := false, narrowed := true }
def LctMinsUptoSaid : Prop := lctMinsUptoRow.holds Try.pinned (OpenSpec.upto lctMinsSpec)

/-- 'seepagelaw12.LctCuts', WHERE WHAT IT READS IS OF BULK AT MOST 1048576: true; the input reads as it did. -/
def lctCutsUptoRow : OpenClaim := { program := "ytoppjjgecgbbkaa", sum := "650993133c5722c407de61e204df3671959128c6f92572a7576809f31b158f13", func := "seepage/seepagelaw12.LctCuts", spec := "lctCuts", unfollowed := true, recurses := true, apart := false, narrowed := true }
def LctCutsUptoSaid : Prop := lctCutsUptoRow.holds Try.pinned (OpenSpec.upto lctCutsSpec)

/-- 'seepagelaw12.LctPlays', WHERE WHAT IT READS IS OF BULK AT MOST 1048576: true; the input reads as it did. -/
def lctPlaysUptoRow : OpenClaim := { program := "ytoppjjgecgbbkaa", sum := "650993133c5722c407de61e204df3671959128c6f92572a7576809f31b158f13", func := "seepage/seepagelaw12.LctPlays", spec := "lctPlays", unfollowed := true, recurses := true, apart := false, narrowed := true }
def LctPlaysUptoSaid : Prop := lctPlaysUptoRow.holds Try.pinned (OpenSpec.upto lctPlaysSpec)

/-- 'seepagelaw12.LctNil', WHERE WHAT IT READS IS OF BULK AT MOST 1048576: true; the input reads as it did. -/
def lctNilUptoRow : OpenClaim := { program := "ytoppjjgecgbbkaa", sum := "650993133c5722c407de61e204df3671959128c6f92572a7576809f31b158f13", func := "seepage/seepagelaw12.LctNil", spec := "lctNil", unfollowed := true, recurses := true, apart := false, narrowed := true }
def LctNilUptoSaid : Prop := lctNilUptoRow.holds Try.pinned (OpenSpec.upto lctNilSpec)

end Rows
end Go.Proofs.Ytoppjjgecgbbkaa
