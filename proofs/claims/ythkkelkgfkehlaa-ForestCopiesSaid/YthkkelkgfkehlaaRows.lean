/-
  No cell of these rows narrows 'for every input' (looked for: loops, veiled, ifaces, maps, wideKeys, modest, calm, conditions, laid).
  DERIVED. THE GIVEN ROWS OF THIS SEAT. 8 by the template 'for every input the law returns true; each argument reads behind the call as it read before'; 0 by the template 'total and deterministic' (their statements: YthkkelkgfkehlaaTotals.lean).
  GIVEN WITH THE SEED: the statements are not yours to turn. If you find one false, say at which input.
  Laid BY PROGRAM, IN A SANDBOX (cutbox-rows.mjs): the forced cells as the released guide's own fill.sh prints them over the translation 98de4f82932415d8… (all of the seat's roots in one cut). By AI agents, Wed Nov 11 2026. No macro, syntax, notation, axiom, sorry.
-/
import Derived.Test.YthkkelkgfkehlaaChecked
import GoSem.Claim
import GoSem.ClaimJoined
import GoSem.ClaimMapViews
import Derived.JoinedTies
import Derived.KernelRfl
namespace Go.Proofs.Ythkkelkgfkehlaa
/- THE CELL 'sum', in the pinned program and in every row, IS THE sha256 OF THE DUMP (.gsa) THAT YthkkelkgfkehlaaProg.lean LOADS. Nothing in Lean hashes anything: it is a label: what it is worth is what the hold of that sum in a sandbox is worth. -/
noncomputable def Try.pinned : Pinned := { name := "ythkkelkgfkehlaa", sum := "98de4f82932415d83a4b01ab77fcb60902375893b07c3b1f2afc10e7814dc795", checked := Try.checked }
namespace Rows
def none {H : Type} : Left H := { results := [], args := [] }

/-- 'seepagelaw36.ForestLate': WHATEVER THE INPUT: true; the input reads as it did. -/
def forestLateSpec : ChangeSpec := { name := "forestLate", fn := fun _ => fun
  | [d1, d2] => { results := [.lit (.bool true)], args := [d1, d2] }
  | _ => none }
def forestLateRow : OpenClaim := { program := "ythkkelkgfkehlaa", sum := "98de4f82932415d83a4b01ab77fcb60902375893b07c3b1f2afc10e7814dc795", func := "seepage/seepagelaw36.ForestLate", spec := "forestLate", unfollowed := true, recurses := true, apart := false }
def ForestLateSaid : Prop := forestLateRow.holds Try.pinned (OpenSpec.ofChange forestLateSpec)

/-- ITS FALSE NEIGHBOUR: 'it returns false'. Refute it at one input. -/
def forestLateWrong : ChangeSpec := { name := "forestLate", fn := fun _ => fun
  | [d1, d2] => { results := [.lit (.bool false)], args := [d1, d2] }
  | _ => none }
def ForestLateWrongFalsely : Prop := forestLateRow.holds Try.pinned (OpenSpec.ofChange forestLateWrong)

/-- 'seepagelaw36.ForestUntil': WHATEVER THE INPUT: true; the input reads as it did. -/
def forestUntilSpec : ChangeSpec := { name := "forestUntil", fn := fun _ => fun
  | [d1, d2, d3, d4] => { results := [.lit (.bool true)], args := [d1, d2, d3, d4] }
  | _ => none }
def forestUntilRow : OpenClaim := { program := "ythkkelkgfkehlaa", sum := "98de4f82932415d83a4b01ab77fcb60902375893b07c3b1f2afc10e7814dc795", func := "seepage/seepagelaw36.ForestUntil", spec := "forestUntil", unfollowed := true, recurses := true, apart := false }
def ForestUntilSaid : Prop := forestUntilRow.holds Try.pinned (OpenSpec.ofChange forestUntilSpec)

/-- ITS FALSE NEIGHBOUR: 'it returns false'. Refute it at one input. -/
def forestUntilWrong : ChangeSpec := { name := "forestUntil", fn := fun _ => fun
  | [d1, d2, d3, d4] => { results := [.lit (.bool false)], args := [d1, d2, d3, d4] }
  | _ => none }
def ForestUntilWrongFalsely : Prop := forestUntilRow.holds Try.pinned (OpenSpec.ofChange forestUntilWrong)

/-- 'seepagelaw36.ForestOrder': WHATEVER THE INPUT: true; the input reads as it did. -/
def forestOrderSpec : ChangeSpec := { name := "forestOrder", fn := fun _ => fun
  | [d1, d2, d3, d4] => { results := [.lit (.bool true)], args := [d1, d2, d3, d4] }
  | _ => none }
def forestOrderRow : OpenClaim := { program := "ythkkelkgfkehlaa", sum := "98de4f82932415d83a4b01ab77fcb60902375893b07c3b1f2afc10e7814dc795", func := "seepage/seepagelaw36.ForestOrder", spec := "forestOrder", unfollowed := true, recurses := true, apart := false }
def ForestOrderSaid : Prop := forestOrderRow.holds Try.pinned (OpenSpec.ofChange forestOrderSpec)

/-- ITS FALSE NEIGHBOUR: 'it returns false'. Refute it at one input. -/
def forestOrderWrong : ChangeSpec := { name := "forestOrder", fn := fun _ => fun
  | [d1, d2, d3, d4] => { results := [.lit (.bool false)], args := [d1, d2, d3, d4] }
  | _ => none }
def ForestOrderWrongFalsely : Prop := forestOrderRow.holds Try.pinned (OpenSpec.ofChange forestOrderWrong)

/-- 'seepagelaw36.ForestSpans': WHATEVER THE INPUT: true; the input reads as it did. -/
def forestSpansSpec : ChangeSpec := { name := "forestSpans", fn := fun _ => fun
  | [d1, d2] => { results := [.lit (.bool true)], args := [d1, d2] }
  | _ => none }
def forestSpansRow : OpenClaim := { program := "ythkkelkgfkehlaa", sum := "98de4f82932415d83a4b01ab77fcb60902375893b07c3b1f2afc10e7814dc795", func := "seepage/seepagelaw36.ForestSpans", spec := "forestSpans", unfollowed := true, recurses := true, apart := false }
def ForestSpansSaid : Prop := forestSpansRow.holds Try.pinned (OpenSpec.ofChange forestSpansSpec)

/-- ITS FALSE NEIGHBOUR: 'it returns false'. Refute it at one input. -/
def forestSpansWrong : ChangeSpec := { name := "forestSpans", fn := fun _ => fun
  | [d1, d2] => { results := [.lit (.bool false)], args := [d1, d2] }
  | _ => none }
def ForestSpansWrongFalsely : Prop := forestSpansRow.holds Try.pinned (OpenSpec.ofChange forestSpansWrong)

/-- 'seepagelaw36.ForestNews': WHATEVER THE INPUT: true; the input reads as it did. -/
def forestNewsSpec : ChangeSpec := { name := "forestNews", fn := fun _ => fun
  | [d1, d2, d3, d4] => { results := [.lit (.bool true)], args := [d1, d2, d3, d4] }
  | _ => none }
def forestNewsRow : OpenClaim := { program := "ythkkelkgfkehlaa", sum := "98de4f82932415d83a4b01ab77fcb60902375893b07c3b1f2afc10e7814dc795", func := "seepage/seepagelaw36.ForestNews", spec := "forestNews", unfollowed := true, recurses := true, apart := false }
def ForestNewsSaid : Prop := forestNewsRow.holds Try.pinned (OpenSpec.ofChange forestNewsSpec)

/-- ITS FALSE NEIGHBOUR: 'it returns false'. Refute it at one input. -/
def forestNewsWrong : ChangeSpec := { name := "forestNews", fn := fun _ => fun
  | [d1, d2, d3, d4] => { results := [.lit (.bool false)], args := [d1, d2, d3, d4] }
  | _ => none }
def ForestNewsWrongFalsely : Prop := forestNewsRow.holds Try.pinned (OpenSpec.ofChange forestNewsWrong)

/-- 'seepagelaw36.ForestExpires': WHATEVER THE INPUT: true; the input reads as it did. -/
def forestExpiresSpec : ChangeSpec := { name := "forestExpires", fn := fun _ => fun
  | [d1, d2] => { results := [.lit (.bool true)], args := [d1, d2] }
  | _ => none }
def forestExpiresRow : OpenClaim := { program := "ythkkelkgfkehlaa", sum := "98de4f82932415d83a4b01ab77fcb60902375893b07c3b1f2afc10e7814dc795", func := "seepage/seepagelaw36.ForestExpires", spec := "forestExpires", unfollowed := true, recurses := true, apart := false }
def ForestExpiresSaid : Prop := forestExpiresRow.holds Try.pinned (OpenSpec.ofChange forestExpiresSpec)

/-- ITS FALSE NEIGHBOUR: 'it returns false'. Refute it at one input. -/
def forestExpiresWrong : ChangeSpec := { name := "forestExpires", fn := fun _ => fun
  | [d1, d2] => { results := [.lit (.bool false)], args := [d1, d2] }
  | _ => none }
def ForestExpiresWrongFalsely : Prop := forestExpiresRow.holds Try.pinned (OpenSpec.ofChange forestExpiresWrong)

/-- 'seepagelaw36.ForestCopies': WHATEVER THE INPUT: true; the input reads as it did. -/
def forestCopiesSpec : ChangeSpec := { name := "forestCopies", fn := fun _ => fun
  | [d1, d2, d3] => { results := [.lit (.bool true)], args := [d1, d2, d3] }
  | _ => none }
def forestCopiesRow : OpenClaim := { program := "ythkkelkgfkehlaa", sum := "98de4f82932415d83a4b01ab77fcb60902375893b07c3b1f2afc10e7814dc795", func := "seepage/seepagelaw36.ForestCopies", spec := "forestCopies", inPlace := ["maps.clone"], unfollowed := true, recurses := true, apart := false }
def ForestCopiesSaid : Prop := forestCopiesRow.holds Try.pinned (OpenSpec.ofChange forestCopiesSpec)

/-- ITS FALSE NEIGHBOUR: 'it returns false'. Refute it at one input. -/
def forestCopiesWrong : ChangeSpec := { name := "forestCopies", fn := fun _ => fun
  | [d1, d2, d3] => { results := [.lit (.bool false)], args := [d1, d2, d3] }
  | _ => none }
def ForestCopiesWrongFalsely : Prop := forestCopiesRow.holds Try.pinned (OpenSpec.ofChange forestCopiesWrong)

/-- 'seepagelaw36.ForestNil': WHATEVER THE INPUT: true; the input reads as it did. -/
def forestNilSpec : ChangeSpec := { name := "forestNil", fn := fun _ => fun
  | [d1, d2, d3, d4] => { results := [.lit (.bool true)], args := [d1, d2, d3, d4] }
  | _ => none }
def forestNilRow : OpenClaim := { program := "ythkkelkgfkehlaa", sum := "98de4f82932415d83a4b01ab77fcb60902375893b07c3b1f2afc10e7814dc795", func := "seepage/seepagelaw36.ForestNil", spec := "forestNil", inPlace := ["maps.clone"], unfollowed := true, recurses := true, apart := false }
def ForestNilSaid : Prop := forestNilRow.holds Try.pinned (OpenSpec.ofChange forestNilSpec)

/-- ITS FALSE NEIGHBOUR: 'it returns false'. Refute it at one input. -/
def forestNilWrong : ChangeSpec := { name := "forestNil", fn := fun _ => fun
  | [d1, d2, d3, d4] => { results := [.lit (.bool false)], args := [d1, d2, d3, d4] }
  | _ => none }
def ForestNilWrongFalsely : Prop := forestNilRow.holds Try.pinned (OpenSpec.ofChange forestNilWrong)

/- THE SECOND FORM. 'bulk': how many values and letters a reading holds, each counted each time it is reached (what is shared counts as often as it is met; a slice's spare places count too). A statement '..UptoSaid' is the law's where the arguments, and the package variables that the reading takes, are together of bulk at most 1048576: NARROWER than '..Said'. Prove '..Said' where nothing that the law and all that it calls make is longer than what came in: it says more and counts as full. Else prove '..UptoSaid'. A law counts once. -/
mutual
def uptoBulk {H : Type} : DataW H → Nat
  | .lit (.string bytes) => bytes.length + 1
  | .lit _ => 1
  | .nil => 1
  | .ptr d => uptoBulk d + 1
  | .slice elems spare => uptoBulkAll elems + uptoBulkAll spare + 1
  | .agg parts => uptoBulkAll parts + 1
  | .iface _ d => uptoBulk d + 1
  | .map entries => uptoBulkEntries entries + 1
  | .held _ => 1
def uptoBulkAll {H : Type} : List (DataW H) → Nat
  | [] => 0
  | d :: r => uptoBulk d + uptoBulkAll r
def uptoBulkEntries {H : Type} : List (Lit × DataW H) → Nat
  | [] => 0
  | x :: r => uptoBulkEntry x + uptoBulkEntries r
def uptoBulkEntry {H : Type} : Lit × DataW H → Nat
  | (.string bytes, d) => bytes.length + uptoBulk d + 1
  | (_, d) => uptoBulk d + 1
 end
def uptoSmall : (H : Type) → List (DataW H) → Bool := fun _ ds => decide (uptoBulkAll ds ≤ 1048576)
def OpenSpec.upto (s : _root_.Go.ChangeSpec) : _root_.Go.OpenSpec := { _root_.Go.OpenSpec.ofChange s with cond := some uptoSmall }

/-- 'seepagelaw36.ForestLate', WHERE WHAT IT READS IS OF BULK AT MOST 1048576: true; the input reads as it did. -/
def forestLateUptoRow : OpenClaim := { program := "ythkkelkgfkehlaa", sum := "98de4f82932415d83a4b01ab77fcb60902375893b07c3b1f2afc10e7814dc795", func := "seepage/seepagelaw36.ForestLate", spec := "forestLate", unfollowed := true, recurses := true, apart := false, narrowed := true }
def ForestLateUptoSaid : Prop := forestLateUptoRow.holds Try.pinned (OpenSpec.upto forestLateSpec)

/-- 'seepagelaw36.ForestUntil', WHERE WHAT IT READS IS OF BULK AT MOST 1048576: true; the input reads as it did. -/
def forestUntilUptoRow : OpenClaim := { program := "ythkkelkgfkehlaa", sum := "98de4f82932415d83a4b01ab77fcb60902375893b07c3b1f2afc10e7814dc795", func := "seepage/seepagelaw36.ForestUntil", spec := "forestUntil", unfollowed := true, recurses := true, apart := false, narrowed := true }
def ForestUntilUptoSaid : Prop := forestUntilUptoRow.holds Try.pinned (OpenSpec.upto forestUntilSpec)

/-- 'seepagelaw36.ForestOrder', WHERE WHAT IT READS IS OF BULK AT MOST 1048576: true; the input reads as it did. -/
def forestOrderUptoRow : OpenClaim := { program := "ythkkelkgfkehlaa", sum := "98de4f82932415d83a4b01ab77fcb60902375893b07c3b1f2afc10e7814dc795", func := "seepage/seepagelaw36.ForestOrder", spec := "forestOrder", unfollowed := true, recurses := true, apart := false, narrowed := true }
def ForestOrderUptoSaid : Prop := forestOrderUptoRow.holds Try.pinned (OpenSpec.upto forestOrderSpec)

/-- 'seepagelaw36.ForestSpans', WHERE WHAT IT READS IS OF BULK AT MOST 1048576: true; the input reads as it did. -/
def forestSpansUptoRow : OpenClaim := { program := "ythkkelkgfkehlaa", sum := "98de4f82932415d83a4b01ab77fcb60902375893b07c3b1f2afc10e7814dc795", func := "seepage/seepagelaw36.ForestSpans", spec := "forestSpans", unfollowed := true, recurses := true, apart := false, narrowed := true }
def ForestSpansUptoSaid : Prop := forestSpansUptoRow.holds Try.pinned (OpenSpec.upto forestSpansSpec)

/-- 'seepagelaw36.ForestNews', WHERE WHAT IT READS IS OF BULK AT MOST 1048576: true; the input reads as it did. -/
def forestNewsUptoRow : OpenClaim := { program := "ythkkelkgfkehlaa", sum := "98de4f82932415d83a4b01ab77fcb60902375893b07c3b1f2afc10e7814dc795", func := "seepage/seepagelaw36.ForestNews", spec := "forestNews", unfollowed := true, recurses := true, apart := false, narrowed := true }
def ForestNewsUptoSaid : Prop := forestNewsUptoRow.holds Try.pinned (OpenSpec.upto forestNewsSpec)

/-- 'seepagelaw36.ForestExpires', WHERE WHAT IT READS IS OF BULK AT MOST 1048576: true; the input reads as it did. -/
def forestExpiresUptoRow : OpenClaim := { program := "ythkkelkgfkehlaa", sum := "98de4f82932415d83a4b01ab77fcb60902375893b07c3b1f2afc10e7814dc795", func := "seepage/seepagelaw36.ForestExpires", spec := "forestExpires", unfollowed := true, recurses := true, apart := false, narrowed := true }
def ForestExpiresUptoSaid : Prop := forestExpiresUptoRow.holds Try.pinned (OpenSpec.upto forestExpiresSpec)

/-- 'seepagelaw36.ForestCopies', WHERE WHAT IT READS IS OF BULK AT MOST 1048576: true; the input reads as it did. -/
def forestCopiesUptoRow : OpenClaim := { program := "ythkkelkgfkehlaa", sum := "98de4f82932415d83a4b01ab77fcb60902375893b07c3b1f2afc10e7814dc795", func := "seepage/seepagelaw36.ForestCopies", spec := "forestCopies", inPlace := ["maps.clone"], unfollowed := true, recurses := true, apart := false, narrowed := true }
def ForestCopiesUptoSaid : Prop := forestCopiesUptoRow.holds Try.pinned (OpenSpec.upto forestCopiesSpec)

/-- 'seepagelaw36.ForestNil', WHERE WHAT IT READS IS OF BULK AT MOST 1048576: true; the input reads as it did. -/
def forestNilUptoRow : OpenClaim := { program := "ythkkelkgfkehlaa", sum := "98de4f82932415d83a4b01ab77fcb60902375893b07c3b1f2afc10e7814dc795", func := "seepage/seepagelaw36.ForestNil", spec := "forestNil", inPlace := ["maps.clone"], unfollowed := true, recurses := true, apart := false, narrowed := true }
def ForestNilUptoSaid : Prop := forestNilUptoRow.holds Try.pinned (OpenSpec.upto forestNilSpec)

end Rows
end Go.Proofs.Ythkkelkgfkehlaa
