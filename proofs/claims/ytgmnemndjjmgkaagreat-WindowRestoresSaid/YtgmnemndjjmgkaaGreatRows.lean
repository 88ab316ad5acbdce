/-
  No cell of these rows narrows 'for every input' (looked for: loops, veiled, ifaces, maps, wideKeys, modest, calm, conditions, laid).
  DERIVED. THE GIVEN ROWS OF THIS SEAT. 9 by the template 'for every input the law returns true; each argument reads behind the call as it read before'; 0 by the template 'total and deterministic' (their statements: YtgmnemndjjmgkaaGreatTotals.lean).
  GIVEN WITH THE SEED: the statements are not yours to turn. If you find one false, say at which input.
  Laid BY PROGRAM, IN A SANDBOX (cutbox-rows.mjs): the forced cells as the released guide's own fill.sh prints them over the translation 0c7c0a3087f2b338… (all of the seat's roots in one cut). By AI agents, Wed Nov 11 2026. No macro, syntax, notation, axiom, sorry.
-/
import Derived.Test.YtgmnemndjjmgkaaGreatChecked
import GoSem.Claim
import GoSem.ClaimJoined
import GoSem.ClaimMapViews
import Derived.JoinedTies
import Derived.KernelRfl
namespace Go.Proofs.YtgmnemndjjmgkaaGreat
/- THE CELL 'sum', in the pinned program and in every row, IS THE sha256 OF THE DUMP (.gsa) THAT YtgmnemndjjmgkaaGreatProg.lean LOADS. Nothing in Lean hashes anything: it is a label: what it is worth is what the hold of that sum in a sandbox is worth. -/
noncomputable def Tryz.pinned : Pinned := { name := "ytgmnemndjjmgkaagreat", sum := "0c7c0a3087f2b3385e4832fa10eddc1b37edc37abb41848182b6065a90da38a5", checked := Tryz.checked }
namespace Rows
def none {H : Type} : Left H := { results := [], args := [] }

/-- 'seepagelaw37.WindowLasts': WHATEVER THE INPUT: true; the input reads as it did. -/
def windowLastsSpec : ChangeSpec := { name := "windowLasts", fn := fun _ => fun
  | [d1, d2, d3] => { results := [.lit (.bool true)], args := [d1, d2, d3] }
  | _ => none }
def windowLastsRow : OpenClaim := { program := "ytgmnemndjjmgkaagreat", sum := "0c7c0a3087f2b3385e4832fa10eddc1b37edc37abb41848182b6065a90da38a5", func := "seepage/seepagelaw37.WindowLasts", spec := "windowLasts", inPlace := ["maps.clone"], unfollowed := true, recurses := true, apart := false }
def WindowLastsSaid : Prop := windowLastsRow.holds Tryz.pinned (OpenSpec.ofChange windowLastsSpec)

/-- ITS FALSE NEIGHBOUR: 'it returns false'. Refute it at one input. -/
def windowLastsWrong : ChangeSpec := { name := "windowLasts", fn := fun _ => fun
  | [d1, d2, d3] => { results := [.lit (.bool false)], args := [d1, d2, d3] }
  | _ => none }
def WindowLastsWrongFalsely : Prop := windowLastsRow.holds Tryz.pinned (OpenSpec.ofChange windowLastsWrong)

/-- 'seepagelaw37.WindowRoom': WHATEVER THE INPUT: true; the input reads as it did. -/
def windowRoomSpec : ChangeSpec := { name := "windowRoom", fn := fun _ => fun
  | [d1, d2, d3] => { results := [.lit (.bool true)], args := [d1, d2, d3] }
  | _ => none }
def windowRoomRow : OpenClaim := { program := "ytgmnemndjjmgkaagreat", sum := "0c7c0a3087f2b3385e4832fa10eddc1b37edc37abb41848182b6065a90da38a5", func := "seepage/seepagelaw37.WindowRoom", spec := "windowRoom", inPlace := ["maps.clone"], unfollowed := true, recurses := true, apart := false }
def WindowRoomSaid : Prop := windowRoomRow.holds Tryz.pinned (OpenSpec.ofChange windowRoomSpec)

/-- ITS FALSE NEIGHBOUR: 'it returns false'. Refute it at one input. -/
def windowRoomWrong : ChangeSpec := { name := "windowRoom", fn := fun _ => fun
  | [d1, d2, d3] => { results := [.lit (.bool false)], args := [d1, d2, d3] }
  | _ => none }
def WindowRoomWrongFalsely : Prop := windowRoomRow.holds Tryz.pinned (OpenSpec.ofChange windowRoomWrong)

/-- 'seepagelaw37.WindowCounts': WHATEVER THE INPUT: true; the input reads as it did. -/
def windowCountsSpec : ChangeSpec := { name := "windowCounts", fn := fun _ => fun
  | [d] => { results := [.lit (.bool true)], args := [d] }
  | _ => none }
def windowCountsRow : OpenClaim := { program := "ytgmnemndjjmgkaagreat", sum := "0c7c0a3087f2b3385e4832fa10eddc1b37edc37abb41848182b6065a90da38a5", func := "seepage/seepagelaw37.WindowCounts", spec := "windowCounts", inPlace := ["maps.clone"], unfollowed := true, recurses := true, apart := false }
def WindowCountsSaid : Prop := windowCountsRow.holds Tryz.pinned (OpenSpec.ofChange windowCountsSpec)

/-- ITS FALSE NEIGHBOUR: 'it returns false'. Refute it at one input. -/
def windowCountsWrong : ChangeSpec := { name := "windowCounts", fn := fun _ => fun
  | [d] => { results := [.lit (.bool false)], args := [d] }
  | _ => none }
def WindowCountsWrongFalsely : Prop := windowCountsRow.holds Tryz.pinned (OpenSpec.ofChange windowCountsWrong)

/-- 'seepagelaw37.WindowNews': WHATEVER THE INPUT: true; the input reads as it did. -/
def windowNewsSpec : ChangeSpec := { name := "windowNews", fn := fun _ => fun
  | [d1, d2, d3] => { results := [.lit (.bool true)], args := [d1, d2, d3] }
  | _ => none }
def windowNewsRow : OpenClaim := { program := "ytgmnemndjjmgkaagreat", sum := "0c7c0a3087f2b3385e4832fa10eddc1b37edc37abb41848182b6065a90da38a5", func := "seepage/seepagelaw37.WindowNews", spec := "windowNews", inPlace := ["maps.clone"], unfollowed := true, recurses := true, apart := false }
def WindowNewsSaid : Prop := windowNewsRow.holds Tryz.pinned (OpenSpec.ofChange windowNewsSpec)

/-- ITS FALSE NEIGHBOUR: 'it returns false'. Refute it at one input. -/
def windowNewsWrong : ChangeSpec := { name := "windowNews", fn := fun _ => fun
  | [d1, d2, d3] => { results := [.lit (.bool false)], args := [d1, d2, d3] }
  | _ => none }
def WindowNewsWrongFalsely : Prop := windowNewsRow.holds Tryz.pinned (OpenSpec.ofChange windowNewsWrong)

/-- 'seepagelaw37.WindowKnown': WHATEVER THE INPUT: true; the input reads as it did. -/
def windowKnownSpec : ChangeSpec := { name := "windowKnown", fn := fun _ => fun
  | [] => { results := [.lit (.bool true)], args := [] }
  | _ => none }
def windowKnownRow : OpenClaim := { program := "ytgmnemndjjmgkaagreat", sum := "0c7c0a3087f2b3385e4832fa10eddc1b37edc37abb41848182b6065a90da38a5", func := "seepage/seepagelaw37.WindowKnown", spec := "windowKnown", inPlace := ["maps.clone"], unfollowed := true, recurses := true, apart := false }
def WindowKnownSaid : Prop := windowKnownRow.holds Tryz.pinned (OpenSpec.ofChange windowKnownSpec)

/-- ITS FALSE NEIGHBOUR: 'it returns false'. Refute it at one input. -/
def windowKnownWrong : ChangeSpec := { name := "windowKnown", fn := fun _ => fun
  | [] => { results := [.lit (.bool false)], args := [] }
  | _ => none }
def WindowKnownWrongFalsely : Prop := windowKnownRow.holds Tryz.pinned (OpenSpec.ofChange windowKnownWrong)

/-- 'seepagelaw37.WindowRenews': WHATEVER THE INPUT: true; the input reads as it did. -/
def windowRenewsSpec : ChangeSpec := { name := "windowRenews", fn := fun _ => fun
  | [d1, d2] => { results := [.lit (.bool true)], args := [d1, d2] }
  | _ => none }
def windowRenewsRow : OpenClaim := { program := "ytgmnemndjjmgkaagreat", sum := "0c7c0a3087f2b3385e4832fa10eddc1b37edc37abb41848182b6065a90da38a5", func := "seepage/seepagelaw37.WindowRenews", spec := "windowRenews", inPlace := ["maps.clone"], unfollowed := true, recurses := true, apart := false }
def WindowRenewsSaid : Prop := windowRenewsRow.holds Tryz.pinned (OpenSpec.ofChange windowRenewsSpec)

/-- ITS FALSE NEIGHBOUR: 'it returns false'. Refute it at one input. -/
def windowRenewsWrong : ChangeSpec := { name := "windowRenews", fn := fun _ => fun
  | [d1, d2] => { results := [.lit (.bool false)], args := [d1, d2] }
  | _ => none }
def WindowRenewsWrongFalsely : Prop := windowRenewsRow.holds Tryz.pinned (OpenSpec.ofChange windowRenewsWrong)

/-- 'seepagelaw37.WindowPlays': WHATEVER THE INPUT: true; the input reads as it did. -/
def windowPlaysSpec : ChangeSpec := { name := "windowPlays", fn := fun _ => fun
  | [d1, d2, d3, d4] => { results := [.lit (.bool true)], args := [d1, d2, d3, d4] }
  | _ => none }
def windowPlaysRow : OpenClaim := { program := "ytgmnemndjjmgkaagreat", sum := "0c7c0a3087f2b3385e4832fa10eddc1b37edc37abb41848182b6065a90da38a5", func := "seepage/seepagelaw37.WindowPlays", spec := "windowPlays", inPlace := ["maps.clone"], unfollowed := true, recurses := true, apart := false }
def WindowPlaysSaid : Prop := windowPlaysRow.holds Tryz.pinned (OpenSpec.ofChange windowPlaysSpec)

/-- ITS FALSE NEIGHBOUR: 'it returns false'. Refute it at one input. -/
def windowPlaysWrong : ChangeSpec := { name := "windowPlays", fn := fun _ => fun
  | [d1, d2, d3, d4] => { results := [.lit (.bool false)], args := [d1, d2, d3, d4] }
  | _ => none }
def WindowPlaysWrongFalsely : Prop := windowPlaysRow.holds Tryz.pinned (OpenSpec.ofChange windowPlaysWrong)

/-- 'seepagelaw37.WindowNil': WHATEVER THE INPUT: true; the input reads as it did. -/
def windowNilSpec : ChangeSpec := { name := "windowNil", fn := fun _ => fun
  | [d] => { results := [.lit (.bool true)], args := [d] }
  | _ => none }
def windowNilRow : OpenClaim := { program := "ytgmnemndjjmgkaagreat", sum := "0c7c0a3087f2b3385e4832fa10eddc1b37edc37abb41848182b6065a90da38a5", func := "seepage/seepagelaw37.WindowNil", spec := "windowNil", inPlace := ["maps.clone"], unfollowed := true, recurses := true, apart := false }
def WindowNilSaid : Prop := windowNilRow.holds Tryz.pinned (OpenSpec.ofChange windowNilSpec)

/-- ITS FALSE NEIGHBOUR: 'it returns false'. Refute it at one input. -/
def windowNilWrong : ChangeSpec := { name := "windowNil", fn := fun _ => fun
  | [d] => { results := [.lit (.bool false)], args := [d] }
  | _ => none }
def WindowNilWrongFalsely : Prop := windowNilRow.holds Tryz.pinned (OpenSpec.ofChange windowNilWrong)

/-- 'seepagelaw37.WindowRestores': WHATEVER THE INPUT: true; the input reads as it did. -/
def windowRestoresSpec : ChangeSpec := { name := "windowRestores", fn := fun _ => fun
  | [d1, d2, d3, d4, d5] => { results := [.lit (.bool true)], args := [d1, d2, d3, d4, d5] }
  | _ => none }
def windowRestoresRow : OpenClaim := { program := "ytgmnemndjjmgkaagreat", sum := "0c7c0a3087f2b3385e4832fa10eddc1b37edc37abb41848182b6065a90da38a5", func := "seepage/seepagelaw37.WindowRestores", spec := "windowRestores", inPlace := ["maps.clone"], unfollowed := true, recurses := true, apart := false }
def WindowRestoresSaid : Prop := windowRestoresRow.holds Tryz.pinned (OpenSpec.ofChange windowRestoresSpec)

/-- ITS FALSE NEIGHBOUR: 'it returns false'. Refute it at one input. -/
def windowRestoresWrong : ChangeSpec := { name := "windowRestores", fn := fun _ => fun
  | [d1, d2, d3, d4, d5] => { results := [.lit (.bool false)], args := [d1, d2, d3, d4, d5] }
  | _ => none }
def WindowRestoresWrongFalsely : Prop := windowRestoresRow.holds Tryz.pinned (OpenSpec.ofChange windowRestoresWrong)

/- THE SECOND FORM. 'bulk': how many values and letters a reading holds, each counted each time it is reached (what is shared counts as often as it is met; a slice's spare places count too). A statement '..UptoSaid' is the law's where the arguments, and the package variables that the reading takes, are together of bulk at most 1048576: NARROWER than '..Said'. Prove '..Said' where nothing that the law and all that it calls make is longer than what came in: it says more and counts as full. Else prove '..UptoSaid'. A law counts once. -/
mutual
def uptoBulk {H : Type} : DataW H → Nat
  | .lit (.string bytes) => bytes.length + 1
  | .lit _ => 1
  | .nil => 1
  | .ptr d => uptoBulk d + 1
  | .slice elems spare => uptoBulkAll elems + uptoBulkAll spare + 1
  | .agg parts => uptoBulkAll parts + 1
  | .iface _ d => uptoBulk d + 1
  | .map entries => uptoBulkEntries entries + 1
  | .held _ => 1
def uptoBulkAll {H : Type} : List (DataW H) → Nat
  | [] => 0
  | d :: r => uptoBulk d + uptoBulkAll r
def uptoBulkEntries {H : Type} : List (Lit × DataW H) → Nat
  | [] => 0
  | x :: r => uptoBulkEntry x + uptoBulkEntries r
def uptoBulkEntry {H : Type} : Lit × DataW H → Nat
  | (.string bytes, d) => bytes.length + uptoBulk d + 1
  | (_, d) => uptoBulk d + 1
 end
def uptoSmall : (H : Type) → List (DataW H) → Bool := fun _ ds => decide (uptoBulkAll ds ≤ 1048576)
def OpenSpec.upto (s : _root_.Go.ChangeSpec) : _root_.Go.OpenSpec := { _root_.Go.OpenSpec.ofChange s with cond := some uptoSmall }

/-- 'seepagelaw37.WindowLasts', WHERE WHAT IT READS IS OF BULK AT MOST 1048576: true; the input reads as it did. -/
def windowLastsUptoRow : OpenClaim := { program := "ytgmnemndjjmgkaagreat", sum := "0c7c0a3087f2b3385e4832fa10eddc1b37edc37abb41848182b6065a90da38a5", func := "seepage/seepagelaw37.WindowLasts", spec := "windowLasts", inPlace := ["maps.clone"], unfollowed := true, recurses := true, apart := false, narrowed := true }
def WindowLastsUptoSaid : Prop := windowLastsUptoRow.holds Tryz.pinned (OpenSpec.upto windowLastsSpec)

/-- 'seepagelaw37.WindowRoom', WHERE WHAT IT READS IS OF BULK AT MOST 1048576: true; the input reads as it did. -/
def windowRoomUptoRow : OpenClaim := { program := "ytgmnemndjjmgkaagreat", sum := "0c7c0a3087f2b3385e4832fa10eddc1b37edc37abb41848182b6065a90da38a5", func := "seepage/seepagelaw37.WindowRoom", spec := "windowRoom", inPlace := ["maps.clone"], unfollowed := true, recurses := true, apart := false, narrowed := true }
def WindowRoomUptoSaid : Prop := windowRoomUptoRow.holds Tryz.pinned (OpenSpec.upto windowRoomSpec)

/-- 'seepagelaw37.WindowCounts', WHERE WHAT IT READS IS OF BULK AT MOST 1048576: true; the input reads as it did. -/
def windowCountsUptoRow : OpenClaim := { program := "ytgmnemndjjmgkaagreat", sum := "0c7c0a3087f2b3385e4832fa10eddc1b37edc37abb41848182b6065a90da38a5", func := "seepage/seepagelaw37.WindowCounts", spec := "windowCounts", inPlace := ["maps.clone"], unfollowed := true, recurses := true, apart := false, narrowed := true }
def WindowCountsUptoSaid : Prop := windowCountsUptoRow.holds Tryz.pinned (OpenSpec.upto windowCountsSpec)

/-- 'seepagelaw37.WindowNews', WHERE WHAT IT READS IS OF BULK AT MOST 1048576: true; the input reads as it did. -/
def windowNewsUptoRow : OpenClaim := { program := "ytgmnemndjjmgkaagreat", sum := "0c7c0a3087f2b3385e4832fa10eddc1b37edc37abb41848182b6065a90da38a5", func := "seepage/seepagelaw37.WindowNews", spec := "windowNews", inPlace := ["maps.clone"], unfollowed := true, recurses := true, apart := false, narrowed := true }
def WindowNewsUptoSaid : Prop := windowNewsUptoRow.holds Tryz.pinned (OpenSpec.upto windowNewsSpec)

/-- 'seepagelaw37.WindowKnown', WHERE WHAT IT READS IS OF BULK AT MOST 1048576: true; the input reads as it did. -/
def windowKnownUptoRow : OpenClaim := { program := "ytgmnemndjjmgkaagreat", sum := "0c7c0a3087f2b3385e4832fa10eddc1b37edc37abb41848182b6065a90da38a5", func := "seepage/seepagelaw37.WindowKnown", spec := "windowKnown", inPlace := ["maps.clone"], unfollowed := true, recurses := true, apart := false, narrowed := true }
def WindowKnownUptoSaid : Prop := windowKnownUptoRow.holds Tryz.pinned (OpenSpec.upto windowKnownSpec)

/-- 'seepagelaw37.WindowRenews', WHERE WHAT IT READS IS OF BULK AT MOST 1048576: true; the input reads as it did. -/
def windowRenewsUptoRow : OpenClaim := { program := "ytgmnemndjjmgkaagreat", sum := "0c7c0a3087f2b3385e4832fa10eddc1b37edc37abb41848182b6065a90da38a5", func := "seepage/seepagelaw37.WindowRenews", spec := "windowRenews", inPlace := ["maps.clone"], unfollowed := true, recurses := true, apart := false, narrowed := true }
def WindowRenewsUptoSaid : Prop := windowRenewsUptoRow.holds Tryz.pinned (OpenSpec.upto windowRenewsSpec)

/-- 'seepagelaw37.WindowPlays', WHERE WHAT IT READS IS OF BULK AT MOST 1048576: true; the input reads as it did. -/
def windowPlaysUptoRow : OpenClaim := { program := "ytgmnemndjjmgkaagreat", sum := "0c7c0a3087f2b3385e4832fa10eddc1b37edc37abb41848182b6065a90da38a5", func := "seepage/seepagelaw37.WindowPlays", spec := "windowPlays", inPlace := ["maps.clone"], unfollowed := true, recurses := true, apart := false, narrowed := true }
def WindowPlaysUptoSaid : Prop := windowPlaysUptoRow.holds Tryz.pinned (OpenSpec.upto windowPlaysSpec)

/-- 'seepagelaw37.WindowNil', WHERE WHAT IT READS IS OF BULK AT MOST 1048576: true; the input reads as it did. -/
def windowNilUptoRow : OpenClaim := { program := "ytgmnemndjjmgkaagreat", sum := "0c7c0a3087f2b3385e4832fa10eddc1b37edc37abb41848182b6065a90da38a5", func := "seepage/seepagelaw37.WindowNil", spec := "windowNil", inPlace := ["maps.clone"], unfollowed := true, recurses := true, apart := false, narrowed := true }
def WindowNilUptoSaid : Prop := windowNilUptoRow.holds Tryz.pinned (OpenSpec.upto windowNilSpec)

/-- 'seepagelaw37.WindowRestores', WHERE WHAT IT READS IS OF BULK AT MOST 1048576: true; the input reads as it did. -/
def windowRestoresUptoRow : OpenClaim := { program := "ytgmnemndjjmgkaagreat", sum := "0c7c0a3087f2b3385e4832fa10eddc1b37edc37abb41848182b6065a90da38a5", func := "seepage/seepagelaw37.WindowRestores", spec := "windowRestores", inPlace := ["maps.clone"], unfollowed := true, recurses := true, apart := false, narrowed := true }
def WindowRestoresUptoSaid : Prop := windowRestoresUptoRow.holds Tryz.pinned (OpenSpec.upto windowRestoresSpec)

end Rows
end Go.Proofs.YtgmnemndjjmgkaaGreat
