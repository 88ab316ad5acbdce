/-
  NARROWER THAN 'FOR EVERY INPUT', by the rows' own cells (each row's printed sentence says how): ImageSums: laid · ImageMixes: laid · ImageNil: laid · ImageLoads: laid · ImageSaves: laid · ImageFields: laid · ImageDamage: laid · ImageEnds: laid · ImageWrong: laid · ImageEquals: laid · ImageApart: laid · ImageBack: laid.
  DERIVED. THE GIVEN ROWS OF THIS SEAT. 12 by the template 'for every input the law returns true; each argument reads behind the call as it read before'; 0 by the template 'total and deterministic' (their statements: YtjdgpcjbgjnahaaGreatDoorTotals.lean).
  GIVEN WITH THE SEED: the statements are not yours to turn. If you find one false, say at which input.
  Laid BY PROGRAM, IN A SANDBOX (cutbox-rows.mjs): the forced cells as the released guide's own fill.sh prints them over the translation b3a9288d8dfdb104… (all of the seat's roots in one cut). By AI agents, Wed Nov 11 2026. No macro, syntax, notation, axiom, sorry.
-/
import Derived.Test.YtjdgpcjbgjnahaaGreatDoorChecked
import GoSem.Claim
import GoSem.ClaimJoined
import GoSem.ClaimMapViews
import Derived.JoinedTies
import Derived.KernelRfl
namespace Go.Proofs.YtjdgpcjbgjnahaaGreatDoor
/- THE CELL 'sum', in the pinned program and in every row, IS THE sha256 OF THE DUMP (.gsa) THAT YtjdgpcjbgjnahaaGreatDoorProg.lean LOADS. Nothing in Lean hashes anything: it is a label: what it is worth is what the hold of that sum in a sandbox is worth. -/
noncomputable def Tryz.pinned : Pinned := { name := "ytjdgpcjbgjnahaagreatdoor", sum := "b3a9288d8dfdb1044910fcdf6d2bc4fce3c1da7bf0a38dbc761d8de7f89b9b6b", checked := Tryz.checked }
namespace Rows
def none {H : Type} : Left H := { results := [], args := [] }

/- WHAT THE LISTED PACKAGE-LEVEL VARIABLES READ AS WHEN THE CALL BEGINS. Each datum BY PROGRAM (the guide's laid-datum.mjs) off the statement by which the dump's own 'gosem.cut.vars' lays the variable. In a bare row this is a premise. The card (YtjdgpcjbgjnahaaGreatDoorCards.lean) ties it to the program's text. -/
def laid_seepage_config_rows {H : Type} : DataW H := .agg [.agg [.lit (.string [119, 105, 110, 100, 111, 119]), .lit (.int .i64 1), .lit (.int .i64 9223372036854775807)], .agg [.lit (.string [101, 100, 103, 101, 115]), .lit (.int .i64 1), .lit (.int .i64 16384)], .agg [.lit (.string [118, 101, 114, 116, 115]), .lit (.int .i64 2), .lit (.int .i64 4096)], .agg [.lit (.string [100, 114, 97, 119, 115]), .lit (.int .i64 0), .lit (.int .i64 16384)]]

/-- 'seepagelaw43.ImageSums': WHATEVER THE INPUT: true; the input reads as it did. -/
def imageSumsSpec : ChangeSpec := { name := "imageSums", fn := fun _ => fun
  | [d] => { results := [.lit (.bool true)], args := [d] }
  | _ => none }
def imageSumsRow : OpenClaim := { program := "ytjdgpcjbgjnahaagreatdoor", sum := "b3a9288d8dfdb1044910fcdf6d2bc4fce3c1da7bf0a38dbc761d8de7f89b9b6b", func := "seepage/seepagelaw43.ImageSums", spec := "imageSums", unfollowed := true, recurses := true, named := ["seepage/config.rows"], apart := false, laid := [("seepage/config.rows", laid_seepage_config_rows)] }
def ImageSumsSaid : Prop := imageSumsRow.holds Tryz.pinned (OpenSpec.ofChange imageSumsSpec)

/-- ITS FALSE NEIGHBOUR: 'it returns false'. Refute it at one input. -/
def imageSumsWrong : ChangeSpec := { name := "imageSums", fn := fun _ => fun
  | [d] => { results := [.lit (.bool false)], args := [d] }
  | _ => none }
def ImageSumsWrongFalsely : Prop := imageSumsRow.holds Tryz.pinned (OpenSpec.ofChange imageSumsWrong)

/-- 'seepagelaw43.ImageMixes': WHATEVER THE INPUT: true; the input reads as it did. -/
def imageMixesSpec : ChangeSpec := { name := "imageMixes", fn := fun _ => fun
  | [d1, d2, d3] => { results := [.lit (.bool true)], args := [d1, d2, d3] }
  | _ => none }
def imageMixesRow : OpenClaim := { program := "ytjdgpcjbgjnahaagreatdoor", sum := "b3a9288d8dfdb1044910fcdf6d2bc4fce3c1da7bf0a38dbc761d8de7f89b9b6b", func := "seepage/seepagelaw43.ImageMixes", spec := "imageMixes", unfollowed := true, recurses := true, named := ["seepage/config.rows"], apart := false, laid := [("seepage/config.rows", laid_seepage_config_rows)] }
def ImageMixesSaid : Prop := imageMixesRow.holds Tryz.pinned (OpenSpec.ofChange imageMixesSpec)

/-- ITS FALSE NEIGHBOUR: 'it returns false'. Refute it at one input. -/
def imageMixesWrong : ChangeSpec := { name := "imageMixes", fn := fun _ => fun
  | [d1, d2, d3] => { results := [.lit (.bool false)], args := [d1, d2, d3] }
  | _ => none }
def ImageMixesWrongFalsely : Prop := imageMixesRow.holds Tryz.pinned (OpenSpec.ofChange imageMixesWrong)

/-- 'seepagelaw43.ImageNil': WHATEVER THE INPUT: true; the input reads as it did. -/
def imageNilSpec : ChangeSpec := { name := "imageNil", fn := fun _ => fun
  | [] => { results := [.lit (.bool true)], args := [] }
  | _ => none }
def imageNilRow : OpenClaim := { program := "ytjdgpcjbgjnahaagreatdoor", sum := "b3a9288d8dfdb1044910fcdf6d2bc4fce3c1da7bf0a38dbc761d8de7f89b9b6b", func := "seepage/seepagelaw43.ImageNil", spec := "imageNil", unfollowed := true, recurses := true, named := ["seepage/config.rows"], apart := false, laid := [("seepage/config.rows", laid_seepage_config_rows)] }
def ImageNilSaid : Prop := imageNilRow.holds Tryz.pinned (OpenSpec.ofChange imageNilSpec)

/-- ITS FALSE NEIGHBOUR: 'it returns false'. Refute it at one input. -/
def imageNilWrong : ChangeSpec := { name := "imageNil", fn := fun _ => fun
  | [] => { results := [.lit (.bool false)], args := [] }
  | _ => none }
def ImageNilWrongFalsely : Prop := imageNilRow.holds Tryz.pinned (OpenSpec.ofChange imageNilWrong)

/-- 'seepagelaw43.ImageLoads': WHATEVER THE INPUT: true; the input reads as it did. -/
def imageLoadsSpec : ChangeSpec := { name := "imageLoads", fn := fun _ => fun
  | [d1, d2] => { results := [.lit (.bool true)], args := [d1, d2] }
  | _ => none }
def imageLoadsRow : OpenClaim := { program := "ytjdgpcjbgjnahaagreatdoor", sum := "b3a9288d8dfdb1044910fcdf6d2bc4fce3c1da7bf0a38dbc761d8de7f89b9b6b", func := "seepage/seepagelaw43.ImageLoads", spec := "imageLoads", unfollowed := true, recurses := true, named := ["seepage/config.rows"], apart := false, laid := [("seepage/config.rows", laid_seepage_config_rows)] }
def ImageLoadsSaid : Prop := imageLoadsRow.holds Tryz.pinned (OpenSpec.ofChange imageLoadsSpec)

/-- ITS FALSE NEIGHBOUR: 'it returns false'. Refute it at one input. -/
def imageLoadsWrong : ChangeSpec := { name := "imageLoads", fn := fun _ => fun
  | [d1, d2] => { results := [.lit (.bool false)], args := [d1, d2] }
  | _ => none }
def ImageLoadsWrongFalsely : Prop := imageLoadsRow.holds Tryz.pinned (OpenSpec.ofChange imageLoadsWrong)

/-- 'seepagelaw43.ImageSaves': WHATEVER THE INPUT: true; the input reads as it did. -/
def imageSavesSpec : ChangeSpec := { name := "imageSaves", fn := fun _ => fun
  | [d1, d2] => { results := [.lit (.bool true)], args := [d1, d2] }
  | _ => none }
def imageSavesRow : OpenClaim := { program := "ytjdgpcjbgjnahaagreatdoor", sum := "b3a9288d8dfdb1044910fcdf6d2bc4fce3c1da7bf0a38dbc761d8de7f89b9b6b", func := "seepage/seepagelaw43.ImageSaves", spec := "imageSaves", inPlace := ["maps.clone"], unfollowed := true, recurses := true, named := ["seepage/config.rows"], apart := false, laid := [("seepage/config.rows", laid_seepage_config_rows)] }
def ImageSavesSaid : Prop := imageSavesRow.holds Tryz.pinned (OpenSpec.ofChange imageSavesSpec)

/-- ITS FALSE NEIGHBOUR: 'it returns false'. Refute it at one input. -/
def imageSavesWrong : ChangeSpec := { name := "imageSaves", fn := fun _ => fun
  | [d1, d2] => { results := [.lit (.bool false)], args := [d1, d2] }
  | _ => none }
def ImageSavesWrongFalsely : Prop := imageSavesRow.holds Tryz.pinned (OpenSpec.ofChange imageSavesWrong)

/-- 'seepagelaw43.ImageFields': WHATEVER THE INPUT: true; the input reads as it did. -/
def imageFieldsSpec : ChangeSpec := { name := "imageFields", fn := fun _ => fun
  | [d1, d2] => { results := [.lit (.bool true)], args := [d1, d2] }
  | _ => none }
def imageFieldsRow : OpenClaim := { program := "ytjdgpcjbgjnahaagreatdoor", sum := "b3a9288d8dfdb1044910fcdf6d2bc4fce3c1da7bf0a38dbc761d8de7f89b9b6b", func := "seepage/seepagelaw43.ImageFields", spec := "imageFields", inPlace := ["maps.clone"], unfollowed := true, recurses := true, named := ["seepage/config.rows"], apart := false, laid := [("seepage/config.rows", laid_seepage_config_rows)] }
def ImageFieldsSaid : Prop := imageFieldsRow.holds Tryz.pinned (OpenSpec.ofChange imageFieldsSpec)

/-- ITS FALSE NEIGHBOUR: 'it returns false'. Refute it at one input. -/
def imageFieldsWrong : ChangeSpec := { name := "imageFields", fn := fun _ => fun
  | [d1, d2] => { results := [.lit (.bool false)], args := [d1, d2] }
  | _ => none }
def ImageFieldsWrongFalsely : Prop := imageFieldsRow.holds Tryz.pinned (OpenSpec.ofChange imageFieldsWrong)

/-- 'seepagelaw43.ImageDamage': WHATEVER THE INPUT: true; the input reads as it did. -/
def imageDamageSpec : ChangeSpec := { name := "imageDamage", fn := fun _ => fun
  | [d1, d2, d3, d4, d5] => { results := [.lit (.bool true)], args := [d1, d2, d3, d4, d5] }
  | _ => none }
def imageDamageRow : OpenClaim := { program := "ytjdgpcjbgjnahaagreatdoor", sum := "b3a9288d8dfdb1044910fcdf6d2bc4fce3c1da7bf0a38dbc761d8de7f89b9b6b", func := "seepage/seepagelaw43.ImageDamage", spec := "imageDamage", inPlace := ["maps.clone"], unfollowed := true, recurses := true, named := ["seepage/config.rows"], apart := false, laid := [("seepage/config.rows", laid_seepage_config_rows)] }
def ImageDamageSaid : Prop := imageDamageRow.holds Tryz.pinned (OpenSpec.ofChange imageDamageSpec)

/-- ITS FALSE NEIGHBOUR: 'it returns false'. Refute it at one input. -/
def imageDamageWrong : ChangeSpec := { name := "imageDamage", fn := fun _ => fun
  | [d1, d2, d3, d4, d5] => { results := [.lit (.bool false)], args := [d1, d2, d3, d4, d5] }
  | _ => none }
def ImageDamageWrongFalsely : Prop := imageDamageRow.holds Tryz.pinned (OpenSpec.ofChange imageDamageWrong)

/-- 'seepagelaw43.ImageEnds': WHATEVER THE INPUT: true; the input reads as it did. -/
def imageEndsSpec : ChangeSpec := { name := "imageEnds", fn := fun _ => fun
  | [d1, d2, d3, d4] => { results := [.lit (.bool true)], args := [d1, d2, d3, d4] }
  | _ => none }
def imageEndsRow : OpenClaim := { program := "ytjdgpcjbgjnahaagreatdoor", sum := "b3a9288d8dfdb1044910fcdf6d2bc4fce3c1da7bf0a38dbc761d8de7f89b9b6b", func := "seepage/seepagelaw43.ImageEnds", spec := "imageEnds", inPlace := ["maps.clone"], unfollowed := true, recurses := true, named := ["seepage/config.rows"], apart := false, laid := [("seepage/config.rows", laid_seepage_config_rows)] }
def ImageEndsSaid : Prop := imageEndsRow.holds Tryz.pinned (OpenSpec.ofChange imageEndsSpec)

/-- ITS FALSE NEIGHBOUR: 'it returns false'. Refute it at one input. -/
def imageEndsWrong : ChangeSpec := { name := "imageEnds", fn := fun _ => fun
  | [d1, d2, d3, d4] => { results := [.lit (.bool false)], args := [d1, d2, d3, d4] }
  | _ => none }
def ImageEndsWrongFalsely : Prop := imageEndsRow.holds Tryz.pinned (OpenSpec.ofChange imageEndsWrong)

/-- 'seepagelaw43.ImageWrong': WHATEVER THE INPUT: true; the input reads as it did. -/
def imageWrongSpec : ChangeSpec := { name := "imageWrong", fn := fun _ => fun
  | [d1, d2, d3, d4] => { results := [.lit (.bool true)], args := [d1, d2, d3, d4] }
  | _ => none }
def imageWrongRow : OpenClaim := { program := "ytjdgpcjbgjnahaagreatdoor", sum := "b3a9288d8dfdb1044910fcdf6d2bc4fce3c1da7bf0a38dbc761d8de7f89b9b6b", func := "seepage/seepagelaw43.ImageWrong", spec := "imageWrong", inPlace := ["maps.clone"], unfollowed := true, recurses := true, named := ["seepage/config.rows"], apart := false, laid := [("seepage/config.rows", laid_seepage_config_rows)] }
def ImageWrongSaid : Prop := imageWrongRow.holds Tryz.pinned (OpenSpec.ofChange imageWrongSpec)

/-- ITS FALSE NEIGHBOUR: 'it returns false'. Refute it at one input. -/
def imageWrongWrong : ChangeSpec := { name := "imageWrong", fn := fun _ => fun
  | [d1, d2, d3, d4] => { results := [.lit (.bool false)], args := [d1, d2, d3, d4] }
  | _ => none }
def ImageWrongWrongFalsely : Prop := imageWrongRow.holds Tryz.pinned (OpenSpec.ofChange imageWrongWrong)

/-- 'seepagelaw43.ImageEquals': WHATEVER THE INPUT: true; the input reads as it did. -/
def imageEqualsSpec : ChangeSpec := { name := "imageEquals", fn := fun _ => fun
  | [d1, d2, d3, d4] => { results := [.lit (.bool true)], args := [d1, d2, d3, d4] }
  | _ => none }
def imageEqualsRow : OpenClaim := { program := "ytjdgpcjbgjnahaagreatdoor", sum := "b3a9288d8dfdb1044910fcdf6d2bc4fce3c1da7bf0a38dbc761d8de7f89b9b6b", func := "seepage/seepagelaw43.ImageEquals", spec := "imageEquals", inPlace := ["maps.clone"], unfollowed := true, recurses := true, named := ["seepage/config.rows"], apart := false, laid := [("seepage/config.rows", laid_seepage_config_rows)] }
def ImageEqualsSaid : Prop := imageEqualsRow.holds Tryz.pinned (OpenSpec.ofChange imageEqualsSpec)

/-- ITS FALSE NEIGHBOUR: 'it returns false'. Refute it at one input. -/
def imageEqualsWrong : ChangeSpec := { name := "imageEquals", fn := fun _ => fun
  | [d1, d2, d3, d4] => { results := [.lit (.bool false)], args := [d1, d2, d3, d4] }
  | _ => none }
def ImageEqualsWrongFalsely : Prop := imageEqualsRow.holds Tryz.pinned (OpenSpec.ofChange imageEqualsWrong)

/-- 'seepagelaw43.ImageApart': WHATEVER THE INPUT: true; the input reads as it did. -/
def imageApartSpec : ChangeSpec := { name := "imageApart", fn := fun _ => fun
  | [d1, d2, d3, d4] => { results := [.lit (.bool true)], args := [d1, d2, d3, d4] }
  | _ => none }
def imageApartRow : OpenClaim := { program := "ytjdgpcjbgjnahaagreatdoor", sum := "b3a9288d8dfdb1044910fcdf6d2bc4fce3c1da7bf0a38dbc761d8de7f89b9b6b", func := "seepage/seepagelaw43.ImageApart", spec := "imageApart", inPlace := ["maps.clone"], unfollowed := true, recurses := true, named := ["seepage/config.rows"], apart := false, laid := [("seepage/config.rows", laid_seepage_config_rows)] }
def ImageApartSaid : Prop := imageApartRow.holds Tryz.pinned (OpenSpec.ofChange imageApartSpec)

/-- ITS FALSE NEIGHBOUR: 'it returns false'. Refute it at one input. -/
def imageApartWrong : ChangeSpec := { name := "imageApart", fn := fun _ => fun
  | [d1, d2, d3, d4] => { results := [.lit (.bool false)], args := [d1, d2, d3, d4] }
  | _ => none }
def ImageApartWrongFalsely : Prop := imageApartRow.holds Tryz.pinned (OpenSpec.ofChange imageApartWrong)

/-- 'seepagelaw43.ImageBack': WHATEVER THE INPUT: true; the input reads as it did. -/
def imageBackSpec : ChangeSpec := { name := "imageBack", fn := fun _ => fun
  | [d1, d2, d3] => { results := [.lit (.bool true)], args := [d1, d2, d3] }
  | _ => none }
def imageBackRow : OpenClaim := { program := "ytjdgpcjbgjnahaagreatdoor", sum := "b3a9288d8dfdb1044910fcdf6d2bc4fce3c1da7bf0a38dbc761d8de7f89b9b6b", func := "seepage/seepagelaw43.ImageBack", spec := "imageBack", inPlace := ["maps.clone"], unfollowed := true, recurses := true, named := ["seepage/config.rows"], apart := false, laid := [("seepage/config.rows", laid_seepage_config_rows)] }
def ImageBackSaid : Prop := imageBackRow.holds Tryz.pinned (OpenSpec.ofChange imageBackSpec)

/-- ITS FALSE NEIGHBOUR: 'it returns false'. Refute it at one input. -/
def imageBackWrong : ChangeSpec := { name := "imageBack", fn := fun _ => fun
  | [d1, d2, d3] => { results := [.lit (.bool false)], args := [d1, d2, d3] }
  | _ => none }
def ImageBackWrongFalsely : Prop := imageBackRow.holds Tryz.pinned (OpenSpec.ofChange imageBackWrong)

/- THE SECOND FORM. 'bulk': how many values and letters a reading holds, each counted each time it is reached (what is shared counts as often as it is met; a slice's spare places count too). A statement '..UptoSaid' is the law's where the arguments, and the package variables that the reading takes, are together of bulk at most 1048576: NARROWER than '..Said'. Prove '..Said' where nothing that the law and all that it calls make is longer than what came in: it says more and counts as full. Else prove '..UptoSaid'. A law counts once. -/
mutual
def uptoBulk {H : Type} : DataW H → Nat
  | .lit (.string bytes) => bytes.length + 1
  | .lit _ => 1
  | .nil => 1
  | .ptr d => uptoBulk d + 1
  | .slice elems spare => uptoBulkAll elems + uptoBulkAll spare + 1
  | .agg parts => uptoBulkAll parts + 1
  | .iface _ d => uptoBulk d + 1
  | .map entries => uptoBulkEntries entries + 1
  | .held _ => 1
def uptoBulkAll {H : Type} : List (DataW H) → Nat
  | [] => 0
  | d :: r => uptoBulk d + uptoBulkAll r
def uptoBulkEntries {H : Type} : List (Lit × DataW H) → Nat
  | [] => 0
  | x :: r => uptoBulkEntry x + uptoBulkEntries r
def uptoBulkEntry {H : Type} : Lit × DataW H → Nat
  | (.string bytes, d) => bytes.length + uptoBulk d + 1
  | (_, d) => uptoBulk d + 1
 end
def uptoSmall : (H : Type) → List (DataW H) → Bool := fun _ ds => decide (uptoBulkAll ds ≤ 1048576)
def OpenSpec.upto (s : _root_.Go.ChangeSpec) : _root_.Go.OpenSpec := { _root_.Go.OpenSpec.ofChange s with cond := some uptoSmall }

/-- 'seepagelaw43.ImageSums', WHERE WHAT IT READS IS OF BULK AT MOST 1048576: true; the input reads as it did. -/
def imageSumsUptoRow : OpenClaim := { program := "ytjdgpcjbgjnahaagreatdoor", sum := "b3a9288d8dfdb1044910fcdf6d2bc4fce3c1da7bf0a38dbc761d8de7f89b9b6b", func := "seepage/seepagelaw43.ImageSums", spec := "imageSums", unfollowed := true, recurses := true, named := ["seepage/config.rows"], apart := false, laid := [("seepage/config.rows", laid_seepage_config_rows)], narrowed := true }
def ImageSumsUptoSaid : Prop := imageSumsUptoRow.holds Tryz.pinned (OpenSpec.upto imageSumsSpec)

/-- 'seepagelaw43.ImageMixes', WHERE WHAT IT READS IS OF BULK AT MOST 1048576: true; the input reads as it did. -/
def imageMixesUptoRow : OpenClaim := { program := "ytjdgpcjbgjnahaagreatdoor", sum := "b3a9288d8dfdb1044910fcdf6d2bc4fce3c1da7bf0a38dbc761d8de7f89b9b6b", func := "seepage/seepagelaw43.ImageMixes", spec := "imageMixes", unfollowed := true, recurses := true, named := ["seepage/config.rows"], apart := false, laid := [("seepage/config.rows", laid_seepage_config_rows)], narrowed := true }
def ImageMixesUptoSaid : Prop := imageMixesUptoRow.holds Tryz.pinned (OpenSpec.upto imageMixesSpec)

/-- 'seepagelaw43.ImageNil', WHERE WHAT IT READS IS OF BULK AT MOST 1048576: true; the input reads as it did. -/
def imageNilUptoRow : OpenClaim := { program := "ytjdgpcjbgjnahaagreatdoor", sum := "b3a9288d8dfdb1044910fcdf6d2bc4fce3c1da7bf0a38dbc761d8de7f89b9b6b", func := "seepage/seepagelaw43.ImageNil", spec := "imageNil", unfollowed := true, recurses := true, named := ["seepage/config.rows"], apart := false, laid := [("seepage/config.rows", laid_seepage_config_rows)], narrowed := true }
def ImageNilUptoSaid : Prop := imageNilUptoRow.holds Tryz.pinned (OpenSpec.upto imageNilSpec)

/-- 'seepagelaw43.ImageLoads', WHERE WHAT IT READS IS OF BULK AT MOST 1048576: true; the input reads as it did. -/
def imageLoadsUptoRow : OpenClaim := { program := "ytjdgpcjbgjnahaagreatdoor", sum := "b3a9288d8dfdb1044910fcdf6d2bc4fce3c1da7bf0a38dbc761d8de7f89b9b6b", func := "seepage/seepagelaw43.ImageLoads", spec := "imageLoads", unfollowed := true, recurses := true, named := ["seepage/config.rows"], apart := false, laid := [("seepage/config.rows", laid_seepage_config_rows)], narrowed := true }
def ImageLoadsUptoSaid : Prop := imageLoadsUptoRow.holds Tryz.pinned (OpenSpec.upto imageLoadsSpec)

/-- 'seepagelaw43.ImageSaves', WHERE WHAT IT READS IS OF BULK AT MOST 1048576: true; the input reads as it did. -/
def imageSavesUptoRow : OpenClaim := { program := "ytjdgpcjbgjnahaagreatdoor", sum := "b3a9288d8dfdb1044910fcdf6d2bc4fce3c1da7bf0a38dbc761d8de7f89b9b6b", func := "seepage/seepagelaw43.ImageSaves", spec := "imageSaves", inPlace := ["maps.clone"], unfollowed := true, recurses := true, named := ["seepage/config.rows"], apart := false, laid := [("seepage/config.rows", laid_seepage_config_rows)], narrowed := true }
def ImageSavesUptoSaid : Prop := imageSavesUptoRow.holds Tryz.pinned (OpenSpec.upto imageSavesSpec)

/-- 'seepagelaw43.ImageFields', WHERE WHAT IT READS IS OF BULK AT MOST 1048576: true; the input reads as it did. -/
def imageFieldsUptoRow : OpenClaim := { program := "ytjdgpcjbgjnahaagreatdoor", sum := "b3a9288d8dfdb1044910fcdf6d2bc4fce3c1da7bf0a38dbc761d8de7f89b9b6b", func := "seepage/seepagelaw43.ImageFields", spec := "imageFields", inPlace := ["maps.clone"], unfollowed := true, recurses := true, named := ["seepage/config.rows"], apart := false, laid := [("seepage/config.rows", laid_seepage_config_rows)], narrowed := true }
def ImageFieldsUptoSaid : Prop := imageFieldsUptoRow.holds Tryz.pinned (OpenSpec.upto imageFieldsSpec)

/-- 'seepagelaw43.ImageDamage', WHERE WHAT IT READS IS OF BULK AT MOST 1048576: true; the input reads as it did. -/
def imageDamageUptoRow : OpenClaim := { program := "ytjdgpcjbgjnahaagreatdoor", sum := "b3a9288d8dfdb1044910fcdf6d2bc4fce3c1da7bf0a38dbc761d8de7f89b9b6b", func := "seepage/seepagelaw43.ImageDamage", spec := "imageDamage", inPlace := ["maps.clone"], unfollowed := true, recurses := true, named := ["seepage/config.rows"], apart := false, laid := [("seepage/config.rows", laid_seepage_config_rows)], narrowed := true }
def ImageDamageUptoSaid : Prop := imageDamageUptoRow.holds Tryz.pinned (OpenSpec.upto imageDamageSpec)

/-- 'seepagelaw43.ImageEnds', WHERE WHAT IT READS IS OF BULK AT MOST 1048576: true; the input reads as it did. -/
def imageEndsUptoRow : OpenClaim := { program := "ytjdgpcjbgjnahaagreatdoor", sum := "b3a9288d8dfdb1044910fcdf6d2bc4fce3c1da7bf0a38dbc761d8de7f89b9b6b", func := "seepage/seepagelaw43.ImageEnds", spec := "imageEnds", inPlace := ["maps.clone"], unfollowed := true, recurses := true, named := ["seepage/config.rows"], apart := false, laid := [("seepage/config.rows", laid_seepage_config_rows)], narrowed := true }
def ImageEndsUptoSaid : Prop := imageEndsUptoRow.holds Tryz.pinned (OpenSpec.upto imageEndsSpec)

/-- 'seepagelaw43.ImageWrong', WHERE WHAT IT READS IS OF BULK AT MOST 1048576: true; the input reads as it did. -/
def imageWrongUptoRow : OpenClaim := { program := "ytjdgpcjbgjnahaagreatdoor", sum := "b3a9288d8dfdb1044910fcdf6d2bc4fce3c1da7bf0a38dbc761d8de7f89b9b6b", func := "seepage/seepagelaw43.ImageWrong", spec := "imageWrong", inPlace := ["maps.clone"], unfollowed := true, recurses := true, named := ["seepage/config.rows"], apart := false, laid := [("seepage/config.rows", laid_seepage_config_rows)], narrowed := true }
def ImageWrongUptoSaid : Prop := imageWrongUptoRow.holds Tryz.pinned (OpenSpec.upto imageWrongSpec)

/-- 'seepagelaw43.ImageEquals', WHERE WHAT IT READS IS OF BULK AT MOST 1048576: true; the input reads as it did. -/
def imageEqualsUptoRow : OpenClaim := { program := "ytjdgpcjbgjnahaagreatdoor", sum := "b3a9288d8dfdb1044910fcdf6d2bc4fce3c1da7bf0a38dbc761d8de7f89b9b6b", func := "seepage/seepagelaw43.ImageEquals", spec := "imageEquals", inPlace := ["maps.clone"], unfollowed := true, recurses := true, named := ["seepage/config.rows"], apart := false, laid := [("seepage/config.rows", laid_seepage_config_rows)], narrowed := true }
def ImageEqualsUptoSaid : Prop := imageEqualsUptoRow.holds Tryz.pinned (OpenSpec.upto imageEqualsSpec)

/-- 'seepagelaw43.ImageApart', WHERE WHAT IT READS IS OF BULK AT MOST 1048576: true; the input reads as it did. -/
def imageApartUptoRow : OpenClaim := { program := "ytjdgpcjbgjnahaagreatdoor", sum := "b3a9288d8dfdb1044910fcdf6d2bc4fce3c1da7bf0a38dbc761d8de7f89b9b6b", func := "seepage/seepagelaw43.ImageApart", spec := "imageApart", inPlace := ["maps.clone"], unfollowed := true, recurses := true, named := ["seepage/config.rows"], apart := false, laid := [("seepage/config.rows", laid_seepage_config_rows)], narrowed := true }
def ImageApartUptoSaid : Prop := imageApartUptoRow.holds Tryz.pinned (OpenSpec.upto imageApartSpec)

/-- 'seepagelaw43.ImageBack', WHERE WHAT IT READS IS OF BULK AT MOST 1048576: true; the input reads as it did. -/
def imageBackUptoRow : OpenClaim := { program := "ytjdgpcjbgjnahaagreatdoor", sum := "b3a9288d8dfdb1044910fcdf6d2bc4fce3c1da7bf0a38dbc761d8de7f89b9b6b", func := "seepage/seepagelaw43.ImageBack", spec := "imageBack", inPlace := ["maps.clone"], unfollowed := true, recurses := true, named := ["seepage/config.rows"], apart := false, laid := [("seepage/config.rows", laid_seepage_config_rows)], narrowed := true }
def ImageBackUptoSaid : Prop := imageBackUptoRow.holds Tryz.pinned (OpenSpec.upto imageBackSpec)

end Rows
end Go.Proofs.YtjdgpcjbgjnahaaGreatDoor
