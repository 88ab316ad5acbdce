/-
  DERIVED. GIVEN WITH THE SEED: THE CARDS: each row of YtjdgpcjbgjnahaaGreatDoorRows.lean that lists a variable, with what it lists TIED to the program's text (the seventh form; the later family's looks); each row that meets fmt, with fmt's text TOLD by the authors' own Lean function (tested against real Go, not proved from fmt's source: count such statements apart). THE CARD IS WHAT COUNTS. Prove the row's statement (the work); the ties are given (YtjdgpcjbgjnahaaGreatDoorTie.lean); close each card by the builder's one call (the guide's Derived/Test/ToyasCard.lean, 'card_holds'). Laid BY PROGRAM, IN A SANDBOX (cutbox-door.mjs). By AI agents, Wed Nov 11 2026. No macro, syntax, notation, axiom, sorry.
-/
import Derived.Test.YtjdgpcjbgjnahaaGreatDoorRows
import GoSem.ClaimSeven
namespace Go.Proofs.YtjdgpcjbgjnahaaGreatDoor
namespace Rows

/-- THE TIED CARD OF 'seepagelaw43.ImageSums'. -/
def imageSumsCard : Claim7 := { stood := { row := imageSumsRow, standIns := [], harness := (true, "b794668284a096c90ab3d73d28c3344e75c0f6d39937ef53f4cd27343f4ba8a8"), looks := true }, kinds := [], alts := [], laidByText := true, laidKinds := [.data], laidTests := true, laidLooks := .later }
def ImageSumsCardSaid : Prop := Claim7.holds Tryz.pinned (.plain (OpenSpec.ofChange imageSumsSpec)) imageSumsCard

/-- THE TIED CARD OF 'seepagelaw43.ImageMixes'. -/
def imageMixesCard : Claim7 := { stood := { row := imageMixesRow, standIns := [], harness := (true, "b794668284a096c90ab3d73d28c3344e75c0f6d39937ef53f4cd27343f4ba8a8"), looks := true }, kinds := [], alts := [], laidByText := true, laidKinds := [.data], laidTests := true, laidLooks := .later }
def ImageMixesCardSaid : Prop := Claim7.holds Tryz.pinned (.plain (OpenSpec.ofChange imageMixesSpec)) imageMixesCard

/-- THE TIED CARD OF 'seepagelaw43.ImageNil'. -/
def imageNilCard : Claim7 := { stood := { row := imageNilRow, standIns := [], harness := (true, "b794668284a096c90ab3d73d28c3344e75c0f6d39937ef53f4cd27343f4ba8a8"), looks := true }, kinds := [], alts := [], laidByText := true, laidKinds := [.data], laidTests := true, laidLooks := .later }
def ImageNilCardSaid : Prop := Claim7.holds Tryz.pinned (.plain (OpenSpec.ofChange imageNilSpec)) imageNilCard

/-- THE TIED CARD OF 'seepagelaw43.ImageLoads'. -/
def imageLoadsCard : Claim7 := { stood := { row := imageLoadsRow, standIns := [], harness := (true, "b794668284a096c90ab3d73d28c3344e75c0f6d39937ef53f4cd27343f4ba8a8"), looks := true }, kinds := [], alts := [], laidByText := true, laidKinds := [.data], laidTests := true, laidLooks := .later }
def ImageLoadsCardSaid : Prop := Claim7.holds Tryz.pinned (.plain (OpenSpec.ofChange imageLoadsSpec)) imageLoadsCard

/-- THE TIED CARD OF 'seepagelaw43.ImageSaves'. -/
def imageSavesCard : Claim7 := { stood := { row := imageSavesRow, standIns := [], harness := (true, "b794668284a096c90ab3d73d28c3344e75c0f6d39937ef53f4cd27343f4ba8a8"), looks := true }, kinds := [], alts := [], laidByText := true, laidKinds := [.data], laidTests := true, laidLooks := .later }
def ImageSavesCardSaid : Prop := Claim7.holds Tryz.pinned (.plain (OpenSpec.ofChange imageSavesSpec)) imageSavesCard

/-- THE TIED CARD OF 'seepagelaw43.ImageFields'. -/
def imageFieldsCard : Claim7 := { stood := { row := imageFieldsRow, standIns := [], harness := (true, "b794668284a096c90ab3d73d28c3344e75c0f6d39937ef53f4cd27343f4ba8a8"), looks := true }, kinds := [], alts := [], laidByText := true, laidKinds := [.data], laidTests := true, laidLooks := .later }
def ImageFieldsCardSaid : Prop := Claim7.holds Tryz.pinned (.plain (OpenSpec.ofChange imageFieldsSpec)) imageFieldsCard

/-- THE TIED CARD OF 'seepagelaw43.ImageDamage'. -/
def imageDamageCard : Claim7 := { stood := { row := imageDamageRow, standIns := [], harness := (true, "b794668284a096c90ab3d73d28c3344e75c0f6d39937ef53f4cd27343f4ba8a8"), looks := true }, kinds := [], alts := [], laidByText := true, laidKinds := [.data], laidTests := true, laidLooks := .later }
def ImageDamageCardSaid : Prop := Claim7.holds Tryz.pinned (.plain (OpenSpec.ofChange imageDamageSpec)) imageDamageCard

/-- THE TIED CARD OF 'seepagelaw43.ImageEnds'. -/
def imageEndsCard : Claim7 := { stood := { row := imageEndsRow, standIns := [], harness := (true, "b794668284a096c90ab3d73d28c3344e75c0f6d39937ef53f4cd27343f4ba8a8"), looks := true }, kinds := [], alts := [], laidByText := true, laidKinds := [.data], laidTests := true, laidLooks := .later }
def ImageEndsCardSaid : Prop := Claim7.holds Tryz.pinned (.plain (OpenSpec.ofChange imageEndsSpec)) imageEndsCard

/-- THE TIED CARD OF 'seepagelaw43.ImageWrong'. -/
def imageWrongCard : Claim7 := { stood := { row := imageWrongRow, standIns := [], harness := (true, "b794668284a096c90ab3d73d28c3344e75c0f6d39937ef53f4cd27343f4ba8a8"), looks := true }, kinds := [], alts := [], laidByText := true, laidKinds := [.data], laidTests := true, laidLooks := .later }
def ImageWrongCardSaid : Prop := Claim7.holds Tryz.pinned (.plain (OpenSpec.ofChange imageWrongSpec)) imageWrongCard

/-- THE TIED CARD OF 'seepagelaw43.ImageEquals'. -/
def imageEqualsCard : Claim7 := { stood := { row := imageEqualsRow, standIns := [], harness := (true, "b794668284a096c90ab3d73d28c3344e75c0f6d39937ef53f4cd27343f4ba8a8"), looks := true }, kinds := [], alts := [], laidByText := true, laidKinds := [.data], laidTests := true, laidLooks := .later }
def ImageEqualsCardSaid : Prop := Claim7.holds Tryz.pinned (.plain (OpenSpec.ofChange imageEqualsSpec)) imageEqualsCard

/-- THE TIED CARD OF 'seepagelaw43.ImageApart'. -/
def imageApartCard : Claim7 := { stood := { row := imageApartRow, standIns := [], harness := (true, "b794668284a096c90ab3d73d28c3344e75c0f6d39937ef53f4cd27343f4ba8a8"), looks := true }, kinds := [], alts := [], laidByText := true, laidKinds := [.data], laidTests := true, laidLooks := .later }
def ImageApartCardSaid : Prop := Claim7.holds Tryz.pinned (.plain (OpenSpec.ofChange imageApartSpec)) imageApartCard

/-- THE TIED CARD OF 'seepagelaw43.ImageBack'. -/
def imageBackCard : Claim7 := { stood := { row := imageBackRow, standIns := [], harness := (true, "b794668284a096c90ab3d73d28c3344e75c0f6d39937ef53f4cd27343f4ba8a8"), looks := true }, kinds := [], alts := [], laidByText := true, laidKinds := [.data], laidTests := true, laidLooks := .later }
def ImageBackCardSaid : Prop := Claim7.holds Tryz.pinned (.plain (OpenSpec.ofChange imageBackSpec)) imageBackCard

/-- THE SECOND FORM's CARD OF 'seepagelaw43.ImageSums'. -/
def imageSumsUptoCard : Claim7 := { stood := { row := imageSumsUptoRow, standIns := [], harness := (true, "b794668284a096c90ab3d73d28c3344e75c0f6d39937ef53f4cd27343f4ba8a8"), looks := true }, kinds := [], alts := [], laidByText := true, laidKinds := [.data], laidTests := true, laidLooks := .later }
def ImageSumsUptoCardSaid : Prop := Claim7.holds Tryz.pinned (.plain (OpenSpec.upto imageSumsSpec)) imageSumsUptoCard

/-- THE SECOND FORM's CARD OF 'seepagelaw43.ImageMixes'. -/
def imageMixesUptoCard : Claim7 := { stood := { row := imageMixesUptoRow, standIns := [], harness := (true, "b794668284a096c90ab3d73d28c3344e75c0f6d39937ef53f4cd27343f4ba8a8"), looks := true }, kinds := [], alts := [], laidByText := true, laidKinds := [.data], laidTests := true, laidLooks := .later }
def ImageMixesUptoCardSaid : Prop := Claim7.holds Tryz.pinned (.plain (OpenSpec.upto imageMixesSpec)) imageMixesUptoCard

/-- THE SECOND FORM's CARD OF 'seepagelaw43.ImageNil'. -/
def imageNilUptoCard : Claim7 := { stood := { row := imageNilUptoRow, standIns := [], harness := (true, "b794668284a096c90ab3d73d28c3344e75c0f6d39937ef53f4cd27343f4ba8a8"), looks := true }, kinds := [], alts := [], laidByText := true, laidKinds := [.data], laidTests := true, laidLooks := .later }
def ImageNilUptoCardSaid : Prop := Claim7.holds Tryz.pinned (.plain (OpenSpec.upto imageNilSpec)) imageNilUptoCard

/-- THE SECOND FORM's CARD OF 'seepagelaw43.ImageLoads'. -/
def imageLoadsUptoCard : Claim7 := { stood := { row := imageLoadsUptoRow, standIns := [], harness := (true, "b794668284a096c90ab3d73d28c3344e75c0f6d39937ef53f4cd27343f4ba8a8"), looks := true }, kinds := [], alts := [], laidByText := true, laidKinds := [.data], laidTests := true, laidLooks := .later }
def ImageLoadsUptoCardSaid : Prop := Claim7.holds Tryz.pinned (.plain (OpenSpec.upto imageLoadsSpec)) imageLoadsUptoCard

/-- THE SECOND FORM's CARD OF 'seepagelaw43.ImageSaves'. -/
def imageSavesUptoCard : Claim7 := { stood := { row := imageSavesUptoRow, standIns := [], harness := (true, "b794668284a096c90ab3d73d28c3344e75c0f6d39937ef53f4cd27343f4ba8a8"), looks := true }, kinds := [], alts := [], laidByText := true, laidKinds := [.data], laidTests := true, laidLooks := .later }
def ImageSavesUptoCardSaid : Prop := Claim7.holds Tryz.pinned (.plain (OpenSpec.upto imageSavesSpec)) imageSavesUptoCard

/-- THE SECOND FORM's CARD OF 'seepagelaw43.ImageFields'. -/
def imageFieldsUptoCard : Claim7 := { stood := { row := imageFieldsUptoRow, standIns := [], harness := (true, "b794668284a096c90ab3d73d28c3344e75c0f6d39937ef53f4cd27343f4ba8a8"), looks := true }, kinds := [], alts := [], laidByText := true, laidKinds := [.data], laidTests := true, laidLooks := .later }
def ImageFieldsUptoCardSaid : Prop := Claim7.holds Tryz.pinned (.plain (OpenSpec.upto imageFieldsSpec)) imageFieldsUptoCard

/-- THE SECOND FORM's CARD OF 'seepagelaw43.ImageDamage'. -/
def imageDamageUptoCard : Claim7 := { stood := { row := imageDamageUptoRow, standIns := [], harness := (true, "b794668284a096c90ab3d73d28c3344e75c0f6d39937ef53f4cd27343f4ba8a8"), looks := true }, kinds := [], alts := [], laidByText := true, laidKinds := [.data], laidTests := true, laidLooks := .later }
def ImageDamageUptoCardSaid : Prop := Claim7.holds Tryz.pinned (.plain (OpenSpec.upto imageDamageSpec)) imageDamageUptoCard

/-- THE SECOND FORM's CARD OF 'seepagelaw43.ImageEnds'. -/
def imageEndsUptoCard : Claim7 := { stood := { row := imageEndsUptoRow, standIns := [], harness := (true, "b794668284a096c90ab3d73d28c3344e75c0f6d39937ef53f4cd27343f4ba8a8"), looks := true }, kinds := [], alts := [], laidByText := true, laidKinds := [.data], laidTests := true, laidLooks := .later }
def ImageEndsUptoCardSaid : Prop := Claim7.holds Tryz.pinned (.plain (OpenSpec.upto imageEndsSpec)) imageEndsUptoCard

/-- THE SECOND FORM's CARD OF 'seepagelaw43.ImageWrong'. -/
def imageWrongUptoCard : Claim7 := { stood := { row := imageWrongUptoRow, standIns := [], harness := (true, "b794668284a096c90ab3d73d28c3344e75c0f6d39937ef53f4cd27343f4ba8a8"), looks := true }, kinds := [], alts := [], laidByText := true, laidKinds := [.data], laidTests := true, laidLooks := .later }
def ImageWrongUptoCardSaid : Prop := Claim7.holds Tryz.pinned (.plain (OpenSpec.upto imageWrongSpec)) imageWrongUptoCard

/-- THE SECOND FORM's CARD OF 'seepagelaw43.ImageEquals'. -/
def imageEqualsUptoCard : Claim7 := { stood := { row := imageEqualsUptoRow, standIns := [], harness := (true, "b794668284a096c90ab3d73d28c3344e75c0f6d39937ef53f4cd27343f4ba8a8"), looks := true }, kinds := [], alts := [], laidByText := true, laidKinds := [.data], laidTests := true, laidLooks := .later }
def ImageEqualsUptoCardSaid : Prop := Claim7.holds Tryz.pinned (.plain (OpenSpec.upto imageEqualsSpec)) imageEqualsUptoCard

/-- THE SECOND FORM's CARD OF 'seepagelaw43.ImageApart'. -/
def imageApartUptoCard : Claim7 := { stood := { row := imageApartUptoRow, standIns := [], harness := (true, "b794668284a096c90ab3d73d28c3344e75c0f6d39937ef53f4cd27343f4ba8a8"), looks := true }, kinds := [], alts := [], laidByText := true, laidKinds := [.data], laidTests := true, laidLooks := .later }
def ImageApartUptoCardSaid : Prop := Claim7.holds Tryz.pinned (.plain (OpenSpec.upto imageApartSpec)) imageApartUptoCard

/-- THE SECOND FORM's CARD OF 'seepagelaw43.ImageBack'. -/
def imageBackUptoCard : Claim7 := { stood := { row := imageBackUptoRow, standIns := [], harness := (true, "b794668284a096c90ab3d73d28c3344e75c0f6d39937ef53f4cd27343f4ba8a8"), looks := true }, kinds := [], alts := [], laidByText := true, laidKinds := [.data], laidTests := true, laidLooks := .later }
def ImageBackUptoCardSaid : Prop := Claim7.holds Tryz.pinned (.plain (OpenSpec.upto imageBackSpec)) imageBackUptoCard
end Rows
end Go.Proofs.YtjdgpcjbgjnahaaGreatDoor
