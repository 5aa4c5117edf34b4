/-
  DERIVED. GIVEN WITH THE SEED: THE CARDS: each row of YtonhlgidfgogiaaDoorRows.lean that lists a variable, with what it lists TIED to the program's text (the seventh form; the later family's looks); each row that meets fmt, with fmt's text TOLD by the authors' own Lean function (tested against real Go, not proved from fmt's source: count such statements apart). THE CARD IS WHAT COUNTS. Prove the row's statement (the work); the ties are given (YtonhlgidfgogiaaDoorTie.lean); close each card by the builder's one call (the guide's Derived/Test/ToyasCard.lean, 'card_holds'). Laid BY PROGRAM, IN A SANDBOX (cutbox-door.mjs). By AI agents, Wed Nov 11 2026. No macro, syntax, notation, axiom, sorry.
-/
import Derived.Test.YtonhlgidfgogiaaDoorRows
import GoSem.ClaimSeven
namespace Go.Proofs.YtonhlgidfgogiaaDoor
namespace Rows

/-- THE TIED CARD OF 'scholialaw04.FoldSigns'. -/
def foldSignsCard : Claim7 := { stood := { row := foldSignsRow, standIns := [], harness := (true, "9f7bc0ca22f124f31e55e7fc7ac499fd6f5421ba599d7711b869c03910dd1424"), looks := false }, kinds := [], alts := [], laidByText := true, laidKinds := [.data], laidTests := true, laidLooks := .later }
def FoldSignsCardSaid : Prop := Claim7.holds Tryd.pinned (.plain (OpenSpec.ofChange foldSignsSpec)) foldSignsCard

/-- THE TIED CARD OF 'scholialaw04.FoldTexts'. -/
def foldTextsCard : Claim7 := { stood := { row := foldTextsRow, standIns := [], harness := (true, "9f7bc0ca22f124f31e55e7fc7ac499fd6f5421ba599d7711b869c03910dd1424"), looks := false }, kinds := [], alts := [], laidByText := true, laidKinds := [.data], laidTests := true, laidLooks := .later }
def FoldTextsCardSaid : Prop := Claim7.holds Tryd.pinned (.plain (OpenSpec.ofChange foldTextsSpec)) foldTextsCard

/-- THE TIED CARD OF 'scholialaw04.FoldOnce'. -/
def foldOnceCard : Claim7 := { stood := { row := foldOnceRow, standIns := [], harness := (true, "9f7bc0ca22f124f31e55e7fc7ac499fd6f5421ba599d7711b869c03910dd1424"), looks := false }, kinds := [], alts := [], laidByText := true, laidKinds := [.data], laidTests := true, laidLooks := .later }
def FoldOnceCardSaid : Prop := Claim7.holds Tryd.pinned (.plain (OpenSpec.ofChange foldOnceSpec)) foldOnceCard

/-- THE TIED CARD OF 'scholialaw04.FoldAgain'. -/
def foldAgainCard : Claim7 := { stood := { row := foldAgainRow, standIns := [], harness := (true, "9f7bc0ca22f124f31e55e7fc7ac499fd6f5421ba599d7711b869c03910dd1424"), looks := false }, kinds := [], alts := [], laidByText := true, laidKinds := [.data], laidTests := true, laidLooks := .later }
def FoldAgainCardSaid : Prop := Claim7.holds Tryd.pinned (.plain (OpenSpec.ofChange foldAgainSpec)) foldAgainCard

/-- THE TIED CARD OF 'scholialaw16.StemWords'. -/
def stemWordsCard : Claim7 := { stood := { row := stemWordsRow, standIns := [], harness := (true, "9f7bc0ca22f124f31e55e7fc7ac499fd6f5421ba599d7711b869c03910dd1424"), looks := false }, kinds := [], alts := [], laidByText := true, laidKinds := [.data, .data], laidTests := true, laidLooks := .later }
def StemWordsCardSaid : Prop := Claim7.holds Tryd.pinned (.plain (OpenSpec.ofChange stemWordsSpec)) stemWordsCard

/-- THE TIED CARD OF 'scholialaw16.StemShort'. -/
def stemShortCard : Claim7 := { stood := { row := stemShortRow, standIns := [], harness := (true, "9f7bc0ca22f124f31e55e7fc7ac499fd6f5421ba599d7711b869c03910dd1424"), looks := false }, kinds := [], alts := [], laidByText := true, laidKinds := [.data, .data], laidTests := true, laidLooks := .later }
def StemShortCardSaid : Prop := Claim7.holds Tryd.pinned (.plain (OpenSpec.ofChange stemShortSpec)) stemShortCard

/-- THE TIED CARD OF 'scholialaw16.StemOthers'. -/
def stemOthersCard : Claim7 := { stood := { row := stemOthersRow, standIns := [], harness := (true, "9f7bc0ca22f124f31e55e7fc7ac499fd6f5421ba599d7711b869c03910dd1424"), looks := false }, kinds := [], alts := [], laidByText := true, laidKinds := [.data, .data], laidTests := true, laidLooks := .later }
def StemOthersCardSaid : Prop := Claim7.holds Tryd.pinned (.plain (OpenSpec.ofChange stemOthersSpec)) stemOthersCard

/-- THE TIED CARD OF 'scholialaw03.UtfLibrary'. -/
def utfLibraryCard : Claim7 := { stood := { row := utfLibraryRow, standIns := [], harness := (true, "9f7bc0ca22f124f31e55e7fc7ac499fd6f5421ba599d7711b869c03910dd1424"), looks := false }, kinds := [], alts := [], laidByText := true, laidKinds := [.data, .pinned], laidTests := true, laidLooks := .later }
def UtfLibraryCardSaid : Prop := Claim7.holds Tryd.pinned (.plain (OpenSpec.ofChange utfLibrarySpec)) utfLibraryCard

/-- THE TIED CARD OF 'scholialaw15.TokenAll'. -/
def tokenAllCard : Claim7 := { stood := { row := tokenAllRow, standIns := [], harness := (true, "9f7bc0ca22f124f31e55e7fc7ac499fd6f5421ba599d7711b869c03910dd1424"), looks := false }, kinds := [], alts := [], laidByText := true, laidKinds := [.data], laidTests := true, laidLooks := .later }
def TokenAllCardSaid : Prop := Claim7.holds Tryd.pinned (.plain (OpenSpec.ofChange tokenAllSpec)) tokenAllCard

/-- THE TIED CARD OF 'scholialaw15.TokenParts'. -/
def tokenPartsCard : Claim7 := { stood := { row := tokenPartsRow, standIns := [], harness := (true, "9f7bc0ca22f124f31e55e7fc7ac499fd6f5421ba599d7711b869c03910dd1424"), looks := false }, kinds := [], alts := [], laidByText := true, laidKinds := [.data], laidTests := true, laidLooks := .later }
def TokenPartsCardSaid : Prop := Claim7.holds Tryd.pinned (.plain (OpenSpec.ofChange tokenPartsSpec)) tokenPartsCard

/-- THE TIED CARD OF 'scholialaw15.TokenWords'. -/
def tokenWordsCard : Claim7 := { stood := { row := tokenWordsRow, standIns := [], harness := (true, "9f7bc0ca22f124f31e55e7fc7ac499fd6f5421ba599d7711b869c03910dd1424"), looks := false }, kinds := [], alts := [], laidByText := true, laidKinds := [.data], laidTests := true, laidLooks := .later }
def TokenWordsCardSaid : Prop := Claim7.holds Tryd.pinned (.plain (OpenSpec.ofChange tokenWordsSpec)) tokenWordsCard

/-- THE TIED CARD OF 'scholialaw15.TokenMarks'. -/
def tokenMarksCard : Claim7 := { stood := { row := tokenMarksRow, standIns := [], harness := (true, "9f7bc0ca22f124f31e55e7fc7ac499fd6f5421ba599d7711b869c03910dd1424"), looks := false }, kinds := [], alts := [], laidByText := true, laidKinds := [.data], laidTests := true, laidLooks := .later }
def TokenMarksCardSaid : Prop := Claim7.holds Tryd.pinned (.plain (OpenSpec.ofChange tokenMarksSpec)) tokenMarksCard

/-- THE TIED CARD OF 'scholialaw35.ExportAny'. -/
def exportAnyCard : Claim7 := { stood := { row := exportAnyRow, standIns := [], harness := (true, "9f7bc0ca22f124f31e55e7fc7ac499fd6f5421ba599d7711b869c03910dd1424"), looks := false }, kinds := [], alts := [], laidByText := true, laidKinds := [.data], laidTests := true, laidLooks := .later }
def ExportAnyCardSaid : Prop := Claim7.holds Tryd.pinned (.plain (OpenSpec.ofChange exportAnySpec)) exportAnyCard

/-- THE TIED CARD OF 'scholialaw35.ExportTexts'. -/
def exportTextsCard : Claim7 := { stood := { row := exportTextsRow, standIns := [], harness := (true, "9f7bc0ca22f124f31e55e7fc7ac499fd6f5421ba599d7711b869c03910dd1424"), looks := false }, kinds := [], alts := [], laidByText := true, laidKinds := [.data], laidTests := true, laidLooks := .later }
def ExportTextsCardSaid : Prop := Claim7.holds Tryd.pinned (.plain (OpenSpec.ofChange exportTextsSpec)) exportTextsCard

/-- THE TIED CARD OF 'scholialaw35.ExportBack'. -/
def exportBackCard : Claim7 := { stood := { row := exportBackRow, standIns := [], harness := (true, "9f7bc0ca22f124f31e55e7fc7ac499fd6f5421ba599d7711b869c03910dd1424"), looks := false }, kinds := [], alts := [], laidByText := true, laidKinds := [.data], laidTests := true, laidLooks := .later }
def ExportBackCardSaid : Prop := Claim7.holds Tryd.pinned (.plain (OpenSpec.ofChange exportBackSpec)) exportBackCard

/-- THE TIED CARD OF 'scholialaw17.TermsEach'. -/
def termsEachCard : Claim7 := { stood := { row := termsEachRow, standIns := [], harness := (true, "9f7bc0ca22f124f31e55e7fc7ac499fd6f5421ba599d7711b869c03910dd1424"), looks := false }, kinds := [], alts := [], laidByText := true, laidKinds := [.data, .data, .data], laidTests := true, laidLooks := .later }
def TermsEachCardSaid : Prop := Claim7.holds Tryd.pinned (.plain (OpenSpec.ofChange termsEachSpec)) termsEachCard

/-- THE TIED CARD OF 'scholialaw17.TermsTexts'. -/
def termsTextsCard : Claim7 := { stood := { row := termsTextsRow, standIns := [], harness := (true, "9f7bc0ca22f124f31e55e7fc7ac499fd6f5421ba599d7711b869c03910dd1424"), looks := false }, kinds := [], alts := [], laidByText := true, laidKinds := [.data, .data, .data], laidTests := true, laidLooks := .later }
def TermsTextsCardSaid : Prop := Claim7.holds Tryd.pinned (.plain (OpenSpec.ofChange termsTextsSpec)) termsTextsCard

/-- THE TIED CARD OF 'scholialaw17.TermsCounts'. -/
def termsCountsCard : Claim7 := { stood := { row := termsCountsRow, standIns := [], harness := (true, "9f7bc0ca22f124f31e55e7fc7ac499fd6f5421ba599d7711b869c03910dd1424"), looks := false }, kinds := [], alts := [], laidByText := true, laidKinds := [.data, .data, .data], laidTests := true, laidLooks := .later }
def TermsCountsCardSaid : Prop := Claim7.holds Tryd.pinned (.plain (OpenSpec.ofChange termsCountsSpec)) termsCountsCard

/-- THE TIED CARD OF 'scholialaw17.TermsMerge'. -/
def termsMergeCard : Claim7 := { stood := { row := termsMergeRow, standIns := [], harness := (true, "9f7bc0ca22f124f31e55e7fc7ac499fd6f5421ba599d7711b869c03910dd1424"), looks := false }, kinds := [], alts := [], laidByText := true, laidKinds := [.data, .data, .data], laidTests := true, laidLooks := .later }
def TermsMergeCardSaid : Prop := Claim7.holds Tryd.pinned (.plain (OpenSpec.ofChange termsMergeSpec)) termsMergeCard

/-- THE SECOND FORM's CARD OF 'scholialaw04.FoldSigns'. -/
def foldSignsUptoCard : Claim7 := { stood := { row := foldSignsUptoRow, standIns := [], harness := (true, "9f7bc0ca22f124f31e55e7fc7ac499fd6f5421ba599d7711b869c03910dd1424"), looks := false }, kinds := [], alts := [], laidByText := true, laidKinds := [.data], laidTests := true, laidLooks := .later }
def FoldSignsUptoCardSaid : Prop := Claim7.holds Tryd.pinned (.plain (OpenSpec.upto foldSignsSpec)) foldSignsUptoCard

/-- THE SECOND FORM's CARD OF 'scholialaw04.FoldTexts'. -/
def foldTextsUptoCard : Claim7 := { stood := { row := foldTextsUptoRow, standIns := [], harness := (true, "9f7bc0ca22f124f31e55e7fc7ac499fd6f5421ba599d7711b869c03910dd1424"), looks := false }, kinds := [], alts := [], laidByText := true, laidKinds := [.data], laidTests := true, laidLooks := .later }
def FoldTextsUptoCardSaid : Prop := Claim7.holds Tryd.pinned (.plain (OpenSpec.upto foldTextsSpec)) foldTextsUptoCard

/-- THE SECOND FORM's CARD OF 'scholialaw04.FoldOnce'. -/
def foldOnceUptoCard : Claim7 := { stood := { row := foldOnceUptoRow, standIns := [], harness := (true, "9f7bc0ca22f124f31e55e7fc7ac499fd6f5421ba599d7711b869c03910dd1424"), looks := false }, kinds := [], alts := [], laidByText := true, laidKinds := [.data], laidTests := true, laidLooks := .later }
def FoldOnceUptoCardSaid : Prop := Claim7.holds Tryd.pinned (.plain (OpenSpec.upto foldOnceSpec)) foldOnceUptoCard

/-- THE SECOND FORM's CARD OF 'scholialaw04.FoldAgain'. -/
def foldAgainUptoCard : Claim7 := { stood := { row := foldAgainUptoRow, standIns := [], harness := (true, "9f7bc0ca22f124f31e55e7fc7ac499fd6f5421ba599d7711b869c03910dd1424"), looks := false }, kinds := [], alts := [], laidByText := true, laidKinds := [.data], laidTests := true, laidLooks := .later }
def FoldAgainUptoCardSaid : Prop := Claim7.holds Tryd.pinned (.plain (OpenSpec.upto foldAgainSpec)) foldAgainUptoCard

/-- THE SECOND FORM's CARD OF 'scholialaw16.StemWords'. -/
def stemWordsUptoCard : Claim7 := { stood := { row := stemWordsUptoRow, standIns := [], harness := (true, "9f7bc0ca22f124f31e55e7fc7ac499fd6f5421ba599d7711b869c03910dd1424"), looks := false }, kinds := [], alts := [], laidByText := true, laidKinds := [.data, .data], laidTests := true, laidLooks := .later }
def StemWordsUptoCardSaid : Prop := Claim7.holds Tryd.pinned (.plain (OpenSpec.upto stemWordsSpec)) stemWordsUptoCard

/-- THE SECOND FORM's CARD OF 'scholialaw16.StemShort'. -/
def stemShortUptoCard : Claim7 := { stood := { row := stemShortUptoRow, standIns := [], harness := (true, "9f7bc0ca22f124f31e55e7fc7ac499fd6f5421ba599d7711b869c03910dd1424"), looks := false }, kinds := [], alts := [], laidByText := true, laidKinds := [.data, .data], laidTests := true, laidLooks := .later }
def StemShortUptoCardSaid : Prop := Claim7.holds Tryd.pinned (.plain (OpenSpec.upto stemShortSpec)) stemShortUptoCard

/-- THE SECOND FORM's CARD OF 'scholialaw16.StemOthers'. -/
def stemOthersUptoCard : Claim7 := { stood := { row := stemOthersUptoRow, standIns := [], harness := (true, "9f7bc0ca22f124f31e55e7fc7ac499fd6f5421ba599d7711b869c03910dd1424"), looks := false }, kinds := [], alts := [], laidByText := true, laidKinds := [.data, .data], laidTests := true, laidLooks := .later }
def StemOthersUptoCardSaid : Prop := Claim7.holds Tryd.pinned (.plain (OpenSpec.upto stemOthersSpec)) stemOthersUptoCard

/-- THE SECOND FORM's CARD OF 'scholialaw03.UtfLibrary'. -/
def utfLibraryUptoCard : Claim7 := { stood := { row := utfLibraryUptoRow, standIns := [], harness := (true, "9f7bc0ca22f124f31e55e7fc7ac499fd6f5421ba599d7711b869c03910dd1424"), looks := false }, kinds := [], alts := [], laidByText := true, laidKinds := [.data, .pinned], laidTests := true, laidLooks := .later }
def UtfLibraryUptoCardSaid : Prop := Claim7.holds Tryd.pinned (.plain (OpenSpec.upto utfLibrarySpec)) utfLibraryUptoCard

/-- THE SECOND FORM's CARD OF 'scholialaw15.TokenAll'. -/
def tokenAllUptoCard : Claim7 := { stood := { row := tokenAllUptoRow, standIns := [], harness := (true, "9f7bc0ca22f124f31e55e7fc7ac499fd6f5421ba599d7711b869c03910dd1424"), looks := false }, kinds := [], alts := [], laidByText := true, laidKinds := [.data], laidTests := true, laidLooks := .later }
def TokenAllUptoCardSaid : Prop := Claim7.holds Tryd.pinned (.plain (OpenSpec.upto tokenAllSpec)) tokenAllUptoCard

/-- THE SECOND FORM's CARD OF 'scholialaw15.TokenParts'. -/
def tokenPartsUptoCard : Claim7 := { stood := { row := tokenPartsUptoRow, standIns := [], harness := (true, "9f7bc0ca22f124f31e55e7fc7ac499fd6f5421ba599d7711b869c03910dd1424"), looks := false }, kinds := [], alts := [], laidByText := true, laidKinds := [.data], laidTests := true, laidLooks := .later }
def TokenPartsUptoCardSaid : Prop := Claim7.holds Tryd.pinned (.plain (OpenSpec.upto tokenPartsSpec)) tokenPartsUptoCard

/-- THE SECOND FORM's CARD OF 'scholialaw15.TokenWords'. -/
def tokenWordsUptoCard : Claim7 := { stood := { row := tokenWordsUptoRow, standIns := [], harness := (true, "9f7bc0ca22f124f31e55e7fc7ac499fd6f5421ba599d7711b869c03910dd1424"), looks := false }, kinds := [], alts := [], laidByText := true, laidKinds := [.data], laidTests := true, laidLooks := .later }
def TokenWordsUptoCardSaid : Prop := Claim7.holds Tryd.pinned (.plain (OpenSpec.upto tokenWordsSpec)) tokenWordsUptoCard

/-- THE SECOND FORM's CARD OF 'scholialaw15.TokenMarks'. -/
def tokenMarksUptoCard : Claim7 := { stood := { row := tokenMarksUptoRow, standIns := [], harness := (true, "9f7bc0ca22f124f31e55e7fc7ac499fd6f5421ba599d7711b869c03910dd1424"), looks := false }, kinds := [], alts := [], laidByText := true, laidKinds := [.data], laidTests := true, laidLooks := .later }
def TokenMarksUptoCardSaid : Prop := Claim7.holds Tryd.pinned (.plain (OpenSpec.upto tokenMarksSpec)) tokenMarksUptoCard

/-- THE SECOND FORM's CARD OF 'scholialaw35.ExportAny'. -/
def exportAnyUptoCard : Claim7 := { stood := { row := exportAnyUptoRow, standIns := [], harness := (true, "9f7bc0ca22f124f31e55e7fc7ac499fd6f5421ba599d7711b869c03910dd1424"), looks := false }, kinds := [], alts := [], laidByText := true, laidKinds := [.data], laidTests := true, laidLooks := .later }
def ExportAnyUptoCardSaid : Prop := Claim7.holds Tryd.pinned (.plain (OpenSpec.upto exportAnySpec)) exportAnyUptoCard

/-- THE SECOND FORM's CARD OF 'scholialaw35.ExportTexts'. -/
def exportTextsUptoCard : Claim7 := { stood := { row := exportTextsUptoRow, standIns := [], harness := (true, "9f7bc0ca22f124f31e55e7fc7ac499fd6f5421ba599d7711b869c03910dd1424"), looks := false }, kinds := [], alts := [], laidByText := true, laidKinds := [.data], laidTests := true, laidLooks := .later }
def ExportTextsUptoCardSaid : Prop := Claim7.holds Tryd.pinned (.plain (OpenSpec.upto exportTextsSpec)) exportTextsUptoCard

/-- THE SECOND FORM's CARD OF 'scholialaw35.ExportBack'. -/
def exportBackUptoCard : Claim7 := { stood := { row := exportBackUptoRow, standIns := [], harness := (true, "9f7bc0ca22f124f31e55e7fc7ac499fd6f5421ba599d7711b869c03910dd1424"), looks := false }, kinds := [], alts := [], laidByText := true, laidKinds := [.data], laidTests := true, laidLooks := .later }
def ExportBackUptoCardSaid : Prop := Claim7.holds Tryd.pinned (.plain (OpenSpec.upto exportBackSpec)) exportBackUptoCard

/-- THE SECOND FORM's CARD OF 'scholialaw17.TermsEach'. -/
def termsEachUptoCard : Claim7 := { stood := { row := termsEachUptoRow, standIns := [], harness := (true, "9f7bc0ca22f124f31e55e7fc7ac499fd6f5421ba599d7711b869c03910dd1424"), looks := false }, kinds := [], alts := [], laidByText := true, laidKinds := [.data, .data, .data], laidTests := true, laidLooks := .later }
def TermsEachUptoCardSaid : Prop := Claim7.holds Tryd.pinned (.plain (OpenSpec.upto termsEachSpec)) termsEachUptoCard

/-- THE SECOND FORM's CARD OF 'scholialaw17.TermsTexts'. -/
def termsTextsUptoCard : Claim7 := { stood := { row := termsTextsUptoRow, standIns := [], harness := (true, "9f7bc0ca22f124f31e55e7fc7ac499fd6f5421ba599d7711b869c03910dd1424"), looks := false }, kinds := [], alts := [], laidByText := true, laidKinds := [.data, .data, .data], laidTests := true, laidLooks := .later }
def TermsTextsUptoCardSaid : Prop := Claim7.holds Tryd.pinned (.plain (OpenSpec.upto termsTextsSpec)) termsTextsUptoCard

/-- THE SECOND FORM's CARD OF 'scholialaw17.TermsCounts'. -/
def termsCountsUptoCard : Claim7 := { stood := { row := termsCountsUptoRow, standIns := [], harness := (true, "9f7bc0ca22f124f31e55e7fc7ac499fd6f5421ba599d7711b869c03910dd1424"), looks := false }, kinds := [], alts := [], laidByText := true, laidKinds := [.data, .data, .data], laidTests := true, laidLooks := .later }
def TermsCountsUptoCardSaid : Prop := Claim7.holds Tryd.pinned (.plain (OpenSpec.upto termsCountsSpec)) termsCountsUptoCard

/-- THE SECOND FORM's CARD OF 'scholialaw17.TermsMerge'. -/
def termsMergeUptoCard : Claim7 := { stood := { row := termsMergeUptoRow, standIns := [], harness := (true, "9f7bc0ca22f124f31e55e7fc7ac499fd6f5421ba599d7711b869c03910dd1424"), looks := false }, kinds := [], alts := [], laidByText := true, laidKinds := [.data, .data, .data], laidTests := true, laidLooks := .later }
def TermsMergeUptoCardSaid : Prop := Claim7.holds Tryd.pinned (.plain (OpenSpec.upto termsMergeSpec)) termsMergeUptoCard
end Rows
end Go.Proofs.YtonhlgidfgogiaaDoor
