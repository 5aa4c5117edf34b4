/-
  DERIVED. GIVEN WITH THE SEED: THE CARDS: each row of YtfohollhdaedlaaDoorRows.lean that lists a variable, with what it lists TIED to the program's text (the seventh form; the later family's looks); each row that meets fmt, with fmt's text TOLD by the authors' own Lean function (tested against real Go, not proved from fmt's source: count such statements apart). THE CARD IS WHAT COUNTS. Prove the row's statement (the work); the ties are given (YtfohollhdaedlaaDoorTie.lean); close each card by the builder's one call (the guide's Derived/Test/ToyasCard.lean, 'card_holds'). Laid BY PROGRAM, IN A SANDBOX (cutbox-door.mjs). By AI agents, Wed Nov 11 2026. No macro, syntax, notation, axiom, sorry.
-/
import Derived.Test.YtfohollhdaedlaaDoorRows
import GoSem.ClaimSeven
namespace Go.Proofs.YtfohollhdaedlaaDoor
namespace Rows

/-- THE TIED CARD OF 'scholialaw35.ExportAny'. -/
def exportAnyCard : Claim7 := { stood := { row := exportAnyRow, standIns := [], harness := (true, "abb577f09148205ce98fb587f46d7355b56a57431ec3dcfdfb26412b5b6328ca"), looks := false }, kinds := [], alts := [], laidByText := true, laidKinds := [.data], laidTests := true, laidLooks := .later }
def ExportAnyCardSaid : Prop := Claim7.holds Tryd.pinned (.plain (OpenSpec.ofChange exportAnySpec)) exportAnyCard

/-- THE TIED CARD OF 'scholialaw35.ExportTexts'. -/
def exportTextsCard : Claim7 := { stood := { row := exportTextsRow, standIns := [], harness := (true, "abb577f09148205ce98fb587f46d7355b56a57431ec3dcfdfb26412b5b6328ca"), looks := false }, kinds := [], alts := [], laidByText := true, laidKinds := [.data], laidTests := true, laidLooks := .later }
def ExportTextsCardSaid : Prop := Claim7.holds Tryd.pinned (.plain (OpenSpec.ofChange exportTextsSpec)) exportTextsCard

/-- THE TIED CARD OF 'scholialaw35.ExportBack'. -/
def exportBackCard : Claim7 := { stood := { row := exportBackRow, standIns := [], harness := (true, "abb577f09148205ce98fb587f46d7355b56a57431ec3dcfdfb26412b5b6328ca"), looks := false }, kinds := [], alts := [], laidByText := true, laidKinds := [.data], laidTests := true, laidLooks := .later }
def ExportBackCardSaid : Prop := Claim7.holds Tryd.pinned (.plain (OpenSpec.ofChange exportBackSpec)) exportBackCard

/-- THE TIED CARD OF 'scholialaw17.TermsEach'. -/
def termsEachCard : Claim7 := { stood := { row := termsEachRow, standIns := [], harness := (true, "abb577f09148205ce98fb587f46d7355b56a57431ec3dcfdfb26412b5b6328ca"), looks := false }, kinds := [], alts := [], laidByText := true, laidKinds := [.data, .data, .data], laidTests := true, laidLooks := .later }
def TermsEachCardSaid : Prop := Claim7.holds Tryd.pinned (.plain (OpenSpec.ofChange termsEachSpec)) termsEachCard

/-- THE TIED CARD OF 'scholialaw17.TermsTexts'. -/
def termsTextsCard : Claim7 := { stood := { row := termsTextsRow, standIns := [], harness := (true, "abb577f09148205ce98fb587f46d7355b56a57431ec3dcfdfb26412b5b6328ca"), looks := false }, kinds := [], alts := [], laidByText := true, laidKinds := [.data, .data, .data], laidTests := true, laidLooks := .later }
def TermsTextsCardSaid : Prop := Claim7.holds Tryd.pinned (.plain (OpenSpec.ofChange termsTextsSpec)) termsTextsCard

/-- THE TIED CARD OF 'scholialaw17.TermsCounts'. -/
def termsCountsCard : Claim7 := { stood := { row := termsCountsRow, standIns := [], harness := (true, "abb577f09148205ce98fb587f46d7355b56a57431ec3dcfdfb26412b5b6328ca"), looks := false }, kinds := [], alts := [], laidByText := true, laidKinds := [.data, .data, .data], laidTests := true, laidLooks := .later }
def TermsCountsCardSaid : Prop := Claim7.holds Tryd.pinned (.plain (OpenSpec.ofChange termsCountsSpec)) termsCountsCard

/-- THE TIED CARD OF 'scholialaw17.TermsMerge'. -/
def termsMergeCard : Claim7 := { stood := { row := termsMergeRow, standIns := [], harness := (true, "abb577f09148205ce98fb587f46d7355b56a57431ec3dcfdfb26412b5b6328ca"), looks := false }, kinds := [], alts := [], laidByText := true, laidKinds := [.data, .data, .data], laidTests := true, laidLooks := .later }
def TermsMergeCardSaid : Prop := Claim7.holds Tryd.pinned (.plain (OpenSpec.ofChange termsMergeSpec)) termsMergeCard

/-- THE SECOND FORM's CARD OF 'scholialaw35.ExportAny'. -/
def exportAnyUptoCard : Claim7 := { stood := { row := exportAnyUptoRow, standIns := [], harness := (true, "abb577f09148205ce98fb587f46d7355b56a57431ec3dcfdfb26412b5b6328ca"), looks := false }, kinds := [], alts := [], laidByText := true, laidKinds := [.data], laidTests := true, laidLooks := .later }
def ExportAnyUptoCardSaid : Prop := Claim7.holds Tryd.pinned (.plain (OpenSpec.upto exportAnySpec)) exportAnyUptoCard

/-- THE SECOND FORM's CARD OF 'scholialaw35.ExportTexts'. -/
def exportTextsUptoCard : Claim7 := { stood := { row := exportTextsUptoRow, standIns := [], harness := (true, "abb577f09148205ce98fb587f46d7355b56a57431ec3dcfdfb26412b5b6328ca"), looks := false }, kinds := [], alts := [], laidByText := true, laidKinds := [.data], laidTests := true, laidLooks := .later }
def ExportTextsUptoCardSaid : Prop := Claim7.holds Tryd.pinned (.plain (OpenSpec.upto exportTextsSpec)) exportTextsUptoCard

/-- THE SECOND FORM's CARD OF 'scholialaw35.ExportBack'. -/
def exportBackUptoCard : Claim7 := { stood := { row := exportBackUptoRow, standIns := [], harness := (true, "abb577f09148205ce98fb587f46d7355b56a57431ec3dcfdfb26412b5b6328ca"), looks := false }, kinds := [], alts := [], laidByText := true, laidKinds := [.data], laidTests := true, laidLooks := .later }
def ExportBackUptoCardSaid : Prop := Claim7.holds Tryd.pinned (.plain (OpenSpec.upto exportBackSpec)) exportBackUptoCard

/-- THE SECOND FORM's CARD OF 'scholialaw17.TermsEach'. -/
def termsEachUptoCard : Claim7 := { stood := { row := termsEachUptoRow, standIns := [], harness := (true, "abb577f09148205ce98fb587f46d7355b56a57431ec3dcfdfb26412b5b6328ca"), looks := false }, kinds := [], alts := [], laidByText := true, laidKinds := [.data, .data, .data], laidTests := true, laidLooks := .later }
def TermsEachUptoCardSaid : Prop := Claim7.holds Tryd.pinned (.plain (OpenSpec.upto termsEachSpec)) termsEachUptoCard

/-- THE SECOND FORM's CARD OF 'scholialaw17.TermsTexts'. -/
def termsTextsUptoCard : Claim7 := { stood := { row := termsTextsUptoRow, standIns := [], harness := (true, "abb577f09148205ce98fb587f46d7355b56a57431ec3dcfdfb26412b5b6328ca"), looks := false }, kinds := [], alts := [], laidByText := true, laidKinds := [.data, .data, .data], laidTests := true, laidLooks := .later }
def TermsTextsUptoCardSaid : Prop := Claim7.holds Tryd.pinned (.plain (OpenSpec.upto termsTextsSpec)) termsTextsUptoCard

/-- THE SECOND FORM's CARD OF 'scholialaw17.TermsCounts'. -/
def termsCountsUptoCard : Claim7 := { stood := { row := termsCountsUptoRow, standIns := [], harness := (true, "abb577f09148205ce98fb587f46d7355b56a57431ec3dcfdfb26412b5b6328ca"), looks := false }, kinds := [], alts := [], laidByText := true, laidKinds := [.data, .data, .data], laidTests := true, laidLooks := .later }
def TermsCountsUptoCardSaid : Prop := Claim7.holds Tryd.pinned (.plain (OpenSpec.upto termsCountsSpec)) termsCountsUptoCard

/-- THE SECOND FORM's CARD OF 'scholialaw17.TermsMerge'. -/
def termsMergeUptoCard : Claim7 := { stood := { row := termsMergeUptoRow, standIns := [], harness := (true, "abb577f09148205ce98fb587f46d7355b56a57431ec3dcfdfb26412b5b6328ca"), looks := false }, kinds := [], alts := [], laidByText := true, laidKinds := [.data, .data, .data], laidTests := true, laidLooks := .later }
def TermsMergeUptoCardSaid : Prop := Claim7.holds Tryd.pinned (.plain (OpenSpec.upto termsMergeSpec)) termsMergeUptoCard
end Rows
end Go.Proofs.YtfohollhdaedlaaDoor
