/-
  DERIVED. GIVEN WITH THE SEED: THE CARDS: each row of YtfohollhdaedlaaGreatDoorRows.lean that lists a variable, with what it lists TIED to the program's text (the seventh form; the later family's looks); each row that meets fmt, with fmt's text TOLD by the authors' own Lean function (tested against real Go, not proved from fmt's source: count such statements apart). THE CARD IS WHAT COUNTS. Prove the row's statement (the work); the ties are given (YtfohollhdaedlaaGreatDoorTie.lean); close each card by the builder's one call (the guide's Derived/Test/ToyasCard.lean, 'card_holds'). Laid BY PROGRAM, IN A SANDBOX (cutbox-door.mjs). By AI agents, Wed Nov 11 2026. No macro, syntax, notation, axiom, sorry.
-/
import Derived.Test.YtfohollhdaedlaaGreatDoorRows
import GoSem.ClaimSeven
namespace Go.Proofs.YtfohollhdaedlaaGreatDoor
namespace Rows

/-- THE TIED CARD OF 'scholialaw17.TermsDocs'. -/
def termsDocsCard : Claim7 := { stood := { row := termsDocsRow, standIns := [], harness := (true, "59f07417f285779197c6b558757235d564226d17658d452120f95d56896dec2a"), looks := false }, kinds := [], alts := [], laidByText := true, laidKinds := [.data, .data, .data], laidTests := true, laidLooks := .later }
def TermsDocsCardSaid : Prop := Claim7.holds Tryz.pinned (.plain (OpenSpec.ofChange termsDocsSpec)) termsDocsCard

/-- THE SECOND FORM's CARD OF 'scholialaw17.TermsDocs'. -/
def termsDocsUptoCard : Claim7 := { stood := { row := termsDocsUptoRow, standIns := [], harness := (true, "59f07417f285779197c6b558757235d564226d17658d452120f95d56896dec2a"), looks := false }, kinds := [], alts := [], laidByText := true, laidKinds := [.data, .data, .data], laidTests := true, laidLooks := .later }
def TermsDocsUptoCardSaid : Prop := Claim7.holds Tryz.pinned (.plain (OpenSpec.upto termsDocsSpec)) termsDocsUptoCard
end Rows
end Go.Proofs.YtfohollhdaedlaaGreatDoor
