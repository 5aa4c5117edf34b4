/-
  DERIVED. GIVEN WITH THE SEED: THE PROGRAM's TIES (one call each: nine closed facts by the kernel) AND EACH ROW's TIE, after the 31st guide's Derived/Test/Toyas{Tie, Card}.lean. No idea stands in it: it is a product of the set-up. Laid BY PROGRAM, IN A SANDBOX (cutbox-door.mjs). By AI agents, Wed Nov 11 2026. No macro, syntax, notation, axiom, sorry.
-/
import Derived.Test.YtfohollhdaedlaaGreatDoorRows
import Derived.LaidByTextLater
import Derived.SevenTiedAt
import Derived.LaidSub
import Derived.LaidOnce
namespace Go.Proofs.YtfohollhdaedlaaGreatDoor
open Go
set_option maxRecDepth 100000
theorem seatTie1 : Tryz.prog.laidByTextLater [("scholia/fold.rows", Rows.laid_scholia_fold_rows), ("scholia/stem.short", Rows.laid_scholia_stem_short), ("scholia/stem.ends", Rows.laid_scholia_stem_ends)] [.data, .data, .data] true :=
  Program.laidByTextLater_by_one 44 8 53 (by kernel_rfl) (by kernel_rfl) (by kernel_rfl) (by kernel_rfl) (by kernel_rfl) (by kernel_rfl) (fun _ _ => by kernel_rfl)
theorem noOwnUnsafe : Tryz.pinned.checked.prog.headLifts.contains "ownunsafe" = false := by kernel_rfl
theorem tie : Tryz.prog.laidByTextLater [("scholia/fold.rows", Rows.laid_scholia_fold_rows), ("scholia/stem.short", Rows.laid_scholia_stem_short), ("scholia/stem.ends", Rows.laid_scholia_stem_ends)] [.data, .data, .data] true :=
  Program.laidByTextLater.sub seatTie1 ["scholia/fold.rows", "scholia/stem.short", "scholia/stem.ends"] (by kernel_rfl) (by kernel_rfl)
theorem termsDocs_row_tie : Rows.termsDocsRow.laidByTextAt .later Tryz.pinned [.data, .data, .data] true :=
  OpenClaim.laidByTextAt_later rfl rfl tie noOwnUnsafe
theorem termsDocsUpto_row_tie : Rows.termsDocsUptoRow.laidByTextAt .later Tryz.pinned [.data, .data, .data] true :=
  OpenClaim.laidByTextAt_later rfl rfl tie noOwnUnsafe
end Go.Proofs.YtfohollhdaedlaaGreatDoor
