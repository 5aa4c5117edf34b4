/- Two closed facts that every card of this seat wants. -/
import Derived.Test.YtfohollhdaedlaaGreatDoorCards
import Derived.ProofKit
namespace Go.Proofs.YtfohollhdaedlaaGreatDoor
open Go.RowKit
theorem main_is : Tryz.pinned.checked.prog.mainIs = some (Rows.termsDocsCard.stood.harness.1, Rows.termsDocsCard.stood.harness.2.toList) := by kernel_rfl
theorem no_looks : false = Tryz.pinned.checked.prog.looks [] := by kernel_rfl
theorem own_knob : ownKnob Tryz.prog.godebug = none := by kernel_rfl
theorem laid_out : laidOutB Tryz.prog = true := by kernel_rfl
end Go.Proofs.YtfohollhdaedlaaGreatDoor
