/- Two closed facts that every card of this seat wants. -/
import Derived.Test.YtfohollhdaedlaaDoorCards
import Derived.ProofKit
namespace Go.Proofs.YtfohollhdaedlaaDoor
open Go.RowKit
theorem main_is : Tryd.pinned.checked.prog.mainIs = some (Rows.exportAnyCard.stood.harness.1, Rows.exportAnyCard.stood.harness.2.toList) := by kernel_rfl
theorem no_looks : false = Tryd.pinned.checked.prog.looks [] := by kernel_rfl
theorem own_knob : ownKnob Tryd.prog.godebug = none := by kernel_rfl
theorem laid_out : laidOutB Tryd.prog = true := by kernel_rfl
end Go.Proofs.YtfohollhdaedlaaDoor
