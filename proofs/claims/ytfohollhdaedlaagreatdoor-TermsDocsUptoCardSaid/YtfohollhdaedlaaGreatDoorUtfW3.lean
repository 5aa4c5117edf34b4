/- The walks: strings.HasPrefix, and the example of layer 3. -/
import Derived.Test.YtfohollhdaedlaaGreatDoorUtfW2
set_option linter.unusedVariables false
set_option linter.unusedSimpArgs false
namespace Go.Proofs.YtfohollhdaedlaaGreatDoor
open Go.RowKit
namespace Utf

theorem valid1 : validF { data := #[97, 195, 169] } 0 = true := by
  rw [validF_go (by decide) (by decide +kernel), show adv { data := #[97, 195, 169] } 0 = 1 by decide +kernel, validF_go (by decide) (by decide +kernel), show adv { data := #[97, 195, 169] } 1 = 3 by decide +kernel, validF_end (by decide)]
theorem valid2 : validF { data := #[255] } 0 = false := by
  rw [validF_bad (by decide) (by decide +kernel)]
theorem next1 : nx { data := #[195, 169] } 0 = (233, 2) := by decide +kernel

end Utf
end Go.Proofs.YtfohollhdaedlaaGreatDoor
