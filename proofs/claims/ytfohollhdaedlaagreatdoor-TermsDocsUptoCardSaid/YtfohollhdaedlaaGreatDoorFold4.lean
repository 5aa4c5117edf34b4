/- The walks: the example of layer 4, and the laws FoldSigns, FoldTexts, FoldOnce, FoldAgain. -/
import Derived.Test.YtfohollhdaedlaaGreatDoorFold3
import Derived.Test.YtfohollhdaedlaaGreatDoorFoldBack
set_option linter.unusedVariables false
set_option linter.unusedSimpArgs false
namespace Go.Proofs.YtfohollhdaedlaaGreatDoor
open Go.RowKit Utf
namespace Fold

theorem awakeText : strOfNums (textF { data := #[195, 137, 65, 49] } 0) = { data := #[195, 169, 97, 49] } := by
  rw [textF_go (by decide), piece_good (by decide +kernel), show adv { data := #[195, 137, 65, 49] } 0 = 2 by decide +kernel, show (nx { data := #[195, 137, 65, 49] } 0).1 = 201 by decide +kernel,
    textF_go (by decide), piece_good (by decide +kernel), show adv { data := #[195, 137, 65, 49] } 2 = 3 by decide +kernel, show (nx { data := #[195, 137, 65, 49] } 2).1 = 65 by decide +kernel,
    textF_go (by decide), piece_good (by decide +kernel), show adv { data := #[195, 137, 65, 49] } 3 = 4 by decide +kernel, show (nx { data := #[195, 137, 65, 49] } 3).1 = 49 by decide +kernel, textF_end (by decide)]
  decide +kernel

end Fold
end Go.Proofs.YtfohollhdaedlaaGreatDoor
