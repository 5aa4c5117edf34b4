/- The walks: strings.HasPrefix, and the example of layer 3. -/
import Derived.Test.YtfohollhdaedlaaDoorUtfW2
set_option linter.unusedVariables false
set_option linter.unusedSimpArgs false
namespace Go.Proofs.YtfohollhdaedlaaDoor
open Go.RowKit
namespace Utf

set_option maxHeartbeats 400000 in
theorem hasPrefix0_calls (s p : ByteArray) (hs : s.size ≤ 140737488351232) (hp : p.size ≤ 140737488351232) (w : World) :
    Calls Tryd.prog 145 #[.string s, .string p] w fun e w' => e = .returned (.bool (decide (p.size ≤ s.size) && ((s.extract 0 p.size).toList == p.toList))) ∧ w = w' := by
  by_cases h : p.size ≤ s.size
  · have hsl := slice_str_to Tryd.underlying9 s .i64 p.size p.size rfl h
    have hd : decide (p.size ≤ s.size) = true := by simpa using h
    go_enter Tryd.func145, Tryd.ntmps145
    go_wp2_with fail
    go_ret
    exact ⟨ret_bool (by simp [h]), rfl⟩
  · have hd : decide (p.size ≤ s.size) = false := by simpa using h
    go_enter Tryd.func145, Tryd.ntmps145
    go_wp2_with fail
    go_ret
    exact ⟨ret_bool (by simp [h]), rfl⟩

theorem valid1 : validF { data := #[97, 195, 169] } 0 = true := by
  rw [validF_go (by decide) (by decide +kernel), show adv { data := #[97, 195, 169] } 0 = 1 by decide +kernel, validF_go (by decide) (by decide +kernel), show adv { data := #[97, 195, 169] } 1 = 3 by decide +kernel, validF_end (by decide)]
theorem valid2 : validF { data := #[255] } 0 = false := by
  rw [validF_bad (by decide) (by decide +kernel)]
theorem next1 : nx { data := #[195, 169] } 0 = (233, 2) := by decide +kernel

end Utf
end Go.Proofs.YtfohollhdaedlaaDoor
