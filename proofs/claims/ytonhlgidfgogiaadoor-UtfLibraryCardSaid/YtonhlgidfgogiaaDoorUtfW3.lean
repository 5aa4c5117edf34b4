/- The walks: strings.HasPrefix, and the example of layer 3. -/
import Derived.Test.YtonhlgidfgogiaaDoorUtfW2
set_option linter.unusedVariables false
set_option linter.unusedSimpArgs false
namespace Go.Proofs.YtonhlgidfgogiaaDoor
open Go.RowKit
namespace Utf

set_option maxHeartbeats 400000 in
theorem hasPrefix0_calls (s p : ByteArray) (hs : s.size ≤ 140737488351232) (hp : p.size ≤ 140737488351232) (w : World) :
    Calls Tryd.prog 179 #[.string s, .string p] w fun e w' => e = .returned (.bool (decide (p.size ≤ s.size) && ((s.extract 0 p.size).toList == p.toList))) ∧ w = w' := by
  by_cases h : p.size ≤ s.size
  · have hsl := slice_str_to Tryd.underlying9 s .i64 p.size p.size rfl h
    have hd : decide (p.size ≤ s.size) = true := by simpa using h
    go_enter Tryd.func179, Tryd.ntmps179
    go_wp2_with fail
    go_ret
    exact ⟨ret_bool (by simp [h]), rfl⟩
  · have hd : decide (p.size ≤ s.size) = false := by simpa using h
    go_enter Tryd.func179, Tryd.ntmps179
    go_wp2_with fail
    go_ret
    exact ⟨ret_bool (by simp [h]), rfl⟩

theorem valid1 : validF { data := #[97, 195, 169] } 0 = true := by
  rw [validF_go (by decide) (by decide +kernel), show adv { data := #[97, 195, 169] } 0 = 1 by decide +kernel, validF_go (by decide) (by decide +kernel), show adv { data := #[97, 195, 169] } 1 = 3 by decide +kernel, validF_end (by decide)]
theorem valid2 : validF { data := #[255] } 0 = false := by
  rw [validF_bad (by decide) (by decide +kernel)]
theorem next1 : nx { data := #[195, 169] } 0 = (233, 2) := by decide +kernel

set_option maxHeartbeats 400000 in
theorem awake_calls (w : World) :
    Calls Tryd.prog 41 #[] w fun e w' => e = .returned (.bool true) ∧ Below w.heap.size w w' := by
  have H1 := Lib.hid next1
  have H2 := Lib.hid valid1
  have H3 := Lib.hid valid2
  go_enter Tryd.func41, Tryd.ntmps41
  go_wp2_with fail
  have c1 := nx_calls { data := #[195, 169] } 0 (by decide) (by decide)
  rw [H1.out] at c1
  refine (c1 _).mono ?_
  rintro e w1 ⟨rfl, hb1⟩
  go_wp2_with fail
  refine (valid_calls _ (by decide) _).mono ?_
  rw [H2.out]
  rintro e w2 ⟨rfl, hb2⟩
  go_wp2_with fail
  refine (valid_calls _ (by decide) _).mono ?_
  rw [H3.out]
  rintro e w3 ⟨rfl, hb3⟩
  go_wp2_with fail
  go_ret
  exact ⟨rfl, below_next (below_next hb1 hb2) hb3⟩
end Utf
end Go.Proofs.YtonhlgidfgogiaaDoor
