/- The walks of the package utf: Next at any place, Valid, Count, Cut. -/
import Derived.Test.YtfohollhdaedlaaGreatDoorUtfW1
set_option linter.unusedVariables false
set_option linter.unusedSimpArgs false
namespace Go.Proofs.YtfohollhdaedlaaGreatDoor
open Go.RowKit
namespace Utf

set_option maxHeartbeats 400000 in
set_option maxRecDepth 100000 in
theorem next_calls (s : ByteArray) (i : Int) (hs : s.size ≤ 140737488351232) (w : World) :
    Calls Tryz.prog 56 #[.string s, .int .i64 i] w fun e w' => e = .returned (.tuple #[.int .i64 (next s i).1, .int .i64 (next s i).2]) ∧ Below w.heap.size w w' := by
  by_cases h0 : i < 0
  · have HX := Lib.hid (next_out (s := s) (.inl h0))
    go_enter Tryz.func56, Tryz.ntmps56
    go_wp2_with fail
    go_ret2
    exact ⟨ret_int2 (by rw [HX.out]) (by rw [HX.out]), Below.refl _ _⟩
  · obtain ⟨a, rfl⟩ := Int.eq_ofNat_of_zero_le (show 0 ≤ i by omega)
    by_cases h1 : a < s.size
    · have := nx_calls s a h1 hs w
      rw [next_in h1]
      exact this
    · have HX := Lib.hid (next_out (s := s) (i := a) (.inr (by omega)))
      have h2 : s.size ≤ a := by omega
      clear h1
      go_enter Tryz.func56, Tryz.ntmps56
      go_wp2_with fail
      go_ret2
      exact ⟨ret_int2 (by rw [HX.out]) (by rw [HX.out]), Below.refl _ _⟩

end Utf
end Go.Proofs.YtfohollhdaedlaaGreatDoor
