/- The walks of the package utf: Next at any place, Valid, Count, Cut. -/
import Derived.Test.YtfohollhdaedlaaDoorUtfW1
set_option linter.unusedVariables false
set_option linter.unusedSimpArgs false
namespace Go.Proofs.YtfohollhdaedlaaDoor
open Go.RowKit
namespace Utf

set_option maxHeartbeats 400000 in
set_option maxRecDepth 100000 in
theorem next_calls (s : ByteArray) (i : Int) (hs : s.size ≤ 140737488351232) (w : World) :
    Calls Tryd.prog 98 #[.string s, .int .i64 i] w fun e w' => e = .returned (.tuple #[.int .i64 (next s i).1, .int .i64 (next s i).2]) ∧ Below w.heap.size w w' := by
  by_cases h0 : i < 0
  · have HX := Lib.hid (next_out (s := s) (.inl h0))
    go_enter Tryd.func98, Tryd.ntmps98
    go_wp2_with fail
    go_ret2
    exact ⟨ret_int2 (by rw [HX.out]) (by rw [HX.out]), Below.refl _ _⟩
  · obtain ⟨a, rfl⟩ := Int.eq_ofNat_of_zero_le (show 0 ≤ i by omega)
    by_cases h1 : a < s.size
    · have := nx_calls s a h1 hs w
      rw [next_in h1]
      exact this
    · have HX := Lib.hid (next_out (s := s) (i := a) (.inr (by omega)))
      have h2 : s.size ≤ a := by omega
      clear h1
      go_enter Tryd.func98, Tryd.ntmps98
      go_wp2_with fail
      go_ret2
      exact ⟨ret_int2 (by rw [HX.out]) (by rw [HX.out]), Below.refl _ _⟩

set_option maxHeartbeats 400000 in
theorem valid_calls (s : ByteArray) (hs : s.size ≤ 140737488351232) (w : World) :
    Calls Tryd.prog 119 #[.string s] w fun e w' => e = .returned (.bool (validF s 0)) ∧ Below w.heap.size w w' := by
  go_enter Tryd.func119, Tryd.ntmps119
  go_wp2_with fail
  go_loopw [3] (fun i wr => ∃ a : Nat, a ≤ s.size ∧ i = .int .i64 a ∧ Hid (validF s a = validF s 0) ∧ Below w.heap.size w wr) (fun i _ => s.size - (intOf i).toNat)
  case atStart => exact ⟨0, Nat.zero_le _, rfl, rfl, Below.refl _ _⟩
  case round =>
    obtain ⟨a, ha, rfl, HV, HB⟩ := hrel
    by_cases hlt : a < s.size
    · have hst := nx_step s a hlt
      go_wp2_with fail
      refine (nx_calls s a hlt hs _).mono ?_
      rintro e w1 ⟨rfl, hb1⟩
      by_cases hneg : (nx s a).1 < 0
      · have HX := Lib.hid (validF_bad hlt hneg)
        go_wp2_with fail
        go_ret
        exact ⟨ret_bool (by rw [← HV.out, HX.out]), below_next HB hb1⟩
      · have HX := Lib.hid (validF_go hlt hneg)
        have HA := Lib.hid (adv_range s a hlt)
        go_wp2_with fail
        go_roundw
        case rel => exact ⟨adv s a, HA.out.2.1, by rw [HA.out.2.2], by rw [← HX.out]; exact HV, below_next HB hb1⟩
        case measure => simp [intOf]; omega
    · have HX := Lib.hid (validF_end hlt)
      go_wp2_with fail
      go_ret
      exact ⟨ret_bool (by rw [← HV.out, HX.out]), HB⟩

end Utf
end Go.Proofs.YtfohollhdaedlaaDoor
