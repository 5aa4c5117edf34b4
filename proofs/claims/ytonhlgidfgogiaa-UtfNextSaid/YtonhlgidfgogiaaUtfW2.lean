/- The walks of the package utf: Next at any place, Valid, Count, Cut. -/
import Derived.Test.YtonhlgidfgogiaaUtfW1
set_option linter.unusedVariables false
set_option linter.unusedSimpArgs false
namespace Go.Proofs.Ytonhlgidfgogiaa
open Go.RowKit
namespace Utf

set_option maxHeartbeats 400000 in
set_option maxRecDepth 100000 in
theorem next_calls (s : ByteArray) (i : Int) (hs : s.size ≤ 140737488351232) (w : World) :
    Calls Try.prog 16 #[.string s, .int .i64 i] w fun e w' => e = .returned (.tuple #[.int .i64 (next s i).1, .int .i64 (next s i).2]) ∧ Below w.heap.size w w' := by
  by_cases h0 : i < 0
  · have HX := Lib.hid (next_out (s := s) (.inl h0))
    go_enter Try.func16, Try.ntmps16
    go_wp2_with fail
    go_ret2
    exact ⟨ret_int2 (by rw [HX.out]) (by rw [HX.out]), Below.refl _ _⟩
  · obtain ⟨a, rfl⟩ := Int.eq_ofNat_of_zero_le (show 0 ≤ i by omega)
    by_cases h1 : a < s.size
    · have := nx_calls s a h1 hs w
      rw [next_in h1]
      exact this
    · have HX := Lib.hid (next_out (s := s) (i := a) (.inr (by omega)))
      have h2 : s.size ≤ a := by omega
      clear h1
      go_enter Try.func16, Try.ntmps16
      go_wp2_with fail
      go_ret2
      exact ⟨ret_int2 (by rw [HX.out]) (by rw [HX.out]), Below.refl _ _⟩

set_option maxHeartbeats 400000 in
theorem valid_calls (s : ByteArray) (hs : s.size ≤ 140737488351232) (w : World) :
    Calls Try.prog 10 #[.string s] w fun e w' => e = .returned (.bool (validF s 0)) ∧ Below w.heap.size w w' := by
  go_enter Try.func10, Try.ntmps10
  go_wp2_with fail
  go_loopw [3] (fun i wr => ∃ a : Nat, a ≤ s.size ∧ i = .int .i64 a ∧ Hid (validF s a = validF s 0) ∧ Below w.heap.size w wr) (fun i _ => s.size - (intOf i).toNat)
  case atStart => exact ⟨0, Nat.zero_le _, rfl, rfl, Below.refl _ _⟩
  case round =>
    obtain ⟨a, ha, rfl, HV, HB⟩ := hrel
    by_cases hlt : a < s.size
    · have hst := nx_step s a hlt
      go_wp2_with fail
      refine (nx_calls s a hlt hs _).mono ?_
      rintro e w1 ⟨rfl, hb1⟩
      by_cases hneg : (nx s a).1 < 0
      · have HX := Lib.hid (validF_bad hlt hneg)
        go_wp2_with fail
        go_ret
        exact ⟨ret_bool (by rw [← HV.out, HX.out]), below_next HB hb1⟩
      · have HX := Lib.hid (validF_go hlt hneg)
        have HA := Lib.hid (adv_range s a hlt)
        go_wp2_with fail
        go_roundw
        case rel => exact ⟨adv s a, HA.out.2.1, by rw [HA.out.2.2], by rw [← HX.out]; exact HV, below_next HB hb1⟩
        case measure => simp [intOf]; omega
    · have HX := Lib.hid (validF_end hlt)
      go_wp2_with fail
      go_ret
      exact ⟨ret_bool (by rw [← HV.out, HX.out]), HB⟩

set_option maxHeartbeats 400000 in
theorem count_calls (s : ByteArray) (hs : s.size ≤ 140737488351232) (w : World) :
    Calls Try.prog 12 #[.string s] w fun e w' => e = .returned (.int .i64 (countF s 0 : Nat)) ∧ Below w.heap.size w w' := by
  go_enter Try.func12, Try.ntmps12
  go_wp2_with fail
  go_loopw [3, 4] (fun n i wr => ∃ a k : Nat, a ≤ s.size ∧ k ≤ a ∧ i = .int .i64 a ∧ n = .int .i64 k ∧ Hid (k + countF s a = countF s 0) ∧ Below w.heap.size w wr) (fun _ i _ => s.size - (intOf i).toNat)
  case atStart => exact ⟨0, 0, Nat.zero_le _, Nat.zero_le _, rfl, rfl, Nat.zero_add _, Below.refl _ _⟩
  case round =>
    obtain ⟨a, k, ha, hka, rfl, rfl, HV, HB⟩ := hrel
    by_cases hlt : a < s.size
    · have hst := nx_step s a hlt
      have HX := Lib.hid (countF_go hlt)
      have HA := Lib.hid (adv_range s a hlt)
      go_wp2_with fail
      refine (nx_calls s a hlt hs _).mono ?_
      rintro e w1 ⟨rfl, hb1⟩
      go_wp2_with fail
      go_roundw
      case rel => exact ⟨adv s a, k + 1, HA.out.2.1, by have := HA.out; omega, by rw [HA.out.2.2], by go_num, by have := HX.out; have := HV.out; show k + 1 + _ = _; omega, below_next HB hb1⟩
      case measure => simp [intOf]; omega
    · have HX := Lib.hid (countF_end hlt)
      go_wp2_with fail
      go_ret
      exact ⟨ret_int (by rw [← HV.out, HX.out]; simp), HB⟩

set_option maxHeartbeats 400000 in
theorem cut_calls (s : ByteArray) (most : Int) (hs : s.size ≤ 140737488351232) (hm : -9223372036854775808 ≤ most ∧ most ≤ 9223372036854775807) (w : World) :
    Calls Try.prog 8 #[.string s, .int .i64 most] w fun e w' => e = .returned (.string (s.extract 0 (cutF s most 0))) ∧ Below w.heap.size w w' := by
  go_enter Try.func8, Try.ntmps8
  go_wp2_with fail
  go_loopw [5] (fun i wr => ∃ a : Nat, a ≤ s.size ∧ (a = 0 ∨ (a : Int) ≤ most) ∧ i = .int .i64 a ∧ Hid (cutF s most a = cutF s most 0) ∧ Below w.heap.size w wr) (fun i _ => s.size - (intOf i).toNat)
  case atStart => exact ⟨0, Nat.zero_le _, .inl rfl, rfl, rfl, Below.refl _ _⟩
  case round =>
    obtain ⟨a, ha, ham, rfl, HV, HB⟩ := hrel
    have hw0 : wrap64 (most - a) = most - a := by unfold wrap64; omega
    have hsl := slice_str_to Try.underlying9 s .i64 a a rfl ha
    have HAM := Lib.hid ham
    clear ham
    by_cases hlt : a < s.size
    · have hst := nx_step s a hlt
      go_wp2_with fail
      refine (nx_calls s a hlt hs _).mono ?_
      rintro e w1 ⟨rfl, hb1⟩
      have hne : ((nx s a).2 == 0) = false := by rw [beq_eq_false_iff_ne]; omega
      by_cases hst2 : most - a < (nx s a).2
      · have HX := Lib.hid (cutF_stop hlt hst2)
        go_wp2_with fail
        go_ret
        exact ⟨ret_string (by rw [← HV.out, HX.out]), below_next HB hb1⟩
      · have HX := Lib.hid (cutF_go hlt hst2)
        have HA := Lib.hid (adv_range s a hlt)
        go_wp2_with fail
        go_roundw
        case rel => exact ⟨adv s a, HA.out.2.1, .inr (by have := HA.out; omega), by rw [HA.out.2.2], by rw [← HX.out]; exact HV, below_next HB hb1⟩
        case measure => simp [intOf]; omega
    · have HX := Lib.hid (cutF_end (m := most) hlt)
      have HN := Lib.hid (next_out (s := s) (i := a) (.inr (by omega)))
      go_wp2_with fail
      refine (next_calls s a hs _).mono ?_
      rw [HN.out]
      rintro e w1 ⟨rfl, hb1⟩
      go_wp2_with fail
      go_ret
      exact ⟨ret_string (by rw [← HV.out, HX.out]), below_next HB hb1⟩
end Utf
end Go.Proofs.Ytonhlgidfgogiaa
