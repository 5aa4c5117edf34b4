/- The walks of the package fold and its reference: Lower, Digit, Letter, Word. -/
import Derived.Test.YtfohollhdaedlaaGreatDoorChecked
import Derived.Test.YtfohollhdaedlaaGreatDoorFoldMath
set_option linter.unusedVariables false
set_option linter.unusedSimpArgs false
namespace Go.Proofs.YtfohollhdaedlaaGreatDoor
open Go.RowKit
namespace Fold

/-- The table lies in memory as the program's text lays it. -/
def Laid (w : World) : Prop := ∃ t, w.heap[2]? = some (.cells rowsCells t (0, 0))
theorem Laid.lt {w : World} (h : Laid w) : 2 < w.heap.size := by
  obtain ⟨t, h⟩ := h
  exact (Array.getElem?_eq_some_iff.1 h).1
theorem Laid.below {w w' : World} (h : Laid w) (hb : Below w.heap.size w w') : Laid w' := by
  have hl := h.lt
  obtain ⟨t, h⟩ := h
  exact ⟨t, by rw [hb.block _ hl]; exact h⟩
theorem not_upto {P : Nat → Prop} {k : Nat} (h : ∀ j, j < k → ¬ P j) (hk : ¬ P k) : ∀ j, j < k + 1 → ¬ P j := fun j hj => by
  rcases Nat.lt_or_ge j k with h1 | h1
  · exact h j h1
  · obtain rfl : j = k := by omega
    exact hk
theorem infoRows : (Tryz.prog.info? 128).map (·.size) = some 52 := by kernel_rfl
theorem rowsSize : rowsCells.size = 52 := by decide
set_option maxRecDepth 100000 in
theorem idx (W : World) (k : Nat) (h : k < 13) : (Instr.index 128 (.agg rowsCells) (.int .i64 (k : Nat))).run Tryz.prog W = .ok (.agg #[.int .i64 (lo k), .int .i64 (hi k), .int .i64 (st k), .int .i64 (up k)]) W := by
  rcases thirteen h with rfl | rfl | rfl | rfl | rfl | rfl | rfl | rfl | rfl | rfl | rfl | rfl | rfl <;> kernel_rfl

set_option maxHeartbeats 1000000 in
set_option maxRecDepth 100000 in
theorem lower_calls (r : Int) (hr : -9223372036854775808 ≤ r ∧ r ≤ 9223372036854775807) (w : World) (hL : Laid w) :
    Calls Tryz.prog 59 #[.int .i64 r] w fun e w' => e = .returned (.int .i64 (low r)) ∧ Below w.heap.size w w' := by
  obtain ⟨t, ht⟩ := hL
  have HT := Lib.hid ht
  clear ht
  go_enter Tryz.func59, Tryz.ntmps59
  go_wp2_with (with_reducible refine wpList_load_row rfl 128 (.global 2) rfl 2 rfl t rowsCells (0, 0) _ HT.out Tryz.underlying128 rfl (by rw [infoRows, rowsSize]) ?_)
  go_loopw [6] (fun i wr => ∃ k : Nat, k ≤ 13 ∧ i = .int .i64 k ∧ Hid (∀ j, j < k → ¬ hit r j) ∧ Below w.heap.size w wr) (fun i _ => 13 - (intOf i).toNat)
  case atStart => exact ⟨0, Nat.zero_le _, rfl, fun j hj => absurd hj (Nat.not_lt_zero j), Below.refl _ _⟩
  case round =>
    obtain ⟨k, hk, rfl, HV, HB⟩ := hrel
    by_cases hlt : k < 13
    · have hidx := fun W => idx W k hlt
      have hlow := low_hit r k hlt
      have hR := tab_ranges k hlt
      have HW := Lib.hid hlow
      clear hlow
      generalize hlo : lo k = a at *
      generalize hhi : hi k = b at *
      generalize hst : st k = c at *
      generalize hup : up k = d at *
      have HH : Hid (hit r k = (a ≤ r ∧ r ≤ b ∧ (r - a) % c = 0)) := by unfold hit; rw [hlo, hhi, hst]; rfl
      clear hlo hhi hst hup
      by_cases h1 : a ≤ r
      · by_cases h2 : r ≤ b
        · cases h3 : ((r - a) % c == 0)
          · have HN : Hid (¬ hit r k) := by rw [HH.out]; intro h; rw [beq_eq_false_iff_ne] at h3; exact h3 h.2.2
            go_wp2_with fail
            go_roundw
            case rel => exact ⟨k + 1, by omega, by go_num, not_upto HV.out HN.out, HB.alloc HB.size _⟩
            case measure => simp [intOf]; omega
          · have HX : Hid (low r = r + d) := HW.out (by rw [HH.out]; exact ⟨h1, h2, by rw [beq_iff_eq] at h3; exact h3⟩)
            go_wp2_with fail
            go_ret
            exact ⟨ret_int (by rw [HX.out]), HB.alloc HB.size _⟩
        · have HN : Hid (¬ hit r k) := by rw [HH.out]; intro h; exact h2 h.2.1
          go_wp2_with fail
          go_roundw
          case rel => exact ⟨k + 1, by omega, by go_num, not_upto HV.out HN.out, HB.alloc HB.size _⟩
          case measure => simp [intOf]; omega
      · have HN : Hid (¬ hit r k) := by rw [HH.out]; intro h; exact h1 h.1
        go_wp2_with fail
        go_roundw
        case rel => exact ⟨k + 1, by omega, by go_num, not_upto HV.out HN.out, HB.alloc HB.size _⟩
        case measure => simp [intOf]; omega
    · obtain rfl : k = 13 := by omega
      have HX := Lib.hid (low_none r HV.out)
      go_wp2_with fail
      go_ret
      exact ⟨ret_int (by rw [HX.out]), HB⟩

set_option maxHeartbeats 400000 in
theorem digit_calls (r : Int) (w : World) :
    Calls Tryz.prog 81 #[.int .i64 r] w fun e w' => e = .returned (.bool (digit r)) ∧ w' = w := by
  go_enter Tryz.func81, Tryz.ntmps81
  go_wp2
  all_goals go_ret
  all_goals (refine ⟨ret_bool ?_, rfl⟩; rw [Bool.eq_iff_iff]; simp [digit]; omega)

set_option maxHeartbeats 400000 in
theorem letter_calls (r : Int) (hr : -9223372036854775808 ≤ r ∧ r ≤ 9223372036854775807) (w : World) :
    Calls Tryz.prog 80 #[.int .i64 r] w fun e w' => e = .returned (.bool (letter r)) ∧ w' = w := by
  by_cases h0 : r < 0
  · have ho := or32_neg r h0 hr.1
    generalize hx : bits .or .i64 r 32 = x at ho
    have HX := Lib.hid hx
    go_enter Tryz.func80, Tryz.ntmps80
    go_wp2
    go_ret
    exact ⟨ret_bool (by rw [Bool.eq_iff_iff]; simp [letter]; omega), rfl⟩
  · by_cases h1 : r < 192
    · have ho := or32 r (by omega) h1
      generalize hx : (if r / 32 % 2 = 1 then r else r + 32) = x at ho
      have hcase : (r / 32 % 2 = 1 ∧ x = r) ∨ (¬ r / 32 % 2 = 1 ∧ x = r + 32) := by split at hx <;> omega
      have HC := Lib.hid hcase
      clear hx hcase
      by_cases h2 : 97 ≤ x
      · by_cases h3 : x ≤ 122
        · by_cases h4 : 0 < r
          · have HL : Hid (letter r = true) := by have := HC.out; show letter r = true; unfold letter; rw [decide_eq_true_iff]; omega
            go_enter Tryz.func80, Tryz.ntmps80
            go_wp2
            go_ret
            exact ⟨ret_bool (by rw [HL.out]), rfl⟩
          · exfalso; have := HC.out; omega
        · have HL : Hid (letter r = false) := by have := HC.out; show letter r = false; unfold letter; rw [decide_eq_false_iff_not]; omega
          go_enter Tryz.func80, Tryz.ntmps80
          go_wp2
          go_ret
          exact ⟨ret_bool (by rw [HL.out]), rfl⟩
      · have HL : Hid (letter r = false) := by have := HC.out; show letter r = false; unfold letter; rw [decide_eq_false_iff_not]; omega
        go_enter Tryz.func80, Tryz.ntmps80
        go_wp2
        go_ret
        exact ⟨ret_bool (by rw [HL.out]), rfl⟩
    · go_enter Tryz.func80, Tryz.ntmps80
      go_wp2
      all_goals go_ret
      all_goals (refine ⟨ret_bool ?_, rfl⟩; rw [Bool.eq_iff_iff]; simp [letter]; first | done | omega | (simp at *; omega))

set_option maxHeartbeats 400000 in
theorem word_calls (r : Int) (hr : -9223372036854775808 ≤ r ∧ r ≤ 9223372036854775807) (w : World) :
    Calls Tryz.prog 57 #[.int .i64 r] w fun e w' => e = .returned (.bool (word r)) ∧ w' = w := by
  cases hl : letter r
  · go_enter Tryz.func57, Tryz.ntmps57
    go_wp2_with fail
    refine (letter_calls r hr _).mono ?_
    rintro e w1 ⟨rfl, rfl⟩
    rw [hl]
    have HL := Lib.hid hl
    clear hl
    go_wp2_with fail
    refine (digit_calls r _).mono ?_
    rintro e w1 ⟨rfl, rfl⟩
    go_wp2_with fail
    go_ret
    exact ⟨ret_bool (by unfold word; rw [HL.out]; rfl), rfl⟩
  · go_enter Tryz.func57, Tryz.ntmps57
    go_wp2_with fail
    refine (letter_calls r hr _).mono ?_
    rintro e w1 ⟨rfl, rfl⟩
    rw [hl]
    have HL := Lib.hid hl
    clear hl
    go_wp2_with fail
    go_ret
    exact ⟨ret_bool (by unfold word; rw [HL.out]; rfl), rfl⟩
end Fold
end Go.Proofs.YtfohollhdaedlaaGreatDoor
