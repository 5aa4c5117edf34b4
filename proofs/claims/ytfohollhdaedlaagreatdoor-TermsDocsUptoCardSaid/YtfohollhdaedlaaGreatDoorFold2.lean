/- The walks of the reference of layer 4: in, Lower, Digit, Letter, Word. -/
import Derived.Test.YtfohollhdaedlaaGreatDoorFold1
set_option linter.unusedVariables false
set_option linter.unusedSimpArgs false
namespace Go.Proofs.YtfohollhdaedlaaGreatDoor
open Go.RowKit
namespace Fold

set_option maxHeartbeats 8000000 in
set_option maxRecDepth 100000 in
theorem rlower_0 (r : Int) (w : World) (h : r < 65 ∨ (65 ≤ r ∧ r ≤ 90) ∨ (91 ≤ r ∧ r < 192) ∨ (192 ≤ r ∧ r ≤ 214) ∨ (215 ≤ r ∧ r < 216) ∨ (216 ≤ r ∧ r ≤ 222) ∨ (223 ≤ r ∧ r < 256) ∨ (256 ≤ r ∧ r ≤ 302 ∧ r % 2 = 0)) :
    Calls Tryz.prog 92 #[.int .i64 r] w fun e w' => e = .returned (.int .i64 (low r)) ∧ w' = w := by
  rcases h with h | h | h | h | h | h | h | h
  · go_enter Tryz.func92, Tryz.ntmps92
    go_wp2
    all_goals go_ret
    all_goals exact ⟨ret_int (by unfold low; repeat' split; all_goals omega), rfl⟩
  · obtain ⟨h0, h1⟩ := h
    go_enter Tryz.func92, Tryz.ntmps92
    go_wp2
    all_goals go_ret
    all_goals exact ⟨ret_int (by unfold low; repeat' split; all_goals omega), rfl⟩
  · obtain ⟨h0, h1⟩ := h
    go_enter Tryz.func92, Tryz.ntmps92
    go_wp2
    all_goals go_ret
    all_goals exact ⟨ret_int (by unfold low; repeat' split; all_goals omega), rfl⟩
  · obtain ⟨h0, h1⟩ := h
    go_enter Tryz.func92, Tryz.ntmps92
    go_wp2
    all_goals go_ret
    all_goals exact ⟨ret_int (by unfold low; repeat' split; all_goals omega), rfl⟩
  · obtain ⟨h0, h1⟩ := h
    go_enter Tryz.func92, Tryz.ntmps92
    go_wp2
    all_goals go_ret
    all_goals exact ⟨ret_int (by unfold low; repeat' split; all_goals omega), rfl⟩
  · obtain ⟨h0, h1⟩ := h
    go_enter Tryz.func92, Tryz.ntmps92
    go_wp2
    all_goals go_ret
    all_goals exact ⟨ret_int (by unfold low; repeat' split; all_goals omega), rfl⟩
  · obtain ⟨h0, h1⟩ := h
    go_enter Tryz.func92, Tryz.ntmps92
    go_wp2
    all_goals go_ret
    all_goals exact ⟨ret_int (by unfold low; repeat' split; all_goals omega), rfl⟩
  · obtain ⟨h0, h1, h2⟩ := h
    have hr : r = 2 * (r / 2) := by omega
    have b0 : (r % 2 == 0) = true := by rw [h2]; rfl
    have b1 : (r % 2 == 1) = false := by rw [h2]; rfl
    have HR := Lib.hid hr
    have H2 := Lib.hid h2
    clear hr h2
    go_enter Tryz.func92, Tryz.ntmps92
    go_wp2
    all_goals go_ret
    all_goals exact ⟨ret_int (by have := H2.out; unfold low; repeat' split; all_goals omega), rfl⟩
set_option maxHeartbeats 8000000 in
set_option maxRecDepth 100000 in
theorem rlower_1 (r : Int) (w : World) (h : (256 ≤ r ∧ r ≤ 302 ∧ r % 2 = 1) ∨ (303 ≤ r ∧ r < 306) ∨ (306 ≤ r ∧ r ≤ 310 ∧ r % 2 = 0) ∨ (306 ≤ r ∧ r ≤ 310 ∧ r % 2 = 1) ∨ (311 ≤ r ∧ r < 313) ∨ (313 ≤ r ∧ r ≤ 327 ∧ r % 2 = 0) ∨ (313 ≤ r ∧ r ≤ 327 ∧ r % 2 = 1) ∨ (328 ≤ r ∧ r < 330)) :
    Calls Tryz.prog 92 #[.int .i64 r] w fun e w' => e = .returned (.int .i64 (low r)) ∧ w' = w := by
  rcases h with h | h | h | h | h | h | h | h
  · obtain ⟨h0, h1, h2⟩ := h
    have hr : r = 2 * (r / 2) + 1 := by omega
    have b0 : (r % 2 == 0) = false := by rw [h2]; rfl
    have b1 : (r % 2 == 1) = true := by rw [h2]; rfl
    have HR := Lib.hid hr
    have H2 := Lib.hid h2
    clear hr h2
    go_enter Tryz.func92, Tryz.ntmps92
    go_wp2
    all_goals go_ret
    all_goals exact ⟨ret_int (by have := H2.out; unfold low; repeat' split; all_goals omega), rfl⟩
  · obtain ⟨h0, h1⟩ := h
    go_enter Tryz.func92, Tryz.ntmps92
    go_wp2
    all_goals go_ret
    all_goals exact ⟨ret_int (by unfold low; repeat' split; all_goals omega), rfl⟩
  · obtain ⟨h0, h1, h2⟩ := h
    have hr : r = 2 * (r / 2) := by omega
    have b0 : (r % 2 == 0) = true := by rw [h2]; rfl
    have b1 : (r % 2 == 1) = false := by rw [h2]; rfl
    have HR := Lib.hid hr
    have H2 := Lib.hid h2
    clear hr h2
    go_enter Tryz.func92, Tryz.ntmps92
    go_wp2
    all_goals go_ret
    all_goals exact ⟨ret_int (by have := H2.out; unfold low; repeat' split; all_goals omega), rfl⟩
  · obtain ⟨h0, h1, h2⟩ := h
    have hr : r = 2 * (r / 2) + 1 := by omega
    have b0 : (r % 2 == 0) = false := by rw [h2]; rfl
    have b1 : (r % 2 == 1) = true := by rw [h2]; rfl
    have HR := Lib.hid hr
    have H2 := Lib.hid h2
    clear hr h2
    go_enter Tryz.func92, Tryz.ntmps92
    go_wp2
    all_goals go_ret
    all_goals exact ⟨ret_int (by have := H2.out; unfold low; repeat' split; all_goals omega), rfl⟩
  · obtain ⟨h0, h1⟩ := h
    go_enter Tryz.func92, Tryz.ntmps92
    go_wp2
    all_goals go_ret
    all_goals exact ⟨ret_int (by unfold low; repeat' split; all_goals omega), rfl⟩
  · obtain ⟨h0, h1, h2⟩ := h
    have hr : r = 2 * (r / 2) := by omega
    have b0 : (r % 2 == 0) = true := by rw [h2]; rfl
    have b1 : (r % 2 == 1) = false := by rw [h2]; rfl
    have HR := Lib.hid hr
    have H2 := Lib.hid h2
    clear hr h2
    go_enter Tryz.func92, Tryz.ntmps92
    go_wp2
    all_goals go_ret
    all_goals exact ⟨ret_int (by have := H2.out; unfold low; repeat' split; all_goals omega), rfl⟩
  · obtain ⟨h0, h1, h2⟩ := h
    have hr : r = 2 * (r / 2) + 1 := by omega
    have b0 : (r % 2 == 0) = false := by rw [h2]; rfl
    have b1 : (r % 2 == 1) = true := by rw [h2]; rfl
    have HR := Lib.hid hr
    have H2 := Lib.hid h2
    clear hr h2
    go_enter Tryz.func92, Tryz.ntmps92
    go_wp2
    all_goals go_ret
    all_goals exact ⟨ret_int (by have := H2.out; unfold low; repeat' split; all_goals omega), rfl⟩
  · obtain ⟨h0, h1⟩ := h
    go_enter Tryz.func92, Tryz.ntmps92
    go_wp2
    all_goals go_ret
    all_goals exact ⟨ret_int (by unfold low; repeat' split; all_goals omega), rfl⟩
set_option maxHeartbeats 8000000 in
set_option maxRecDepth 100000 in
theorem rlower_2 (r : Int) (w : World) (h : (330 ≤ r ∧ r ≤ 374 ∧ r % 2 = 0) ∨ (330 ≤ r ∧ r ≤ 374 ∧ r % 2 = 1) ∨ (375 ≤ r ∧ r < 377) ∨ (377 ≤ r ∧ r ≤ 381 ∧ r % 2 = 0) ∨ (377 ≤ r ∧ r ≤ 381 ∧ r % 2 = 1) ∨ (382 ≤ r ∧ r < 913) ∨ (913 ≤ r ∧ r ≤ 929) ∨ (930 ≤ r ∧ r < 931)) :
    Calls Tryz.prog 92 #[.int .i64 r] w fun e w' => e = .returned (.int .i64 (low r)) ∧ w' = w := by
  rcases h with h | h | h | h | h | h | h | h
  · obtain ⟨h0, h1, h2⟩ := h
    have hr : r = 2 * (r / 2) := by omega
    have b0 : (r % 2 == 0) = true := by rw [h2]; rfl
    have b1 : (r % 2 == 1) = false := by rw [h2]; rfl
    have HR := Lib.hid hr
    have H2 := Lib.hid h2
    clear hr h2
    go_enter Tryz.func92, Tryz.ntmps92
    go_wp2
    all_goals go_ret
    all_goals exact ⟨ret_int (by have := H2.out; unfold low; repeat' split; all_goals omega), rfl⟩
  · obtain ⟨h0, h1, h2⟩ := h
    have hr : r = 2 * (r / 2) + 1 := by omega
    have b0 : (r % 2 == 0) = false := by rw [h2]; rfl
    have b1 : (r % 2 == 1) = true := by rw [h2]; rfl
    have HR := Lib.hid hr
    have H2 := Lib.hid h2
    clear hr h2
    go_enter Tryz.func92, Tryz.ntmps92
    go_wp2
    all_goals go_ret
    all_goals exact ⟨ret_int (by have := H2.out; unfold low; repeat' split; all_goals omega), rfl⟩
  · obtain ⟨h0, h1⟩ := h
    go_enter Tryz.func92, Tryz.ntmps92
    go_wp2
    all_goals go_ret
    all_goals exact ⟨ret_int (by unfold low; repeat' split; all_goals omega), rfl⟩
  · obtain ⟨h0, h1, h2⟩ := h
    have hr : r = 2 * (r / 2) := by omega
    have b0 : (r % 2 == 0) = true := by rw [h2]; rfl
    have b1 : (r % 2 == 1) = false := by rw [h2]; rfl
    have HR := Lib.hid hr
    have H2 := Lib.hid h2
    clear hr h2
    go_enter Tryz.func92, Tryz.ntmps92
    go_wp2
    all_goals go_ret
    all_goals exact ⟨ret_int (by have := H2.out; unfold low; repeat' split; all_goals omega), rfl⟩
  · obtain ⟨h0, h1, h2⟩ := h
    have hr : r = 2 * (r / 2) + 1 := by omega
    have b0 : (r % 2 == 0) = false := by rw [h2]; rfl
    have b1 : (r % 2 == 1) = true := by rw [h2]; rfl
    have HR := Lib.hid hr
    have H2 := Lib.hid h2
    clear hr h2
    go_enter Tryz.func92, Tryz.ntmps92
    go_wp2
    all_goals go_ret
    all_goals exact ⟨ret_int (by have := H2.out; unfold low; repeat' split; all_goals omega), rfl⟩
  · obtain ⟨h0, h1⟩ := h
    go_enter Tryz.func92, Tryz.ntmps92
    go_wp2
    all_goals go_ret
    all_goals exact ⟨ret_int (by unfold low; repeat' split; all_goals omega), rfl⟩
  · obtain ⟨h0, h1⟩ := h
    go_enter Tryz.func92, Tryz.ntmps92
    go_wp2
    all_goals go_ret
    all_goals exact ⟨ret_int (by unfold low; repeat' split; all_goals omega), rfl⟩
  · obtain ⟨h0, h1⟩ := h
    go_enter Tryz.func92, Tryz.ntmps92
    go_wp2
    all_goals go_ret
    all_goals exact ⟨ret_int (by unfold low; repeat' split; all_goals omega), rfl⟩
set_option maxHeartbeats 8000000 in
set_option maxRecDepth 100000 in
theorem rlower_3 (r : Int) (w : World) (h : (931 ≤ r ∧ r ≤ 937) ∨ (938 ≤ r ∧ r < 1024) ∨ (1024 ≤ r ∧ r ≤ 1039) ∨ (1040 ≤ r ∧ r ≤ 1071) ∨ (1072 ≤ r ∧ r < 1120) ∨ (1120 ≤ r ∧ r ≤ 1152 ∧ r % 2 = 0) ∨ (1120 ≤ r ∧ r ≤ 1152 ∧ r % 2 = 1) ∨ 1152 < r) :
    Calls Tryz.prog 92 #[.int .i64 r] w fun e w' => e = .returned (.int .i64 (low r)) ∧ w' = w := by
  rcases h with h | h | h | h | h | h | h | h
  · obtain ⟨h0, h1⟩ := h
    go_enter Tryz.func92, Tryz.ntmps92
    go_wp2
    all_goals go_ret
    all_goals exact ⟨ret_int (by unfold low; repeat' split; all_goals omega), rfl⟩
  · obtain ⟨h0, h1⟩ := h
    go_enter Tryz.func92, Tryz.ntmps92
    go_wp2
    all_goals go_ret
    all_goals exact ⟨ret_int (by unfold low; repeat' split; all_goals omega), rfl⟩
  · obtain ⟨h0, h1⟩ := h
    go_enter Tryz.func92, Tryz.ntmps92
    go_wp2
    all_goals go_ret
    all_goals exact ⟨ret_int (by unfold low; repeat' split; all_goals omega), rfl⟩
  · obtain ⟨h0, h1⟩ := h
    go_enter Tryz.func92, Tryz.ntmps92
    go_wp2
    all_goals go_ret
    all_goals exact ⟨ret_int (by unfold low; repeat' split; all_goals omega), rfl⟩
  · obtain ⟨h0, h1⟩ := h
    go_enter Tryz.func92, Tryz.ntmps92
    go_wp2
    all_goals go_ret
    all_goals exact ⟨ret_int (by unfold low; repeat' split; all_goals omega), rfl⟩
  · obtain ⟨h0, h1, h2⟩ := h
    have hr : r = 2 * (r / 2) := by omega
    have b0 : (r % 2 == 0) = true := by rw [h2]; rfl
    have b1 : (r % 2 == 1) = false := by rw [h2]; rfl
    have HR := Lib.hid hr
    have H2 := Lib.hid h2
    clear hr h2
    go_enter Tryz.func92, Tryz.ntmps92
    go_wp2
    all_goals go_ret
    all_goals exact ⟨ret_int (by have := H2.out; unfold low; repeat' split; all_goals omega), rfl⟩
  · obtain ⟨h0, h1, h2⟩ := h
    have hr : r = 2 * (r / 2) + 1 := by omega
    have b0 : (r % 2 == 0) = false := by rw [h2]; rfl
    have b1 : (r % 2 == 1) = true := by rw [h2]; rfl
    have HR := Lib.hid hr
    have H2 := Lib.hid h2
    clear hr h2
    go_enter Tryz.func92, Tryz.ntmps92
    go_wp2
    all_goals go_ret
    all_goals exact ⟨ret_int (by have := H2.out; unfold low; repeat' split; all_goals omega), rfl⟩
  · go_enter Tryz.func92, Tryz.ntmps92
    go_wp2
    all_goals go_ret
    all_goals exact ⟨ret_int (by unfold low; repeat' split; all_goals omega), rfl⟩

set_option maxHeartbeats 4000000 in
theorem rlower_calls (r : Int) (w : World) :
    Calls Tryz.prog 92 #[.int .i64 r] w fun e w' => e = .returned (.int .i64 (low r)) ∧ w' = w := by
  by_cases c0 : 256 ≤ r ∧ r ≤ 302 ∧ r % 2 = 0
  · exact rlower_0 r w (by omega)
  by_cases c1 : r < 256
  · exact rlower_0 r w (by omega)
  · skip
    by_cases c2 : r < 330
    · exact rlower_1 r w (by omega)
    · skip
      by_cases c3 : r < 931
      · exact rlower_2 r w (by omega)
      · exact rlower_3 r w (by omega)

set_option maxHeartbeats 400000 in
theorem rdigit_calls (r : Int) (w : World) :
    Calls Tryz.prog 102 #[.int .i64 r] w fun e w' => e = .returned (.bool (digit r)) ∧ w' = w := by
  go_enter Tryz.func102, Tryz.ntmps102
  go_wp2
  all_goals go_ret
  all_goals (refine ⟨ret_bool ?_, rfl⟩; rw [Bool.eq_iff_iff]; simp [digit]; omega)

set_option maxHeartbeats 8000000 in
set_option maxRecDepth 100000 in
theorem rletter_calls (r : Int) (w : World) :
    Calls Tryz.prog 101 #[.int .i64 r] w fun e w' => e = .returned (.bool (letter r)) ∧ w' = w := by
  have h : r < 65 ∨ (65 ≤ r ∧ r ≤ 90) ∨ (91 ≤ r ∧ r ≤ 96) ∨ (97 ≤ r ∧ r ≤ 122) ∨ (123 ≤ r ∧ r ≤ 191) ∨ (192 ≤ r ∧ r ≤ 214) ∨ r = 215 ∨ (216 ≤ r ∧ r ≤ 246) ∨ r = 247 ∨ (248 ≤ r ∧ r ≤ 591) ∨ (592 ≤ r ∧ r ≤ 879) ∨ (880 ≤ r ∧ r ≤ 893) ∨ r = 894 ∨ (895 ≤ r ∧ r ≤ 902) ∨ r = 903 ∨ (904 ≤ r ∧ r ≤ 1327) ∨ 1327 < r := by omega
  rcases h with h | h | h | h | h | h | rfl | h | rfl | h | h | h | rfl | h | rfl | h | h
  · go_enter Tryz.func101, Tryz.ntmps101
    go_wp2
    all_goals go_ret
    all_goals exact ⟨ret_bool (by rw [Bool.eq_iff_iff]; unfold letter; rw [decide_eq_true_iff]; simp; try omega), rfl⟩
  · obtain ⟨h0, h1⟩ := h
    have n1 : (r == 215) = false := by rw [beq_eq_false_iff_ne]; omega
    have n2 : (r == 247) = false := by rw [beq_eq_false_iff_ne]; omega
    have n3 : (r == 894) = false := by rw [beq_eq_false_iff_ne]; omega
    have n4 : (r == 903) = false := by rw [beq_eq_false_iff_ne]; omega
    go_enter Tryz.func101, Tryz.ntmps101
    go_wp2
    all_goals go_ret
    all_goals exact ⟨ret_bool (by rw [Bool.eq_iff_iff]; unfold letter; rw [decide_eq_true_iff]; simp; try omega), rfl⟩
  · obtain ⟨h0, h1⟩ := h
    have n1 : (r == 215) = false := by rw [beq_eq_false_iff_ne]; omega
    have n2 : (r == 247) = false := by rw [beq_eq_false_iff_ne]; omega
    have n3 : (r == 894) = false := by rw [beq_eq_false_iff_ne]; omega
    have n4 : (r == 903) = false := by rw [beq_eq_false_iff_ne]; omega
    go_enter Tryz.func101, Tryz.ntmps101
    go_wp2
    all_goals go_ret
    all_goals exact ⟨ret_bool (by rw [Bool.eq_iff_iff]; unfold letter; rw [decide_eq_true_iff]; simp; try omega), rfl⟩
  · obtain ⟨h0, h1⟩ := h
    have n1 : (r == 215) = false := by rw [beq_eq_false_iff_ne]; omega
    have n2 : (r == 247) = false := by rw [beq_eq_false_iff_ne]; omega
    have n3 : (r == 894) = false := by rw [beq_eq_false_iff_ne]; omega
    have n4 : (r == 903) = false := by rw [beq_eq_false_iff_ne]; omega
    go_enter Tryz.func101, Tryz.ntmps101
    go_wp2
    all_goals go_ret
    all_goals exact ⟨ret_bool (by rw [Bool.eq_iff_iff]; unfold letter; rw [decide_eq_true_iff]; simp; try omega), rfl⟩
  · obtain ⟨h0, h1⟩ := h
    have n1 : (r == 215) = false := by rw [beq_eq_false_iff_ne]; omega
    have n2 : (r == 247) = false := by rw [beq_eq_false_iff_ne]; omega
    have n3 : (r == 894) = false := by rw [beq_eq_false_iff_ne]; omega
    have n4 : (r == 903) = false := by rw [beq_eq_false_iff_ne]; omega
    go_enter Tryz.func101, Tryz.ntmps101
    go_wp2
    all_goals go_ret
    all_goals exact ⟨ret_bool (by rw [Bool.eq_iff_iff]; unfold letter; rw [decide_eq_true_iff]; simp; try omega), rfl⟩
  · obtain ⟨h0, h1⟩ := h
    have n1 : (r == 215) = false := by rw [beq_eq_false_iff_ne]; omega
    have n2 : (r == 247) = false := by rw [beq_eq_false_iff_ne]; omega
    have n3 : (r == 894) = false := by rw [beq_eq_false_iff_ne]; omega
    have n4 : (r == 903) = false := by rw [beq_eq_false_iff_ne]; omega
    go_enter Tryz.func101, Tryz.ntmps101
    go_wp2
    all_goals go_ret
    all_goals exact ⟨ret_bool (by rw [Bool.eq_iff_iff]; unfold letter; rw [decide_eq_true_iff]; simp; try omega), rfl⟩
  · go_enter Tryz.func101, Tryz.ntmps101
    go_wp2
    all_goals go_ret
    all_goals exact ⟨ret_bool (by decide), rfl⟩
  · obtain ⟨h0, h1⟩ := h
    have n1 : (r == 215) = false := by rw [beq_eq_false_iff_ne]; omega
    have n2 : (r == 247) = false := by rw [beq_eq_false_iff_ne]; omega
    have n3 : (r == 894) = false := by rw [beq_eq_false_iff_ne]; omega
    have n4 : (r == 903) = false := by rw [beq_eq_false_iff_ne]; omega
    go_enter Tryz.func101, Tryz.ntmps101
    go_wp2
    all_goals go_ret
    all_goals exact ⟨ret_bool (by rw [Bool.eq_iff_iff]; unfold letter; rw [decide_eq_true_iff]; simp; try omega), rfl⟩
  · go_enter Tryz.func101, Tryz.ntmps101
    go_wp2
    all_goals go_ret
    all_goals exact ⟨ret_bool (by decide), rfl⟩
  · obtain ⟨h0, h1⟩ := h
    have n1 : (r == 215) = false := by rw [beq_eq_false_iff_ne]; omega
    have n2 : (r == 247) = false := by rw [beq_eq_false_iff_ne]; omega
    have n3 : (r == 894) = false := by rw [beq_eq_false_iff_ne]; omega
    have n4 : (r == 903) = false := by rw [beq_eq_false_iff_ne]; omega
    go_enter Tryz.func101, Tryz.ntmps101
    go_wp2
    all_goals go_ret
    all_goals exact ⟨ret_bool (by rw [Bool.eq_iff_iff]; unfold letter; rw [decide_eq_true_iff]; simp; try omega), rfl⟩
  · obtain ⟨h0, h1⟩ := h
    have n1 : (r == 215) = false := by rw [beq_eq_false_iff_ne]; omega
    have n2 : (r == 247) = false := by rw [beq_eq_false_iff_ne]; omega
    have n3 : (r == 894) = false := by rw [beq_eq_false_iff_ne]; omega
    have n4 : (r == 903) = false := by rw [beq_eq_false_iff_ne]; omega
    go_enter Tryz.func101, Tryz.ntmps101
    go_wp2
    all_goals go_ret
    all_goals exact ⟨ret_bool (by rw [Bool.eq_iff_iff]; unfold letter; rw [decide_eq_true_iff]; simp; try omega), rfl⟩
  · obtain ⟨h0, h1⟩ := h
    have n1 : (r == 215) = false := by rw [beq_eq_false_iff_ne]; omega
    have n2 : (r == 247) = false := by rw [beq_eq_false_iff_ne]; omega
    have n3 : (r == 894) = false := by rw [beq_eq_false_iff_ne]; omega
    have n4 : (r == 903) = false := by rw [beq_eq_false_iff_ne]; omega
    go_enter Tryz.func101, Tryz.ntmps101
    go_wp2
    all_goals go_ret
    all_goals exact ⟨ret_bool (by rw [Bool.eq_iff_iff]; unfold letter; rw [decide_eq_true_iff]; simp; try omega), rfl⟩
  · go_enter Tryz.func101, Tryz.ntmps101
    go_wp2
    all_goals go_ret
    all_goals exact ⟨ret_bool (by decide), rfl⟩
  · obtain ⟨h0, h1⟩ := h
    have n1 : (r == 215) = false := by rw [beq_eq_false_iff_ne]; omega
    have n2 : (r == 247) = false := by rw [beq_eq_false_iff_ne]; omega
    have n3 : (r == 894) = false := by rw [beq_eq_false_iff_ne]; omega
    have n4 : (r == 903) = false := by rw [beq_eq_false_iff_ne]; omega
    go_enter Tryz.func101, Tryz.ntmps101
    go_wp2
    all_goals go_ret
    all_goals exact ⟨ret_bool (by rw [Bool.eq_iff_iff]; unfold letter; rw [decide_eq_true_iff]; simp; try omega), rfl⟩
  · go_enter Tryz.func101, Tryz.ntmps101
    go_wp2
    all_goals go_ret
    all_goals exact ⟨ret_bool (by decide), rfl⟩
  · obtain ⟨h0, h1⟩ := h
    have n1 : (r == 215) = false := by rw [beq_eq_false_iff_ne]; omega
    have n2 : (r == 247) = false := by rw [beq_eq_false_iff_ne]; omega
    have n3 : (r == 894) = false := by rw [beq_eq_false_iff_ne]; omega
    have n4 : (r == 903) = false := by rw [beq_eq_false_iff_ne]; omega
    go_enter Tryz.func101, Tryz.ntmps101
    go_wp2
    all_goals go_ret
    all_goals exact ⟨ret_bool (by rw [Bool.eq_iff_iff]; unfold letter; rw [decide_eq_true_iff]; simp; try omega), rfl⟩
  · go_enter Tryz.func101, Tryz.ntmps101
    go_wp2
    all_goals go_ret
    all_goals exact ⟨ret_bool (by rw [Bool.eq_iff_iff]; unfold letter; rw [decide_eq_true_iff]; simp; try omega), rfl⟩

set_option maxHeartbeats 400000 in
theorem rword_calls (r : Int) (w : World) :
    Calls Tryz.prog 90 #[.int .i64 r] w fun e w' => e = .returned (.bool (word r)) ∧ w' = w := by
  cases hl : letter r
  · go_enter Tryz.func90, Tryz.ntmps90
    go_wp2_with fail
    refine (rletter_calls r _).mono ?_
    rintro e w1 ⟨rfl, rfl⟩
    rw [hl]
    have HL := Lib.hid hl
    clear hl
    go_wp2_with fail
    refine (rdigit_calls r _).mono ?_
    rintro e w1 ⟨rfl, rfl⟩
    go_wp2_with fail
    go_ret
    exact ⟨ret_bool (by unfold word; rw [HL.out]; rfl), rfl⟩
  · go_enter Tryz.func90, Tryz.ntmps90
    go_wp2_with fail
    refine (rletter_calls r _).mono ?_
    rintro e w1 ⟨rfl, rfl⟩
    rw [hl]
    have HL := Lib.hid hl
    clear hl
    go_wp2_with fail
    go_ret
    exact ⟨ret_bool (by unfold word; rw [HL.out]; rfl), rfl⟩
end Fold
end Go.Proofs.YtfohollhdaedlaaGreatDoor
