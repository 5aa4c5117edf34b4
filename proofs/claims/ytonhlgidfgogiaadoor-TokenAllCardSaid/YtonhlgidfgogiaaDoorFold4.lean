/- The walks: the example of layer 4, and the laws FoldSigns, FoldTexts, FoldOnce, FoldAgain. -/
import Derived.Test.YtonhlgidfgogiaaDoorFold3
import Derived.Test.YtonhlgidfgogiaaDoorFoldBack
set_option linter.unusedVariables false
set_option linter.unusedSimpArgs false
namespace Go.Proofs.YtonhlgidfgogiaaDoor
open Go.RowKit Utf
namespace Fold

theorem awakeText : strOfNums (textF { data := #[195, 137, 65, 49] } 0) = { data := #[195, 169, 97, 49] } := by
  rw [textF_go (by decide), piece_good (by decide +kernel), show adv { data := #[195, 137, 65, 49] } 0 = 2 by decide +kernel, show (nx { data := #[195, 137, 65, 49] } 0).1 = 201 by decide +kernel,
    textF_go (by decide), piece_good (by decide +kernel), show adv { data := #[195, 137, 65, 49] } 2 = 3 by decide +kernel, show (nx { data := #[195, 137, 65, 49] } 2).1 = 65 by decide +kernel,
    textF_go (by decide), piece_good (by decide +kernel), show adv { data := #[195, 137, 65, 49] } 3 = 4 by decide +kernel, show (nx { data := #[195, 137, 65, 49] } 3).1 = 49 by decide +kernel, textF_end (by decide)]
  decide +kernel

set_option maxHeartbeats 400000 in
theorem awake_calls (w : World) (hL : Laid w) :
    Calls Tryd.prog 30 #[] w fun e w' => e = .returned (.bool true) ∧ Below w.heap.size w w' := by
  have HL := Lib.hid hL
  have H1 := Lib.hid awakeText
  have h2 : letter 97 = true := by decide
  have h3 : word 45 = false := by decide
  clear hL
  go_enter Tryd.func30, Tryd.ntmps30
  go_wp2_with fail
  refine (text_calls { data := #[195, 137, 65, 49] } (by decide) _ HL.out).mono ?_
  rw [H1.out]
  rintro e w1 ⟨rfl, hb1⟩
  have HB1 := Lib.hid hb1
  clear hb1
  go_wp2_with fail
  refine (letter_calls 97 (by decide) _).mono ?_
  rw [h2]
  rintro e w2 ⟨rfl, rfl⟩
  go_wp2_with fail
  refine (word_calls 45 (by decide) _).mono ?_
  rw [h3]
  rintro e w3 ⟨rfl, rfl⟩
  go_wp2_with fail
  go_ret
  exact ⟨rfl, HB1.out⟩

set_option maxHeartbeats 400000 in
theorem signs_proof (w : World) (hL : Laid w) (r : Int) (hr : -9223372036854775808 ≤ r ∧ r ≤ 9223372036854775807) :
    Calls Tryd.prog 3 #[.int .i64 r] w fun e w' => e = .returned (.bool true) ∧ Below w.heap.size w w' := by
  have HL := Lib.hid hL
  clear hL
  go_enter Tryd.func3, Tryd.ntmps3
  go_wp2_with fail
  refine (lower_calls r hr _ HL.out).mono ?_
  rintro e w1 ⟨rfl, hb1⟩
  have HB1 := Lib.hid hb1
  clear hb1
  go_wp2_with fail
  refine (rlower_calls r _).mono ?_
  rintro e w2 ⟨rfl, rfl⟩
  go_wp2_with fail
  refine (digit_calls r _).mono ?_
  rintro e w2 ⟨rfl, rfl⟩
  go_wp2_with fail
  refine (rdigit_calls r _).mono ?_
  rintro e w2 ⟨rfl, rfl⟩
  go_wp2_with fail
  refine (letter_calls r hr _).mono ?_
  rintro e w2 ⟨rfl, rfl⟩
  go_wp2_with fail
  refine (rletter_calls r _).mono ?_
  rintro e w2 ⟨rfl, rfl⟩
  go_wp2_with fail
  refine (word_calls r hr _).mono ?_
  rintro e w2 ⟨rfl, rfl⟩
  go_wp2_with fail
  refine (rword_calls r _).mono ?_
  rintro e w2 ⟨rfl, rfl⟩
  go_wp2_with fail
  refine (awake_calls _ (HL.out.below HB1.out)).mono ?_
  rintro e w3 ⟨rfl, hb3⟩
  go_wp2_with fail
  go_ret
  exact ⟨rfl, below_next HB1.out hb3⟩

set_option maxHeartbeats 400000 in
theorem texts_proof (w : World) (hL : Laid w) (s : ByteArray) (hs : s.size ≤ 140737488351232) :
    Calls Tryd.prog 4 #[.string s] w fun e w' => e = .returned (.bool true) ∧ Below w.heap.size w w' := by
  have HL := Lib.hid hL
  clear hL
  by_cases hl : 4096 < s.size
  · go_enter Tryd.func4, Tryd.ntmps4
    go_wp2_with fail
    refine (awake_calls _ HL.out).mono ?_
    rintro e w1 ⟨rfl, hb1⟩
    go_wp2_with fail
    go_ret
    exact ⟨rfl, hb1⟩
  · go_enter Tryd.func4, Tryd.ntmps4
    go_wp2_with fail
    refine (text_calls s (by omega) _ HL.out).mono ?_
    rintro e w1 ⟨rfl, hb1⟩
    have HB1 := Lib.hid hb1
    clear hb1
    go_wp2_with fail
    refine (rtext_calls s (by omega) _).mono ?_
    rintro e w2 ⟨rfl, hb2⟩
    have HB2 : Hid (Below w.heap.size w w2) := below_next HB1.out hb2
    clear hb2
    go_wp2_with fail
    refine (awake_calls _ (HL.out.below HB2.out)).mono ?_
    rintro e w3 ⟨rfl, hb3⟩
    go_wp2_with fail
    go_ret
    exact ⟨rfl, below_next HB2.out hb3⟩

set_option maxHeartbeats 400000 in
theorem once_proof (w : World) (hL : Laid w) (r : Int) (hr : -9223372036854775808 ≤ r ∧ r ≤ 9223372036854775807) :
    Calls Tryd.prog 5 #[.int .i64 r] w fun e w' => e = .returned (.bool true) ∧ Below w.heap.size w w' := by
  have HL := Lib.hid hL
  have hlr := low_range r hr
  have H2 := Lib.hid (low_low r)
  have H3 := Lib.hid (letter_low r)
  have H4 := Lib.hid (digit_low r)
  clear hL
  cases hs : sgn r
  · go_enter Tryd.func5, Tryd.ntmps5
    go_wp2_with fail
    refine (lower_calls r hr _ HL.out).mono ?_
    rintro e w1 ⟨rfl, hb1⟩
    have HB1 := Lib.hid hb1
    clear hb1
    go_wp2_with fail
    refine (lower_calls (low r) hlr _ (HL.out.below HB1.out)).mono ?_
    rw [H2.out]
    rintro e w2 ⟨rfl, hb2⟩
    have HB2 : Hid (Below w.heap.size w w2) := below_next HB1.out hb2
    clear hb2
    go_wp2_with fail
    refine (sign_calls r _).mono ?_
    rw [hs]
    rintro e w3 ⟨rfl, rfl⟩
    go_wp2_with fail
    refine (letter_calls (low r) hlr _).mono ?_
    rw [H3.out]
    rintro e w3 ⟨rfl, rfl⟩
    go_wp2_with fail
    refine (letter_calls r hr _).mono ?_
    rintro e w3 ⟨rfl, rfl⟩
    go_wp2_with fail
    refine (digit_calls (low r) _).mono ?_
    rw [H4.out]
    rintro e w3 ⟨rfl, rfl⟩
    go_wp2_with fail
    refine (digit_calls r _).mono ?_
    rintro e w3 ⟨rfl, rfl⟩
    go_wp2_with fail
    refine (awake_calls _ (HL.out.below HB2.out)).mono ?_
    rintro e w3 ⟨rfl, hb3⟩
    go_wp2_with fail
    go_ret
    exact ⟨rfl, below_next HB2.out hb3⟩
  · have H5 := Lib.hid (sgn_low r hs)
    go_enter Tryd.func5, Tryd.ntmps5
    go_wp2_with fail
    refine (lower_calls r hr _ HL.out).mono ?_
    rintro e w1 ⟨rfl, hb1⟩
    have HB1 := Lib.hid hb1
    clear hb1
    go_wp2_with fail
    refine (lower_calls (low r) hlr _ (HL.out.below HB1.out)).mono ?_
    rw [H2.out]
    rintro e w2 ⟨rfl, hb2⟩
    have HB2 : Hid (Below w.heap.size w w2) := below_next HB1.out hb2
    clear hb2
    go_wp2_with fail
    refine (sign_calls r _).mono ?_
    rw [hs]
    rintro e w3 ⟨rfl, rfl⟩
    go_wp2_with fail
    refine (sign_calls (low r) _).mono ?_
    rw [H5.out]
    rintro e w3 ⟨rfl, rfl⟩
    go_wp2_with fail
    refine (letter_calls (low r) hlr _).mono ?_
    rw [H3.out]
    rintro e w3 ⟨rfl, rfl⟩
    go_wp2_with fail
    refine (letter_calls r hr _).mono ?_
    rintro e w3 ⟨rfl, rfl⟩
    go_wp2_with fail
    refine (digit_calls (low r) _).mono ?_
    rw [H4.out]
    rintro e w3 ⟨rfl, rfl⟩
    go_wp2_with fail
    refine (digit_calls r _).mono ?_
    rintro e w3 ⟨rfl, rfl⟩
    go_wp2_with fail
    refine (awake_calls _ (HL.out.below HB2.out)).mono ?_
    rintro e w3 ⟨rfl, hb3⟩
    go_wp2_with fail
    go_ret
    exact ⟨rfl, below_next HB2.out hb3⟩

set_option maxHeartbeats 400000 in
theorem again_proof (w : World) (hL : Laid w) (s : ByteArray) (hs : s.size ≤ 140737488351232) :
    Calls Tryd.prog 6 #[.string s] w fun e w' => e = .returned (.bool true) ∧ Below w.heap.size w w' := by
  have HL := Lib.hid hL
  clear hL
  by_cases hl : 4096 < s.size
  · go_enter Tryd.func6, Tryd.ntmps6
    go_wp2_with fail
    refine (awake_calls _ HL.out).mono ?_
    rintro e w1 ⟨rfl, hb1⟩
    go_wp2_with fail
    go_ret
    exact ⟨rfl, hb1⟩
  · have hx : (strOfNums (textF s 0)).size ≤ 16384 := by rw [strOfNums_size]; have := textF_length s _ 0 rfl; omega
    cases hv : validF s 0
    · go_enter Tryd.func6, Tryd.ntmps6
      go_wp2_with fail
      refine (text_calls s (by omega) _ HL.out).mono ?_
      rintro e w1 ⟨rfl, hb1⟩
      have HB1 := Lib.hid hb1
      clear hb1
      go_wp2_with fail
      refine (valid_calls s hs _).mono ?_
      rw [hv]
      rintro e w2 ⟨rfl, hb2⟩
      have HB2 : Hid (Below w.heap.size w w2) := below_next HB1.out hb2
      clear hb2
      go_wp2_with fail
      refine (awake_calls _ (HL.out.below HB2.out)).mono ?_
      rintro e w3 ⟨rfl, hb3⟩
      go_wp2_with fail
      go_ret
      exact ⟨rfl, below_next HB2.out hb3⟩
    · obtain ⟨e1, e2, e3⟩ := again0 s hv
      have H1 := Lib.hid e1
      have H2 := Lib.hid e2
      have H3 := Lib.hid e3
      clear e1 e2 e3
      go_enter Tryd.func6, Tryd.ntmps6
      go_wp2_with fail
      refine (text_calls s (by omega) _ HL.out).mono ?_
      rintro e w1 ⟨rfl, hb1⟩
      have HB1 := Lib.hid hb1
      clear hb1
      go_wp2_with fail
      refine (valid_calls s hs _).mono ?_
      rw [hv]
      rintro e w2 ⟨rfl, hb2⟩
      have HB2 : Hid (Below w.heap.size w w2) := below_next HB1.out hb2
      clear hb2
      go_wp2_with fail
      refine (text_calls (strOfNums (textF s 0)) (by omega) _ (HL.out.below HB2.out)).mono ?_
      rw [H1.out]
      rintro e w3 ⟨rfl, hb3⟩
      have HB3 : Hid (Below w.heap.size w w3) := below_next HB2.out hb3
      clear hb3
      go_wp2_with fail
      refine (valid_calls (strOfNums (textF s 0)) (by omega) _).mono ?_
      rw [H2.out]
      rintro e w4 ⟨rfl, hb4⟩
      have HB4 : Hid (Below w.heap.size w w4) := below_next HB3.out hb4
      clear hb4
      go_wp2_with fail
      refine (count_calls (strOfNums (textF s 0)) (by omega) _).mono ?_
      rw [H3.out]
      rintro e w5 ⟨rfl, hb5⟩
      have HB5 : Hid (Below w.heap.size w w5) := below_next HB4.out hb5
      clear hb5
      go_wp2_with fail
      refine (count_calls s hs _).mono ?_
      rintro e w6 ⟨rfl, hb6⟩
      have HB6 : Hid (Below w.heap.size w w6) := below_next HB5.out hb6
      clear hb6
      go_wp2_with fail
      refine (awake_calls _ (HL.out.below HB6.out)).mono ?_
      rintro e w7 ⟨rfl, hb7⟩
      go_wp2_with fail
      go_ret
      exact ⟨rfl, below_next HB6.out hb7⟩
end Fold
end Go.Proofs.YtonhlgidfgogiaaDoor
