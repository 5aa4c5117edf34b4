/- UtfNext: the sign at any place of any text; which numbers are signs, and their bytes behind any others: the law, out of the contracts. -/
import Derived.Test.YtonhlgidfgogiaaUtfBack
set_option linter.unusedVariables false
set_option linter.unusedSimpArgs false
namespace Go.Proofs.Ytonhlgidfgogiaa
open Go.RowKit
namespace Utf

set_option maxHeartbeats 1000000 in
set_option maxRecDepth 100000 in
theorem unext_proof (w : World) (s : ByteArray) (hs : s.size ≤ 140737488351232) (i : Int) (hi : -9223372036854775808 ≤ i ∧ i ≤ 9223372036854775807) (r : Int) (hr : -9223372036854775808 ≤ r ∧ r ≤ 9223372036854775807)
    (A : Option Addr) (n c : Nat) (l : List Int) (h : IsBytes w A n c l) :
    Calls Try.prog 6 #[.string s, .int .i64 i, .int .i64 r, .slice A n c] w fun e w' => e = .returned (.bool true) ∧ Below w.heap.size w w' := by
  obtain ⟨hsl, hby, hn⟩ := h
  have HS := Lib.hid hsl
  have HY := Lib.hid hby
  have HN := Lib.hid hn
  have HR := Lib.hid hr
  have HB2 : Hid (Byt (l ++ enc r)) := fun b hm => by
    rcases List.mem_append.1 hm with h | h
    · exact hby b h
    · exact enc_byt r b h
  have HT := Lib.hid hs
  clear hsl hby hn hi hr hs
  go_enter Try.func6, Try.ntmps6
  go_wp2_with fail
  refine (next_calls s i HT.out _).mono ?_
  rintro e w1 ⟨rfl, hb1⟩
  go_wp2_with fail
  refine (rnext_calls s i HT.out _).mono ?_
  rintro e w2 ⟨rfl, hb2⟩
  have HB : Hid (Below w.heap.size w w2) := below_next hb1 hb2
  clear hb1 hb2
  go_wp2_with fail
  refine (clone_calls A n c l _ (HS.out.below HB.out) HN.out).mono ?_
  rintro e w3 ⟨v3, rfl, ho3, hb3⟩
  have hl3 : l.length = n := by simpa using HS.out.1
  obtain ⟨A3, c3, rfl, hs3⟩ := own_form ho3
  rw [hl3] at hs3 ⊢
  have HS3 := Lib.hid hs3
  have HB3 : Hid (Below w.heap.size w w3) := below_next HB.out hb3
  clear ho3 hs3 hl3 HB hb3
  go_wp2_with fail
  refine (sign_calls r _).mono ?_
  rintro e w4 ⟨rfl, rfl⟩
  go_wp2_with fail
  refine (rsign_calls r _).mono ?_
  rintro e w5 ⟨rfl, rfl⟩
  go_wp2_with fail
  refine (put_calls A n c l r HR.out _ (HS.out.below HB3.out) HN.out).mono ?_
  rintro e w6 ⟨v6, rfl, ho6, hb6⟩
  obtain ⟨A6, c6, rfl, hs6⟩ := own_form ho6
  rw [List.length_append] at hs6 ⊢
  have HS6 := Lib.hid hs6
  clear ho6 hs6
  go_wp2_with fail
  refine (rput_calls A3 n c3 l r HR.out _ (HS3.out.below hb6) HN.out).mono ?_
  rintro e w7 ⟨v7, rfl, ho7, hb7⟩
  obtain ⟨A7, c7, rfl, hs7⟩ := own_form ho7
  rw [List.length_append] at hs7 ⊢
  have HS7 := Lib.hid hs7
  clear ho7 hs7
  go_wp2_with fail
  refine (equal_calls A6 A7 _ _ c6 c7 (l ++ enc r) (l ++ enc r) _ (HS6.out.below hb7) HS7.out HB2.out HB2.out).mono ?_
  rintro e w8 ⟨rfl, rfl⟩
  go_wp2_with fail
  refine (equal_calls A A3 _ _ c c3 l l _ (((HS.out.below HB3.out).below hb6).below hb7) ((HS3.out.below hb6).below hb7) HY.out HY.out).mono ?_
  rintro e w9 ⟨rfl, rfl⟩
  go_wp2_with fail
  refine (awake_calls _).mono ?_
  rintro e w10 ⟨rfl, hb10⟩
  go_wp2_with fail
  go_ret
  exact ⟨rfl, below_next (below_next (below_next HB3.out hb6) hb7) hb10⟩
end Utf
end Go.Proofs.Ytonhlgidfgogiaa
