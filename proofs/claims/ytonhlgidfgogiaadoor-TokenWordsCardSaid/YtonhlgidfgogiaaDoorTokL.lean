/- The law TokenWords. -/
import Derived.Test.YtonhlgidfgogiaaDoorTokE
import Derived.Test.YtonhlgidfgogiaaDoorTokR2
set_option linter.unusedVariables false
set_option linter.unusedSimpArgs false
set_option maxRecDepth 100000
namespace Go.Proofs.YtonhlgidfgogiaaDoor
open Go.RowKit Utf Fold
namespace Tok
set_option maxHeartbeats 2000000 in
theorem words_proof (w : World) (hL : Laid w) (s : ByteArray) (hs : s.size ≤ 140737488351232) :
    Calls Tryd.prog 13 #[.string s] w fun e w' => e = .returned (.bool true) ∧ Below w.heap.size w w' := by
  have HL := Lib.hid hL
  clear hL
  by_cases hl : 2048 < s.size
  · have hl' : (2048 : Int) < s.size := by omega
    go_enter Tryd.func13, Tryd.ntmps13
    go_wp2_with fail
    refine (awake_calls _ HL.out).mono ?_
    rintro e w1 ⟨rfl, hb1⟩
    go_wp2_with fail
    go_ret
    exact ⟨rfl, hb1⟩
  · have hl' : (s.size : Int) ≤ 2048 := by omega
    have hsz : s.size ≤ 16777216 := by omega
    have c1 := fun W h => words_calls s hsz W h
    have c2 := fun W => rwords_calls s hsz W
    have c3 := fun W => spans_calls s hsz W
    have c4 := fun W => rspans_calls s hsz W
    have c5 := fun W => count_calls s hsz W
    have c6 := fun W => rcount_calls s hsz W
    have c7 := fun W => single_calls s hsz W
    have c8 := fun W => rsingle_calls s hsz W
    generalize toks s 0 (spans s 0) = T at *
    generalize spans s 0 = S at *
    generalize single s = g at *
    generalize hT : T.length = nT at *
    generalize hS : S.length = nS at *
    go_enter Tryd.func13, Tryd.ntmps13
    go_wp2_with fail
    refine (c1 _ HL.out).mono ?_
    rintro e w1 ⟨v, rfl, ho, hb⟩
    obtain ⟨A1, d1, rfl, hsl1⟩ := own_form ho
    have HB1 := Lib.hid hb
    have HS1 := Lib.hid hsl1
    clear ho hb hsl1
    go_wp2_with fail
    refine (c2 _).mono ?_
    rintro e w2 ⟨v, rfl, ho, hb⟩
    obtain ⟨A2, d2, rfl, hsl2⟩ := own_form ho
    have HB2 : Hid (Below w.heap.size w w2) := below_next HB1.out hb
    have HS1b := Lib.hid (HS1.out.below hb)
    have HS2 := Lib.hid hsl2
    clear ho hb hsl2
    go_wp2_with fail
    refine (equal_tok w2 A1 nT d1 A2 d2 T hT HS1b.out HS2.out).mono ?_
    rintro e w3 ⟨rfl, hb⟩
    have HB3 : Hid (Below w.heap.size w w3) := below_next HB2.out hb
    clear hb
    go_wp2_with fail
    refine (c3 _).mono ?_
    rintro e w4 ⟨v, rfl, ho, hb⟩
    obtain ⟨A4, d4, rfl, hsl4⟩ := own_form ho
    have HB4 : Hid (Below w.heap.size w w4) := below_next HB3.out hb
    have HS4 := Lib.hid hsl4
    clear ho hb hsl4
    go_wp2_with fail
    refine (c4 _).mono ?_
    rintro e w5 ⟨v, rfl, ho, hb⟩
    obtain ⟨A5, d5, rfl, hsl5⟩ := own_form ho
    have HB5 : Hid (Below w.heap.size w w5) := below_next HB4.out hb
    have HS4b := Lib.hid (HS4.out.below hb)
    have HS5 := Lib.hid hsl5
    clear ho hb hsl5
    go_wp2_with fail
    refine (equal_span w5 A4 nS d4 A5 d5 S hS HS4b.out HS5.out).mono ?_
    rintro e w6 ⟨rfl, hb⟩
    have HB6 : Hid (Below w.heap.size w w6) := below_next HB5.out hb
    clear hb
    go_wp2_with fail
    refine (c5 _).mono ?_
    rintro e w7 ⟨rfl, hb⟩
    have HB7 : Hid (Below w.heap.size w w7) := below_next HB6.out hb
    clear hb
    go_wp2_with fail
    refine (c6 _).mono ?_
    rintro e w8 ⟨rfl, hb⟩
    have HB8 : Hid (Below w.heap.size w w8) := below_next HB7.out hb
    clear hb
    go_wp2_with fail
    refine (c7 _).mono ?_
    rintro e w9 ⟨rfl, hb⟩
    have HB9 : Hid (Below w.heap.size w w9) := below_next HB8.out hb
    clear hb
    go_wp2_with fail
    refine (c8 _).mono ?_
    rintro e w10 ⟨rfl, hb⟩
    have HB10 : Hid (Below w.heap.size w w10) := below_next HB9.out hb
    clear hb
    go_wp2_with fail
    refine (awake_calls _ (HL.out.below HB10.out)).mono ?_
    rintro e w11 ⟨rfl, hb⟩
    go_wp2_with fail
    go_ret
    exact ⟨rfl, below_next HB10.out hb⟩
end Tok
end Go.Proofs.YtonhlgidfgogiaaDoor
