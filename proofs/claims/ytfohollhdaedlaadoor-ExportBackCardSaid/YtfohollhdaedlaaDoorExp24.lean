/- Export: the laws: any documents' lines, and the documents of any lines; what was written is read. -/
import Derived.Test.YtfohollhdaedlaaDoorExp23
set_option linter.unusedVariables false
set_option linter.unusedSimpArgs false
set_option maxRecDepth 100000
namespace Go.Proofs.YtfohollhdaedlaaDoor
open Go.RowKit
namespace Exp
theorem sl_nil (w : World) : IsSl w 5 none 0 0 (dCells []) := ⟨rfl, Nat.le_refl _, by simp [maxLen], fun _ => ⟨rfl, rfl⟩, fun ad h => by cases h⟩
theorem str_self (s : ByteArray) : (s.toList == s.toList) = true := by simp
set_option maxHeartbeats 8000000 in
theorem texts_proof (w : World) (hH : LaidH w) (A : Option Addr) (n c : Nat) (l : List DocM) (hsl : IsSl w 5 A n c (dCells l)) (s : ByteArray) (hs : s.size ≤ 140737488351232) :
    Calls Tryd.prog 4 #[.slice A n c, .string s] w fun e w' => e = .returned (.bool true) ∧ Below w.heap.size w w' := by
  have HH := Lib.hid hH
  have HSL := Lib.hid hsl
  have hba : Below w.heap.size w (w.alloc (.cells #[.slice A n c] 23)) := (Below.refl _ _).alloc (Nat.le_refl _) _
  have HBA := Lib.hid hba
  have CS := Lib.hid (short_calls (w.alloc (.cells #[.slice A n c] 23)) w.heap.size A n c l (hsl.below hba) (by rw [cell_new]; rfl))
  clear hH hsl hba
  go_enter Tryd.func4, Tryd.ntmps4
  go_wp2_with fail
  refine CS.out.mono ?_
  rintro e w1 ⟨⟨b, rfl, hb20⟩, hb1⟩
  have HB1 := Lib.hid (below_next HBA.out hb1)
  clear hb1 CS
  cases b
  · go_wp2_with fail
    refine (awake_calls _ (HH.out.below HB1.out)).mono ?_
    rintro e w3 ⟨rfl, hb3⟩
    have HB3 := Lib.hid (below_next HB1.out hb3)
    clear hb3
    go_wp2_with fail
    go_ret
    exact ⟨rfl, HB3.out⟩
  · by_cases h4 : 4096 < s.size
    · have h4' : (4096 : Int) < s.size := by omega
      go_wp2_with fail
      refine (awake_calls _ (HH.out.below HB1.out)).mono ?_
      rintro e w3 ⟨rfl, hb3⟩
      have HB3 := Lib.hid (below_next HB1.out hb3)
      clear hb3
      go_wp2_with fail
      go_ret
      exact ⟨rfl, HB3.out⟩
    · have h4' : ¬ (4096 : Int) < s.size := by omega
      have hs2 : s.size ≤ 65536 := by omega
      have hs3 : s.size ≤ 4096 := by omega
      have hn : n ≤ 1000000 := by have := hb20 rfl; omega
      obtain ⟨x, hx⟩ : ∃ x, mk8 (writeD okT l) = x := ⟨_, rfl⟩
      have hxx := str_self x
      clear hb20
      go_wp2_with fail
      refine (read_calls s hs2 _ (HH.out.below HB1.out)).mono ?_
      rintro e w2 ⟨hb2, (⟨l1, A1, c1, hr, rfl, hsl1⟩ | ⟨k, hr, rfl⟩)⟩
      · have HB2 := Lib.hid (below_next HB1.out hb2)
        have HSL1 := Lib.hid hsl1
        have HR := Lib.hid hr
        clear hb2 hsl1 hr
        go_wp2_with fail
        refine (rread_calls s hs3 _).mono ?_
        rintro e w3 ⟨hb3, (⟨l2, A2, c2, hr2, rfl, hsl2⟩ | ⟨k, hr2, rfl⟩)⟩
        · rw [HR.out] at hr2
          obtain rfl := (Prod.mk.inj hr2).1
          have HB3 := Lib.hid (below_next HB2.out hb3)
          have HSL2 := Lib.hid hsl2
          have HSL3 := Lib.hid (HSL1.out.below hb3)
          clear hb3 hsl2 hr2
          go_wp2_with fail
          refine (write_calls w3 (HH.out.below HB3.out) A n c l (HSL.out.below HB3.out) hn).mono ?_
          rintro e w4 ⟨rfl, hb4⟩
          have HB4 := Lib.hid (below_next HB3.out hb4)
          have HSL4 := Lib.hid (HSL2.out.below hb4)
          have HSL5 := Lib.hid (HSL3.out.below hb4)
          clear hb4
          rw [hx]
          go_wp2_with fail
          refine (rwrite_calls w4 A n c l (HSL.out.below HB4.out) hn).mono ?_
          rintro e w5 ⟨rfl, hb5⟩
          have HB5 := Lib.hid (below_next HB4.out hb5)
          have HSL6 := Lib.hid (HSL4.out.below hb5)
          have HSL7 := Lib.hid (HSL5.out.below hb5)
          have CE := Lib.hid (equal_calls w5 A1 c1 l1 HSL7.out A2 c2 l1 HSL6.out)
          rw [decide_eq_true (rfl : l1 = l1)] at CE
          clear hb5
          rw [hx]
          generalize l1.length = q at *
          go_wp2_with fail
          refine CE.out.mono ?_
          rintro e w6 ⟨rfl, hb6⟩
          have HB6 := Lib.hid (below_next HB5.out hb6)
          clear hb6 CE
          go_wp2_with fail
          refine (awake_calls _ (HH.out.below HB6.out)).mono ?_
          rintro e w7 ⟨rfl, hb7⟩
          have HB7 := Lib.hid (below_next HB6.out hb7)
          clear hb7
          go_wp2_with fail
          go_ret
          exact ⟨rfl, HB7.out⟩
        · rw [HR.out] at hr2
          cases (Prod.mk.inj hr2).2
      · have HB2 := Lib.hid (below_next HB1.out hb2)
        have HR := Lib.hid hr
        clear hb2 hr
        go_wp2_with fail
        refine (rread_calls s hs3 _).mono ?_
        rintro e w3 ⟨hb3, (⟨l2, A2, c2, hr2, rfl, hsl2⟩ | ⟨k2, hr2, rfl⟩)⟩
        · rw [HR.out] at hr2
          cases (Prod.mk.inj hr2).2
        · rw [HR.out] at hr2
          obtain rfl := Option.some.inj (Prod.mk.inj hr2).2
          have HB3 := Lib.hid (below_next HB2.out hb3)
          clear hb3 hr2
          go_wp2_with fail
          refine (write_calls w3 (HH.out.below HB3.out) A n c l (HSL.out.below HB3.out) hn).mono ?_
          rintro e w4 ⟨rfl, hb4⟩
          have HB4 := Lib.hid (below_next HB3.out hb4)
          clear hb4
          rw [hx]
          go_wp2_with fail
          refine (rwrite_calls w4 A n c l (HSL.out.below HB4.out) hn).mono ?_
          rintro e w5 ⟨rfl, hb5⟩
          have HB5 := Lib.hid (below_next HB4.out hb5)
          have CE := Lib.hid (equal_calls w5 none 0 [] (sl_nil w5) none 0 [] (sl_nil w5))
          rw [decide_eq_true (rfl : ([] : List DocM) = [])] at CE
          clear hb5
          rw [hx]
          go_wp2_with fail
          refine CE.out.mono ?_
          rintro e w6 ⟨rfl, hb6⟩
          have HB6 := Lib.hid (below_next HB5.out hb6)
          clear hb6 CE
          go_wp2_with fail
          refine (awake_calls _ (HH.out.below HB6.out)).mono ?_
          rintro e w7 ⟨rfl, hb7⟩
          have HB7 := Lib.hid (below_next HB6.out hb7)
          clear hb7
          go_wp2_with fail
          go_ret
          exact ⟨rfl, HB7.out⟩
end Exp
end Go.Proofs.YtfohollhdaedlaaDoor
