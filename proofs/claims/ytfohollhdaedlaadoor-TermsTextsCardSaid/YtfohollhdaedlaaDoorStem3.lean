/- The walks: stem.plural. -/
import Derived.Test.YtfohollhdaedlaaDoorStem2
set_option linter.unusedVariables false
set_option linter.unusedSimpArgs false
set_option maxRecDepth 100000
namespace Go.Proofs.YtfohollhdaedlaaDoor
open Go.RowKit
namespace Stem
abbrev tSses : ByteArray := { data := #[115, 115, 101, 115] }
abbrev tIes : ByteArray := { data := #[105, 101, 115] }
abbrev tSs : ByteArray := { data := #[115, 115] }
abbrev tUs : ByteArray := { data := #[117, 115] }
abbrev tIs : ByteArray := { data := #[105, 115] }
abbrev tS : ByteArray := { data := #[115] }
abbrev tY : ByteArray := { data := #[121] }
def pluralF (s : ByteArray) : ByteArray :=
  if suf s tSses then less s 2 else if suf s tIes && decide (4 < s.size) then less s 3 ++ tY
  else if suf s tSs then s else if suf s tUs then s else if suf s tIs then s else if suf s tS then less s 1 else s

set_option maxHeartbeats 1000000 in
theorem plural_calls (s : ByteArray) (hs : s.size ≤ 140737488351232) (w : World) :
    Calls Tryd.prog 92 #[.string s] w fun e w' => e = .returned (.string (pluralF s)) ∧ w' = w := by
  have c1 := fun w => hasSuffix_calls s tSses hs (by decide) w
  have c2 := fun w => hasSuffix_calls s tIes hs (by decide) w
  have c3 := fun w => hasSuffix_calls s tSs hs (by decide) w
  have c4 := fun w => hasSuffix_calls s tUs hs (by decide) w
  have c5 := fun w => hasSuffix_calls s tIs hs (by decide) w
  have c6 : ∀ w, Calls Tryd.prog 123 #[.string s, .string tS] w fun e w' => e = .returned (.string (if suf s tS then less s 1 else s)) ∧ w' = w := fun w => trimSuffix_calls s tS hs (by decide) w
  cases h1 : suf s tSses
  · rw [h1] at c1
    by_cases h2 : (suf s tIes && decide (4 < s.size)) = true
    · have h2' := h2
      rw [Bool.and_eq_true, decide_eq_true_eq] at h2'
      obtain ⟨h3, h4⟩ := h2'
      rw [h3] at c2
      have hsl := slice_str_to Tryd.underlying9 s .i64 ((s.size : Int) - 3) (s.size - 3) (by omega) (by omega)
      have hv : pluralF s = less s 3 ++ tY := by rw [pluralF, if_neg (by rw [h1]; simp), if_pos h2]
      rw [hv]
      clear hv h1 h2 h3
      have h4' : (4 : Int) < s.size := by omega
      go_enter Tryd.func92, Tryd.ntmps92
      go_wp2_with fail
      refine (c1 _).mono ?_
      rintro e w1 ⟨rfl, rfl⟩
      go_wp2_with fail
      refine (c2 _).mono ?_
      rintro e w2 ⟨rfl, rfl⟩
      go_wp2_with fail
      go_ret
      exact ⟨rfl, rfl⟩
    · cases h3 : suf s tIes
      · rw [h3] at c2
        cases h5 : suf s tSs
        · rw [h5] at c3
          cases h6 : suf s tUs
          · rw [h6] at c4
            cases h7 : suf s tIs
            · rw [h7] at c5
              have hv : pluralF s = (if suf s tS then less s 1 else s) := by rw [pluralF, if_neg (by rw [h1]; simp), if_neg h2, if_neg (by rw [h5]; simp), if_neg (by rw [h6]; simp), if_neg (by rw [h7]; simp)]
              rw [hv]
              clear hv h1 h2
              generalize (if suf s tS then less s 1 else s) = q at c6 ⊢
              go_enter Tryd.func92, Tryd.ntmps92
              go_wp2_with fail
              refine (c1 _).mono ?_
              rintro e w1 ⟨rfl, rfl⟩
              go_wp2_with fail
              refine (c2 _).mono ?_
              rintro e w1 ⟨rfl, rfl⟩
              go_wp2_with fail
              refine (c3 _).mono ?_
              rintro e w1 ⟨rfl, rfl⟩
              go_wp2_with fail
              refine (c4 _).mono ?_
              rintro e w1 ⟨rfl, rfl⟩
              go_wp2_with fail
              refine (c5 _).mono ?_
              rintro e w1 ⟨rfl, rfl⟩
              go_wp2_with fail
              refine (c6 _).mono ?_
              rintro e w1 ⟨rfl, rfl⟩
              go_wp2_with fail
              go_ret
              exact ⟨rfl, rfl⟩
            · rw [h7] at c5
              have hv : pluralF s = s := by rw [pluralF, if_neg (by rw [h1]; simp), if_neg h2, if_neg (by rw [h5]; simp), if_neg (by rw [h6]; simp), if_pos h7]
              rw [hv]
              clear hv h1 h2
              go_enter Tryd.func92, Tryd.ntmps92
              go_wp2_with fail
              refine (c1 _).mono ?_
              rintro e w1 ⟨rfl, rfl⟩
              go_wp2_with fail
              refine (c2 _).mono ?_
              rintro e w1 ⟨rfl, rfl⟩
              go_wp2_with fail
              refine (c3 _).mono ?_
              rintro e w1 ⟨rfl, rfl⟩
              go_wp2_with fail
              refine (c4 _).mono ?_
              rintro e w1 ⟨rfl, rfl⟩
              go_wp2_with fail
              refine (c5 _).mono ?_
              rintro e w1 ⟨rfl, rfl⟩
              go_wp2_with fail
              go_ret
              exact ⟨rfl, rfl⟩
          · rw [h6] at c4
            have hv : pluralF s = s := by rw [pluralF, if_neg (by rw [h1]; simp), if_neg h2, if_neg (by rw [h5]; simp), if_pos h6]
            rw [hv]
            clear hv h1 h2
            go_enter Tryd.func92, Tryd.ntmps92
            go_wp2_with fail
            refine (c1 _).mono ?_
            rintro e w1 ⟨rfl, rfl⟩
            go_wp2_with fail
            refine (c2 _).mono ?_
            rintro e w1 ⟨rfl, rfl⟩
            go_wp2_with fail
            refine (c3 _).mono ?_
            rintro e w1 ⟨rfl, rfl⟩
            go_wp2_with fail
            refine (c4 _).mono ?_
            rintro e w1 ⟨rfl, rfl⟩
            go_wp2_with fail
            go_ret
            exact ⟨rfl, rfl⟩
        · rw [h5] at c3
          have hv : pluralF s = s := by rw [pluralF, if_neg (by rw [h1]; simp), if_neg h2, if_pos h5]
          rw [hv]
          clear hv h1 h2
          go_enter Tryd.func92, Tryd.ntmps92
          go_wp2_with fail
          refine (c1 _).mono ?_
          rintro e w1 ⟨rfl, rfl⟩
          go_wp2_with fail
          refine (c2 _).mono ?_
          rintro e w1 ⟨rfl, rfl⟩
          go_wp2_with fail
          refine (c3 _).mono ?_
          rintro e w1 ⟨rfl, rfl⟩
          go_wp2_with fail
          go_ret
          exact ⟨rfl, rfl⟩
      · rw [h3] at c2
        have h4 : (s.size : Int) ≤ 4 := by
          rw [h3, Bool.true_and, decide_eq_true_eq] at h2; omega
        cases h5 : suf s tSs
        · rw [h5] at c3
          cases h6 : suf s tUs
          · rw [h6] at c4
            cases h7 : suf s tIs
            · rw [h7] at c5
              have hv : pluralF s = (if suf s tS then less s 1 else s) := by rw [pluralF, if_neg (by rw [h1]; simp), if_neg h2, if_neg (by rw [h5]; simp), if_neg (by rw [h6]; simp), if_neg (by rw [h7]; simp)]
              rw [hv]
              clear hv h1 h2
              generalize (if suf s tS then less s 1 else s) = q at c6 ⊢
              go_enter Tryd.func92, Tryd.ntmps92
              go_wp2_with fail
              refine (c1 _).mono ?_
              rintro e w1 ⟨rfl, rfl⟩
              go_wp2_with fail
              refine (c2 _).mono ?_
              rintro e w1 ⟨rfl, rfl⟩
              go_wp2_with fail
              refine (c3 _).mono ?_
              rintro e w1 ⟨rfl, rfl⟩
              go_wp2_with fail
              refine (c4 _).mono ?_
              rintro e w1 ⟨rfl, rfl⟩
              go_wp2_with fail
              refine (c5 _).mono ?_
              rintro e w1 ⟨rfl, rfl⟩
              go_wp2_with fail
              refine (c6 _).mono ?_
              rintro e w1 ⟨rfl, rfl⟩
              go_wp2_with fail
              go_ret
              exact ⟨rfl, rfl⟩
            · rw [h7] at c5
              have hv : pluralF s = s := by rw [pluralF, if_neg (by rw [h1]; simp), if_neg h2, if_neg (by rw [h5]; simp), if_neg (by rw [h6]; simp), if_pos h7]
              rw [hv]
              clear hv h1 h2
              go_enter Tryd.func92, Tryd.ntmps92
              go_wp2_with fail
              refine (c1 _).mono ?_
              rintro e w1 ⟨rfl, rfl⟩
              go_wp2_with fail
              refine (c2 _).mono ?_
              rintro e w1 ⟨rfl, rfl⟩
              go_wp2_with fail
              refine (c3 _).mono ?_
              rintro e w1 ⟨rfl, rfl⟩
              go_wp2_with fail
              refine (c4 _).mono ?_
              rintro e w1 ⟨rfl, rfl⟩
              go_wp2_with fail
              refine (c5 _).mono ?_
              rintro e w1 ⟨rfl, rfl⟩
              go_wp2_with fail
              go_ret
              exact ⟨rfl, rfl⟩
          · rw [h6] at c4
            have hv : pluralF s = s := by rw [pluralF, if_neg (by rw [h1]; simp), if_neg h2, if_neg (by rw [h5]; simp), if_pos h6]
            rw [hv]
            clear hv h1 h2
            go_enter Tryd.func92, Tryd.ntmps92
            go_wp2_with fail
            refine (c1 _).mono ?_
            rintro e w1 ⟨rfl, rfl⟩
            go_wp2_with fail
            refine (c2 _).mono ?_
            rintro e w1 ⟨rfl, rfl⟩
            go_wp2_with fail
            refine (c3 _).mono ?_
            rintro e w1 ⟨rfl, rfl⟩
            go_wp2_with fail
            refine (c4 _).mono ?_
            rintro e w1 ⟨rfl, rfl⟩
            go_wp2_with fail
            go_ret
            exact ⟨rfl, rfl⟩
        · rw [h5] at c3
          have hv : pluralF s = s := by rw [pluralF, if_neg (by rw [h1]; simp), if_neg h2, if_pos h5]
          rw [hv]
          clear hv h1 h2
          go_enter Tryd.func92, Tryd.ntmps92
          go_wp2_with fail
          refine (c1 _).mono ?_
          rintro e w1 ⟨rfl, rfl⟩
          go_wp2_with fail
          refine (c2 _).mono ?_
          rintro e w1 ⟨rfl, rfl⟩
          go_wp2_with fail
          refine (c3 _).mono ?_
          rintro e w1 ⟨rfl, rfl⟩
          go_wp2_with fail
          go_ret
          exact ⟨rfl, rfl⟩
  · rw [h1] at c1
    have hle := suf_le h1
    have h4 : 4 ≤ s.size := hle
    have hsl := slice_str_to Tryd.underlying9 s .i64 ((s.size : Int) - 2) (s.size - 2) (by omega) (by omega)
    have hv : pluralF s = less s 2 := by rw [pluralF, if_pos h1]
    rw [hv]
    clear hv h1
    go_enter Tryd.func92, Tryd.ntmps92
    go_wp2_with fail
    refine (c1 _).mono ?_
    rintro e w1 ⟨rfl, rfl⟩
    go_wp2_with fail
    go_ret
    exact ⟨rfl, rfl⟩
end Stem
end Go.Proofs.YtfohollhdaedlaaDoor
