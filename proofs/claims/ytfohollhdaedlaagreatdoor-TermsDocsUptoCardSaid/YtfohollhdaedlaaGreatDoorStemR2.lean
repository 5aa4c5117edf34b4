/- The walks: the reference of layer 16, its second and third steps, Stop and Stem. Written by stemr2.py. -/
import Derived.Test.YtfohollhdaedlaaGreatDoorStemR
import Derived.Test.YtfohollhdaedlaaGreatDoorStem9
import Derived.Deep.QuietTactic
import Derived.BigQuiet
set_option linter.unusedVariables false
set_option linter.unusedSimpArgs false
set_option maxRecDepth 100000
namespace Go.Proofs.YtfohollhdaedlaaGreatDoor
open Go.RowKit
namespace Stem
/-- The end of the second step: what is left, without the last of two like consonants. -/
theorem twinF_val (q : ByteArray) (n : Nat) (hn : q.size = n + 2) : twinF q = if (decide (byt q (n + 1) = byt q n) && !(vow (byt q (n + 1)) || lsz (byt q (n + 1)))) = true then less q 1 else q := by
  have hT : isTwin q = (decide (byt q (n + 1) = byt q n) && !(vow (byt q (n + 1)) || lsz (byt q (n + 1)))) := by
    simp only [isTwin, hn, show n + 2 - 1 = n + 1 by omega, show n + 2 - 2 = n by omega, Bool.not_or, Bool.and_assoc]; simp
  rw [twinF, hT]
set_option maxHeartbeats 8000000 in
theorem rsecond_calls (s : ByteArray) (hs : s.size ≤ 140737488351232) (w : World) :
    Calls Tryz.prog 72 #[.string s] w fun e w' => e = .returned (.string (pastF s)) ∧ Below w.heap.size w w' := by
  have c1 := fun W => rends_calls s tIng hs (by decide) W
  have c2 := fun W => rends_calls s tEd hs (by decide) W
  have hcase : (∃ q : ByteArray, ((gone s tIng = true ∧ q = less s 3) ∨ (gone s tIng = false ∧ gone s tEd = true ∧ q = less s 2)) ∧ pastF s = twinF q ∧ 3 ≤ q.size ∧ q.size ≤ s.size) ∨ (gone s tIng = false ∧ gone s tEd = false ∧ pastF s = s) := by
    cases h1 : gone s tIng
    · cases h2 : gone s tEd
      · exact .inr ⟨rfl, rfl, by rw [pastF, h1, h2]; rfl⟩
      · have := gone_size h2
        exact .inl ⟨less s 2, .inr ⟨rfl, rfl, rfl⟩, by rw [pastF, h1, h2]; rfl, this, by rw [less_size]; omega⟩
    · have := gone_size h1
      exact .inl ⟨less s 3, .inl ⟨rfl, rfl⟩, by rw [pastF, h1]; rfl, this, by rw [less_size]; omega⟩
  have hg1 : suf s tIng = true → (vowelsF (less s 3) && decide (3 ≤ (less s 3).size)) = gone s tIng := fun h => by
    rw [gone_k s tIng 3 rfl, h, Bool.true_and, Bool.and_comm]
  have hg2 : suf s tEd = true → (vowelsF (less s 2) && decide (3 ≤ (less s 2).size)) = gone s tEd := fun h => by
    rw [gone_k s tEd 2 rfl, h, Bool.true_and, Bool.and_comm]
  have hn1 : suf s tIng = false → gone s tIng = false := fun h => by rw [gone, h]; rfl
  have hn2 : suf s tEd = false → gone s tEd = false := fun h => by rw [gone, h]; rfl
  have c3 : suf s tIng = true → ∀ W, Calls Tryz.prog 95 #[.string s, .int .i64 3] W fun e w' => e = .returned (.tuple #[.string (less s 3), .bool (gone s tIng)]) ∧ w' = W := fun h W => by
    have := rbare_calls s 3 (suf_le h) hs W
    rwa [hg1 h] at this
  have c4 : suf s tEd = true → ∀ W, Calls Tryz.prog 95 #[.string s, .int .i64 2] W fun e w' => e = .returned (.tuple #[.string (less s 2), .bool (gone s tEd)]) ∧ w' = W := fun h W => by
    have := rbare_calls s 2 (suf_le h) hs W
    rwa [hg2 h] at this
  clear hg1 hg2
  rcases hcase with ⟨q, hq, hv, hq3, hqs⟩ | ⟨h1, h2, hv⟩
  · rw [hv]
    clear hv
    obtain ⟨n, hn⟩ : ∃ n, q.size = n + 2 := ⟨q.size - 2, by omega⟩
    rw [twinF_val q n hn]
    have r1 := byt_range q (n + 1)
    have hob := one_both _ r1.1 r1.2
    have c9 := fun W => rone_calls (byt q (n + 1)) { data := #[97, 101, 105, 111, 117, 121, 108, 115, 122] } (by decide) W
    rw [hob] at c9
    have c8 := fun W => rless_calls q 1 (by omega) (by omega) W
    have hix1 := idx_str (P := Tryz.prog) Tryz.underlying9 q .i64 (n + 1) ((n : Int) + 1) (by omega) (by omega)
    have hix2 := idx_str (P := Tryz.prog) Tryz.underlying9 q .i64 n (n : Int) rfl (by omega)
    have hw1 : IntKind.i64.wrap ((n : Int) + 2 - 1) = ((n : Int) + 1) := by rw [IntKind.wrap_i64]; omega
    have hw2 : IntKind.i64.wrap ((n : Int) + 2 - 2) = (n : Int) := by rw [IntKind.wrap_i64]; omega
    have hw3 : IntKind.i64.wrap (n : Int) = (n : Int) := by rw [IntKind.wrap_i64]; omega
    clear hob
    generalize byt q (n + 1) = a at *
    generalize byt q n = b at *
    rcases hq with ⟨h1, hq⟩ | ⟨h1, h2, hq⟩
    · cases e1 : suf s tIng
      · rw [hn1 e1] at h1; cases h1
      · have d3 := c3 e1
        rw [e1] at c1
        rw [h1, ← hq] at d3
        clear hn1 hn2 c3 c4 hq
        by_cases hab : a = b
        · subst hab
          cases hz : (vow a || lsz a)
          · rw [hz] at c9
            have hval : (decide (a = a) && !false) = true := by simp
            rw [if_pos hval]
            clear hval
            go_enter Tryz.func72, Tryz.ntmps72
            go_wp2_with fail
            refine (c1 _).mono ?_
            rintro e w1 ⟨rfl, rfl⟩
            go_wp2_with fail
            refine (d3 _).mono ?_
            rintro e w1 ⟨rfl, rfl⟩
            go_wp2_with fail
            go_quiet (first | (go_at_call 96; exact Calls.quiet_of_same (c9 _)))
            go_wp2_with fail
            refine (c8 _).mono ?_
            rintro e w9 ⟨rfl, rfl⟩
            go_wp2_with fail
            go_ret
            exact ⟨rfl, below_drewN (Below.refl _ _) _⟩
          · rw [hz] at c9
            have hval : (decide (a = a) && !true) = false := by simp
            rw [hval, if_neg (by simp)]
            clear hval
            go_enter Tryz.func72, Tryz.ntmps72
            go_wp2_with fail
            refine (c1 _).mono ?_
            rintro e w1 ⟨rfl, rfl⟩
            go_wp2_with fail
            refine (d3 _).mono ?_
            rintro e w1 ⟨rfl, rfl⟩
            go_wp2_with fail
            go_quiet (first | (go_at_call 96; exact Calls.quiet_of_same (c9 _)))
            go_wp2_with fail
            go_ret
            exact ⟨rfl, below_drewN (Below.refl _ _) _⟩
        · have hbn : (a == b) = false := by simp [hab]
          have hval : (decide (a = b) && !(vow a || lsz a)) = false := by simp [hab]
          rw [hval, if_neg (by simp)]
          clear hval
          go_enter Tryz.func72, Tryz.ntmps72
          go_wp2_with fail
          refine (c1 _).mono ?_
          rintro e w1 ⟨rfl, rfl⟩
          go_wp2_with fail
          refine (d3 _).mono ?_
          rintro e w1 ⟨rfl, rfl⟩
          go_wp2_with fail
          go_quiet (fail)
          go_wp2_with fail
          go_ret
          exact ⟨rfl, below_drewN (Below.refl _ _) _⟩
    · cases e2 : suf s tEd
      · rw [hn2 e2] at h2; cases h2
      · have d4 := c4 e2
        rw [e2] at c2
        rw [h2, ← hq] at d4
        cases e1 : suf s tIng
        · rw [e1] at c1
          clear hn1 hn2 c3 c4 hq
          by_cases hab : a = b
          · subst hab
            cases hz : (vow a || lsz a)
            · rw [hz] at c9
              have hval : (decide (a = a) && !false) = true := by simp
              rw [if_pos hval]
              clear hval
              go_enter Tryz.func72, Tryz.ntmps72
              go_wp2_with fail
              refine (c1 _).mono ?_
              rintro e w1 ⟨rfl, rfl⟩
              go_wp2_with fail
              refine (c2 _).mono ?_
              rintro e w1 ⟨rfl, rfl⟩
              go_wp2_with fail
              refine (d4 _).mono ?_
              rintro e w1 ⟨rfl, rfl⟩
              go_wp2_with fail
              go_quiet (first | (go_at_call 96; exact Calls.quiet_of_same (c9 _)))
              go_wp2_with fail
              refine (c8 _).mono ?_
              rintro e w9 ⟨rfl, rfl⟩
              go_wp2_with fail
              go_ret
              exact ⟨rfl, below_drewN (Below.refl _ _) _⟩
            · rw [hz] at c9
              have hval : (decide (a = a) && !true) = false := by simp
              rw [hval, if_neg (by simp)]
              clear hval
              go_enter Tryz.func72, Tryz.ntmps72
              go_wp2_with fail
              refine (c1 _).mono ?_
              rintro e w1 ⟨rfl, rfl⟩
              go_wp2_with fail
              refine (c2 _).mono ?_
              rintro e w1 ⟨rfl, rfl⟩
              go_wp2_with fail
              refine (d4 _).mono ?_
              rintro e w1 ⟨rfl, rfl⟩
              go_wp2_with fail
              go_quiet (first | (go_at_call 96; exact Calls.quiet_of_same (c9 _)))
              go_wp2_with fail
              go_ret
              exact ⟨rfl, below_drewN (Below.refl _ _) _⟩
          · have hbn : (a == b) = false := by simp [hab]
            have hval : (decide (a = b) && !(vow a || lsz a)) = false := by simp [hab]
            rw [hval, if_neg (by simp)]
            clear hval
            go_enter Tryz.func72, Tryz.ntmps72
            go_wp2_with fail
            refine (c1 _).mono ?_
            rintro e w1 ⟨rfl, rfl⟩
            go_wp2_with fail
            refine (c2 _).mono ?_
            rintro e w1 ⟨rfl, rfl⟩
            go_wp2_with fail
            refine (d4 _).mono ?_
            rintro e w1 ⟨rfl, rfl⟩
            go_wp2_with fail
            go_quiet (fail)
            go_wp2_with fail
            go_ret
            exact ⟨rfl, below_drewN (Below.refl _ _) _⟩
        · have d3 := c3 e1
          rw [e1] at c1
          rw [h1] at d3
          clear hn1 hn2 c3 c4 hq
          by_cases hab : a = b
          · subst hab
            cases hz : (vow a || lsz a)
            · rw [hz] at c9
              have hval : (decide (a = a) && !false) = true := by simp
              rw [if_pos hval]
              clear hval
              go_enter Tryz.func72, Tryz.ntmps72
              go_wp2_with fail
              refine (c1 _).mono ?_
              rintro e w1 ⟨rfl, rfl⟩
              go_wp2_with fail
              refine (d3 _).mono ?_
              rintro e w1 ⟨rfl, rfl⟩
              go_wp2_with fail
              refine (c2 _).mono ?_
              rintro e w1 ⟨rfl, rfl⟩
              go_wp2_with fail
              refine (d4 _).mono ?_
              rintro e w1 ⟨rfl, rfl⟩
              go_wp2_with fail
              go_quiet (first | (go_at_call 96; exact Calls.quiet_of_same (c9 _)))
              go_wp2_with fail
              refine (c8 _).mono ?_
              rintro e w9 ⟨rfl, rfl⟩
              go_wp2_with fail
              go_ret
              exact ⟨rfl, below_drewN (Below.refl _ _) _⟩
            · rw [hz] at c9
              have hval : (decide (a = a) && !true) = false := by simp
              rw [hval, if_neg (by simp)]
              clear hval
              go_enter Tryz.func72, Tryz.ntmps72
              go_wp2_with fail
              refine (c1 _).mono ?_
              rintro e w1 ⟨rfl, rfl⟩
              go_wp2_with fail
              refine (d3 _).mono ?_
              rintro e w1 ⟨rfl, rfl⟩
              go_wp2_with fail
              refine (c2 _).mono ?_
              rintro e w1 ⟨rfl, rfl⟩
              go_wp2_with fail
              refine (d4 _).mono ?_
              rintro e w1 ⟨rfl, rfl⟩
              go_wp2_with fail
              go_quiet (first | (go_at_call 96; exact Calls.quiet_of_same (c9 _)))
              go_wp2_with fail
              go_ret
              exact ⟨rfl, below_drewN (Below.refl _ _) _⟩
          · have hbn : (a == b) = false := by simp [hab]
            have hval : (decide (a = b) && !(vow a || lsz a)) = false := by simp [hab]
            rw [hval, if_neg (by simp)]
            clear hval
            go_enter Tryz.func72, Tryz.ntmps72
            go_wp2_with fail
            refine (c1 _).mono ?_
            rintro e w1 ⟨rfl, rfl⟩
            go_wp2_with fail
            refine (d3 _).mono ?_
            rintro e w1 ⟨rfl, rfl⟩
            go_wp2_with fail
            refine (c2 _).mono ?_
            rintro e w1 ⟨rfl, rfl⟩
            go_wp2_with fail
            refine (d4 _).mono ?_
            rintro e w1 ⟨rfl, rfl⟩
            go_wp2_with fail
            go_quiet (fail)
            go_wp2_with fail
            go_ret
            exact ⟨rfl, below_drewN (Below.refl _ _) _⟩
  · rw [hv]
    clear hv
    cases e1 : suf s tIng
    · rw [e1] at c1
      cases e2 : suf s tEd
      · rw [e2] at c2
        clear hn1 hn2 c3 c4
        go_enter Tryz.func72, Tryz.ntmps72
        go_wp2_with fail
        refine (c1 _).mono ?_
        rintro e w1 ⟨rfl, rfl⟩
        go_wp2_with fail
        refine (c2 _).mono ?_
        rintro e w1 ⟨rfl, rfl⟩
        go_wp2_with fail
        go_ret
        exact ⟨rfl, Below.refl _ _⟩
      · have d4 := c4 e2
        rw [e2] at c2
        rw [h2] at d4
        clear hn1 hn2 c3 c4
        go_enter Tryz.func72, Tryz.ntmps72
        go_wp2_with fail
        refine (c1 _).mono ?_
        rintro e w1 ⟨rfl, rfl⟩
        go_wp2_with fail
        refine (c2 _).mono ?_
        rintro e w1 ⟨rfl, rfl⟩
        go_wp2_with fail
        refine (d4 _).mono ?_
        rintro e w1 ⟨rfl, rfl⟩
        go_wp2_with fail
        go_ret
        exact ⟨rfl, Below.refl _ _⟩
    · have d3 := c3 e1
      rw [e1] at c1
      rw [h1] at d3
      cases e2 : suf s tEd
      · rw [e2] at c2
        clear hn1 hn2 c3 c4
        go_enter Tryz.func72, Tryz.ntmps72
        go_wp2_with fail
        refine (c1 _).mono ?_
        rintro e w1 ⟨rfl, rfl⟩
        go_wp2_with fail
        refine (d3 _).mono ?_
        rintro e w1 ⟨rfl, rfl⟩
        go_wp2_with fail
        refine (c2 _).mono ?_
        rintro e w1 ⟨rfl, rfl⟩
        go_wp2_with fail
        go_ret
        exact ⟨rfl, Below.refl _ _⟩
      · have d4 := c4 e2
        rw [e2] at c2
        rw [h2] at d4
        clear hn1 hn2 c3 c4
        go_enter Tryz.func72, Tryz.ntmps72
        go_wp2_with fail
        refine (c1 _).mono ?_
        rintro e w1 ⟨rfl, rfl⟩
        go_wp2_with fail
        refine (d3 _).mono ?_
        rintro e w1 ⟨rfl, rfl⟩
        go_wp2_with fail
        refine (c2 _).mono ?_
        rintro e w1 ⟨rfl, rfl⟩
        go_wp2_with fail
        refine (d4 _).mono ?_
        rintro e w1 ⟨rfl, rfl⟩
        go_wp2_with fail
        go_ret
        exact ⟨rfl, Below.refl _ _⟩
end Stem
end Go.Proofs.YtfohollhdaedlaaGreatDoor
