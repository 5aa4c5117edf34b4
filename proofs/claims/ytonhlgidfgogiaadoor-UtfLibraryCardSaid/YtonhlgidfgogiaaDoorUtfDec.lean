/- Plain Lean: the program's way to find a sign is that of Go's library (the model's own decoder). -/
import Derived.Test.YtonhlgidfgogiaaDoorUtfMath
import Derived.Lib.TrimUEq
import Derived.Lib.ValidU
import Derived.Lib.RuneCount
set_option linter.unusedVariables false
set_option linter.unusedSimpArgs false
namespace Go.Proofs.YtonhlgidfgogiaaDoor
namespace Utf
theorem at_byt (s : ByteArray) (j : Nat) : ((s.get! j).toNat : Int) = byt s j := by
  unfold byt
  split
  · rename_i h
    rw [← Lib.getD_get!']
    have := byt_data s j h
    rw [this, byt, dif_pos h]
  · rename_i h
    rw [← Lib.getD_get!', List.getD_eq_getElem?_getD, List.getElem?_eq_none (by rw [Array.length_toList]; exact Nat.le_of_not_lt h)]
    rfl
theorem conts_one (s : ByteArray) (a : Nat) : conts s a 1 = cont (byt s (a + 1)) := by simp [conts, List.range_succ]
theorem conts_two (s : ByteArray) (a : Nat) : conts s a 2 = (cont (byt s (a + 1)) && cont (byt s (a + 2))) := by simp [conts, List.range_succ]
theorem conts_three (s : ByteArray) (a : Nat) : conts s a 3 = (cont (byt s (a + 1)) && (cont (byt s (a + 2)) && cont (byt s (a + 3)))) := by simp [conts, List.range_succ]
theorem cont_nat (c : Int) (n : Nat) (h : (n : Int) = c) : cont c = decide (n / 64 = 2) := by
  unfold cont
  rw [Bool.eq_iff_iff, decide_eq_true_iff, decide_eq_true_iff]
  omega
set_option maxHeartbeats 4000000 in
/-- A sign, or none: as the model's own decoder. -/
theorem decode_nx (s : ByteArray) (a : Nat) (h : a < s.size) :
    (0 ≤ (nx s a).1 ∧ (Utf8.decode s a).2 = (nx s a).2.toNat ∧ ¬ ((Utf8.decode s a).1 = 65533 ∧ (Utf8.decode s a).2 = 1)) ∨ (nx s a = (-1, 1) ∧ Utf8.decode s a = (65533, 1)) := by
  rw [Lib.decode_at]
  have e0 := at_byt s a
  have e1 := at_byt s (a + 1)
  have e2 := at_byt s (a + 2)
  have e3 := at_byt s (a + 3)
  have r0 := byt_range s a
  generalize (s.get! a).toNat = b0 at *
  generalize (s.get! (a + 1)).toNat = b1 at *
  generalize (s.get! (a + 2)).toNat = b2 at *
  generalize (s.get! (a + 3)).toNat = b3 at *
  have hn : ((s.size - a : Nat) : Int) = (s.size : Int) - a := by omega
  have k1 := cont_nat _ _ e1
  have k2 := cont_nat _ _ e2
  have k3 := cont_nat _ _ e3
  have hf : fsize (byt s a) = if b0 < 128 then 1 else if b0 < 192 then 0 else if b0 < 224 then 2 else if b0 < 240 then 3 else if b0 < 248 then 4 else 0 := by
    unfold fsize
    repeat' split
    all_goals omega
  have hbits : fbits (byt s a) = if b0 < 128 then (b0 : Int) else if b0 < 192 then 0 else if b0 < 224 then (b0 % 32 : Int) else if b0 < 240 then (b0 % 16 : Int) else if b0 < 248 then (b0 % 8 : Int) else 0 := by
    unfold fbits
    repeat' split
    all_goals omega
  have hleast : fleast (byt s a) = if b0 < 128 then 0 else if b0 < 192 then 0 else if b0 < 224 then 0x80 else if b0 < 240 then 0x800 else if b0 < 248 then 0x10000 else 0 := by
    unfold fleast
    repeat' split
    all_goals omega
  by_cases c1 : b0 < 128
  · rw [if_pos c1] at hf hbits hleast
    have hg := nx_good (s := s) (a := a) (by rw [hf]; omega) (by rw [hf]; rfl) (by
      rw [hf, hleast]
      show ¬ (fbits (byt s a) < 0 ∨ sgn (fbits (byt s a)) = false)
      rw [hbits]; simp only [sgn]; simp; omega)
    rw [hf] at hg
    left
    rw [hg, Lib.decodeN_ascii _ _ _ _ _ c1]
    refine ⟨by show (0 : Int) ≤ fbits (byt s a); rw [hbits]; omega, rfl, by simp; omega⟩
  · rw [if_neg c1] at hf hbits hleast
    by_cases c2 : b0 < 192
    · rw [if_pos c2] at hf
      right
      exact ⟨nx_short (.inl hf), by unfold Lib.decodeN; repeat' split
                                    all_goals first | rfl | (exfalso; omega)⟩
    · rw [if_neg c2] at hf hbits hleast
      by_cases c3 : b0 < 224
      · rw [if_pos c3] at hf hbits hleast
        by_cases hs : (s.size : Int) - a < 2
        · right
          exact ⟨nx_short (.inr (by rw [hf]; exact hs)), by unfold Lib.decodeN; repeat' split
                                                            all_goals first | rfl | (exfalso; omega)⟩
        · have hc := conts_one s a
          rw [k1] at hc
          have hacc : acc s a 1 = (b0 % 32 : Int) * 64 + b1 % 64 := by simp only [acc, hbits]; rw [show a + 1 + 0 = a + 1 from rfl, ← e1]
          by_cases d1 : b1 / 64 = 2
          · rw [decide_eq_true d1] at hc
            by_cases dl : b0 % 32 * 64 + b1 % 64 ≥ 128
            · have hg := nx_good (s := s) (a := a) (by rw [hf]; omega) (by rw [hf]; exact hc) (by rw [hf, hleast]; show ¬ (acc s a 1 < 128 ∨ sgn (acc s a 1) = false); rw [hacc]; simp only [sgn]; simp; omega)
              rw [hf] at hg
              left
              have hd : Lib.decodeN (s.size - a) b0 b1 b2 b3 = (b0 % 32 * 64 + b1 % 64, 2) := by
                unfold Lib.decodeN
                rw [if_neg c1, if_pos (by omega), if_pos dl]
              rw [hg, hd]
              exact ⟨by show (0 : Int) ≤ acc s a 1; rw [hacc]; omega, rfl, by simp⟩
            · right
              refine ⟨nx_bad (by rw [hf]; omega) (by rw [hf]; exact hc) (by rw [hf, hleast]; left; show acc s a 1 < 128; rw [hacc]; omega), ?_⟩
              unfold Lib.decodeN
              rw [if_neg c1, if_pos (by omega), if_neg dl]
          · rw [decide_eq_false d1] at hc
            right
            refine ⟨nx_cont (k := 0) (by rw [hf]; omega) (by rw [hf]; decide) (by show cont (byt s (a + 1)) = false; rw [k1, decide_eq_false d1]), ?_⟩
            unfold Lib.decodeN; repeat' split
            all_goals first | rfl | (exfalso; omega)
      · rw [if_neg c3] at hf hbits hleast
        by_cases c4 : b0 < 240
        · rw [if_pos c4] at hf hbits hleast
          by_cases hs : (s.size : Int) - a < 3
          · right
            exact ⟨nx_short (.inr (by rw [hf]; exact hs)), by unfold Lib.decodeN; repeat' split
                                                              all_goals first | rfl | (exfalso; omega)⟩
          · have hacc : acc s a 2 = ((b0 % 16 : Int) * 64 + b1 % 64) * 64 + b2 % 64 := by simp only [acc, hbits]; rw [show a + 1 + 0 = a + 1 from rfl, show a + 1 + 1 = a + 2 from rfl, ← e1, ← e2]
            by_cases d1 : b1 / 64 = 2
            · by_cases d2 : b2 / 64 = 2
              · have hc := conts_two s a
                rw [k1, k2, decide_eq_true d1, decide_eq_true d2] at hc
                by_cases dl : b0 % 16 * 4096 + b1 % 64 * 64 + b2 % 64 ≥ 2048 ∧ (b0 % 16 * 4096 + b1 % 64 * 64 + b2 % 64 < 55296 ∨ (57344 ≤ b0 % 16 * 4096 + b1 % 64 * 64 + b2 % 64 ∧ b0 % 16 * 4096 + b1 % 64 * 64 + b2 % 64 ≤ 1114111))
                · have hg := nx_good (s := s) (a := a) (by rw [hf]; omega) (by rw [hf]; exact hc) (by rw [hf, hleast]; show ¬ (acc s a 2 < 2048 ∨ sgn (acc s a 2) = false); rw [hacc]; simp only [sgn]; simp; omega)
                  rw [hf] at hg
                  left
                  have hd : Lib.decodeN (s.size - a) b0 b1 b2 b3 = (b0 % 16 * 4096 + b1 % 64 * 64 + b2 % 64, 3) := by
                    unfold Lib.decodeN
                    rw [if_neg c1, if_neg (by omega), if_pos (by omega), if_pos dl]
                  rw [hg, hd]
                  exact ⟨by show (0 : Int) ≤ acc s a 2; rw [hacc]; omega, rfl, by simp⟩
                · right
                  refine ⟨nx_bad (by rw [hf]; omega) (by rw [hf]; exact hc) (by rw [hf, hleast]; show acc s a 2 < 2048 ∨ sgn (acc s a 2) = false; rw [hacc]; simp only [sgn]; simp; omega), ?_⟩
                  unfold Lib.decodeN
                  rw [if_neg c1, if_neg (by omega), if_pos (by omega), if_neg dl]
              · right
                refine ⟨nx_cont (k := 1) (by rw [hf]; omega) (by rw [hf]; decide) (by show cont (byt s (a + 2)) = false; rw [k2, decide_eq_false d2]), ?_⟩
                unfold Lib.decodeN; repeat' split
                all_goals first | rfl | (exfalso; omega)
            · right
              refine ⟨nx_cont (k := 0) (by rw [hf]; omega) (by rw [hf]; decide) (by show cont (byt s (a + 1)) = false; rw [k1, decide_eq_false d1]), ?_⟩
              unfold Lib.decodeN; repeat' split
              all_goals first | rfl | (exfalso; omega)
        · rw [if_neg c4] at hf hbits hleast
          by_cases c5 : b0 < 248
          · rw [if_pos c5] at hf hbits hleast
            by_cases hs : (s.size : Int) - a < 4
            · right
              exact ⟨nx_short (.inr (by rw [hf]; exact hs)), by unfold Lib.decodeN; repeat' split
                                                                all_goals first | rfl | (exfalso; omega)⟩
            · have hacc : acc s a 3 = (((b0 % 8 : Int) * 64 + b1 % 64) * 64 + b2 % 64) * 64 + b3 % 64 := by simp only [acc, hbits]; rw [show a + 1 + 0 = a + 1 from rfl, show a + 1 + 1 = a + 2 from rfl, show a + 1 + 2 = a + 3 from rfl, ← e1, ← e2, ← e3]
              by_cases d1 : b1 / 64 = 2
              · by_cases d2 : b2 / 64 = 2
                · by_cases d3 : b3 / 64 = 2
                  · have hc := conts_three s a
                    rw [k1, k2, k3, decide_eq_true d1, decide_eq_true d2, decide_eq_true d3] at hc
                    by_cases dl : b0 % 8 * 262144 + b1 % 64 * 4096 + b2 % 64 * 64 + b3 % 64 ≥ 65536 ∧ (b0 % 8 * 262144 + b1 % 64 * 4096 + b2 % 64 * 64 + b3 % 64 < 55296 ∨ (57344 ≤ b0 % 8 * 262144 + b1 % 64 * 4096 + b2 % 64 * 64 + b3 % 64 ∧ b0 % 8 * 262144 + b1 % 64 * 4096 + b2 % 64 * 64 + b3 % 64 ≤ 1114111))
                    · have hg := nx_good (s := s) (a := a) (by rw [hf]; omega) (by rw [hf]; exact hc) (by rw [hf, hleast]; show ¬ (acc s a 3 < 65536 ∨ sgn (acc s a 3) = false); rw [hacc]; simp only [sgn]; simp; omega)
                      rw [hf] at hg
                      left
                      have hd : Lib.decodeN (s.size - a) b0 b1 b2 b3 = (b0 % 8 * 262144 + b1 % 64 * 4096 + b2 % 64 * 64 + b3 % 64, 4) := by
                        unfold Lib.decodeN
                        rw [if_neg c1, if_neg (by omega), if_neg (by omega), if_pos (by omega), if_pos dl]
                      rw [hg, hd]
                      exact ⟨by show (0 : Int) ≤ acc s a 3; rw [hacc]; omega, rfl, by simp⟩
                    · right
                      refine ⟨nx_bad (by rw [hf]; omega) (by rw [hf]; exact hc) (by rw [hf, hleast]; show acc s a 3 < 65536 ∨ sgn (acc s a 3) = false; rw [hacc]; simp only [sgn]; simp; omega), ?_⟩
                      unfold Lib.decodeN
                      rw [if_neg c1, if_neg (by omega), if_neg (by omega), if_pos (by omega), if_neg dl]
                  · right
                    refine ⟨nx_cont (k := 2) (by rw [hf]; omega) (by rw [hf]; decide) (by show cont (byt s (a + 3)) = false; rw [k3, decide_eq_false d3]), ?_⟩
                    unfold Lib.decodeN; repeat' split
                    all_goals first | rfl | (exfalso; omega)
                · right
                  refine ⟨nx_cont (k := 1) (by rw [hf]; omega) (by rw [hf]; decide) (by show cont (byt s (a + 2)) = false; rw [k2, decide_eq_false d2]), ?_⟩
                  unfold Lib.decodeN; repeat' split
                  all_goals first | rfl | (exfalso; omega)
              · right
                refine ⟨nx_cont (k := 0) (by rw [hf]; omega) (by rw [hf]; decide) (by show cont (byt s (a + 1)) = false; rw [k1, decide_eq_false d1]), ?_⟩
                unfold Lib.decodeN; repeat' split
                all_goals first | rfl | (exfalso; omega)
          · rw [if_neg c5] at hf
            right
            exact ⟨nx_short (.inl hf), by unfold Lib.decodeN; repeat' split
                                          all_goals first | rfl | (exfalso; omega)⟩
theorem decode_width (s : ByteArray) (a : Nat) (h : a < s.size) : a + (Utf8.decode s a).2 = adv s a := by
  unfold adv
  rcases decode_nx s a h with ⟨_, h2, _⟩ | ⟨h1, h2⟩
  · rw [h2]
  · rw [h1, h2]; rfl
/-- P3.3: as many signs as the library says. -/
theorem runeCount_eq (s : ByteArray) : ∀ fuel a, s.size - a ≤ fuel → Lib.runeCountFrom s fuel a = countF s a
  | 0, a, h => by rw [countF_end (by omega)]; rfl
  | fuel + 1, a, h => by
    by_cases hlt : a < s.size
    · have hr := adv_range s a hlt
      rw [Lib.runeCountFrom, if_pos hlt, decode_width s a hlt, countF_go hlt, runeCount_eq s fuel (adv s a) (by omega)]
    · rw [Lib.runeCountFrom, if_neg hlt, countF_end hlt]
theorem runeCount_all (s : ByteArray) : Lib.runeCount s = countF s 0 := runeCount_eq s _ 0 (by omega)
/-- P3.1: a text is UTF-8 just if the library says so. -/
theorem valid_eq (s : ByteArray) : ∀ fuel a, s.size - a ≤ fuel → Lib.validGoD fuel (s.data.toList.drop a) = validF s a
  | 0, a, h => by rw [validF_end (by omega)]; rfl
  | fuel + 1, a, h => by
    have hsz : s.data.toList.length = s.size := Array.length_toList
    by_cases hlt : a < s.size
    · have hr := adv_range s a hlt
      have hne : s.data.toList.drop a ≠ [] := fun h0 => by
        have := congrArg List.length h0
        rw [List.length_drop, hsz, List.length_nil] at this; omega
      rw [Lib.validGoD, if_neg hne, Lib.decodeL_drop]
      rcases decode_nx s a hlt with ⟨h1, h2, h3⟩ | ⟨h1, h2⟩
      · rw [if_neg h3, List.drop_drop, decode_width s a hlt, validF_go hlt (by omega)]
        exact valid_eq s fuel (adv s a) (by omega)
      · rw [if_pos (by rw [h2]; exact ⟨rfl, rfl⟩), validF_bad hlt (by rw [h1]; decide)]
    · have he : s.data.toList.drop a = [] := List.drop_eq_nil_of_le (by omega)
      rw [Lib.validGoD, if_pos he, validF_end hlt]
theorem valid_all (s : ByteArray) : Lib.validD s.data.toList = validF s 0 := by
  have h := valid_eq s s.data.toList.length 0 (by have : s.data.toList.length = s.size := Array.length_toList; omega)
  rwa [List.drop_zero] at h
end Utf
end Go.Proofs.YtonhlgidfgogiaaDoor
