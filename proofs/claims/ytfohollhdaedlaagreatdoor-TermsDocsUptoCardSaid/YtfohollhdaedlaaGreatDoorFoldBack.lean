/- Plain Lean: a text with small letters stays so (P4.4). -/
import Derived.Test.YtfohollhdaedlaaGreatDoorFoldText
import Derived.Test.YtfohollhdaedlaaGreatDoorUtfR
set_option linter.unusedVariables false
set_option linter.unusedSimpArgs false
namespace Go.Proofs.YtfohollhdaedlaaGreatDoor
open Utf
namespace Fold
/-- The sign whose bytes a text is. -/
theorem nx_enc (r : Int) (hs : sgn r = true) : nx (strOfNums (enc r)) 0 = (r, ((enc r).length : Int)) := by
  have hs' := (sgn_iff r).1 hs
  have hb := enc_byt r
  by_cases h1 : r ≤ 127
  · have he := enc1 hs h1
    rw [he] at hb ⊢
    have b0 := byt_str_ hb (i := 0) rfl
    rw [← ref_nx _ (by rw [strOfNums_size]; simp), refN_hit (by rw [strOfNums_size]; simp) ((ok1 _).2 (by rw [b0]; exact h1))]
    simp only [rv, b0]; rfl
  · by_cases h2 : r ≤ 2047
    · have he := enc2 hs h1 h2
      rw [he] at hb ⊢
      have b0 := byt_str_ hb (i := 0) rfl
      have b1 := byt_str_ hb (i := 1) rfl
      have hr : rv (strOfNums [192 + r / 64, 128 + r % 64]) 2 = r := by simp only [rv, b0, b1]; omega
      rw [← ref_nx _ (by rw [strOfNums_size]; simp), refN_step (by rw [strOfNums_size]; simp) (fun e => by have := (ok1 _).1 e; rw [b0] at this; omega),
        refN_hit (by rw [strOfNums_size]; simp) ((ok2 _).2 ⟨by rw [b0]; omega, by rw [b1]; omega, by rw [hr]; omega⟩)]
      rw [hr]; rfl
    · by_cases h3 : r ≤ 65535
      · have he := enc3 hs h1 h2 h3
        rw [he] at hb ⊢
        have b0 := byt_str_ hb (i := 0) rfl
        have b1 := byt_str_ hb (i := 1) rfl
        have b2 := byt_str_ hb (i := 2) rfl
        have hr : rv (strOfNums [224 + r / 4096, 128 + r / 64 % 64, 128 + r % 64]) 3 = r := by simp only [rv, b0, b1, b2]; omega
        rw [← ref_nx _ (by rw [strOfNums_size]; simp), refN_step (by rw [strOfNums_size]; simp) (fun e => by have := (ok1 _).1 e; rw [b0] at this; omega),
          refN_step (by rw [strOfNums_size]; simp) (fun e => by have := (ok2 _).1 e; rw [b0] at this; omega),
          refN_hit (by rw [strOfNums_size]; simp) ((ok3 _).2 ⟨by rw [b0]; omega, by rw [b1]; omega, by rw [b2]; omega, by rw [hr]; omega, by rw [hr]; exact hs⟩)]
        rw [hr]; rfl
      · have he := enc4 hs h1 h2 h3
        rw [he] at hb ⊢
        have b0 := byt_str_ hb (i := 0) rfl
        have b1 := byt_str_ hb (i := 1) rfl
        have b2 := byt_str_ hb (i := 2) rfl
        have b3 := byt_str_ hb (i := 3) rfl
        have hr : rv (strOfNums [240 + r / 262144, 128 + r / 4096 % 64, 128 + r / 64 % 64, 128 + r % 64]) 4 = r := by simp only [rv, b0, b1, b2, b3]; omega
        rw [← ref_nx _ (by rw [strOfNums_size]; simp), refN_step (by rw [strOfNums_size]; simp) (fun e => by have := (ok1 _).1 e; rw [b0] at this; omega),
          refN_step (by rw [strOfNums_size]; simp) (fun e => by have := (ok2 _).1 e; rw [b0] at this; omega),
          refN_step (by rw [strOfNums_size]; simp) (fun e => by have := (ok3 _).1 e; rw [b0] at this; omega),
          refN_hit (by rw [strOfNums_size]; simp) ((ok4 _).2 ⟨by rw [b0]; omega, by rw [b1]; omega, by rw [b2]; omega, by rw [b3]; omega, by rw [hr]; omega, by rw [hr]; exact hs⟩)]
        rw [hr]; rfl
theorem enc_pos (r : Int) (hs : sgn r = true) : 1 ≤ (enc r).length := by
  by_cases h1 : r ≤ 127
  · rw [enc1 hs h1]; simp
  · by_cases h2 : r ≤ 2047
    · rw [enc2 hs h1 h2]; simp
    · by_cases h3 : r ≤ 65535
      · rw [enc3 hs h1 h2 h3]; simp
      · rw [enc4 hs h1 h2 h3]; simp
theorem nx_put (bs : List Int) (hb : Byt bs) (r : Int) (hs : sgn r = true) : nx (strOfNums (bs ++ enc r)) bs.length = (r, ((enc r).length : Int)) := by
  have hB : Byt (bs ++ enc r) := fun b hm => by
    rcases List.mem_append.1 hm with h | h
    · exact hb b h
    · exact enc_byt r b h
  have hp := enc_pos r hs
  have hlt : bs.length < (strOfNums (bs ++ enc r)).size := by rw [strOfNums_size, List.length_append]; omega
  rw [← nx_from' _ _ hlt, ← nx_enc r hs]
  congr 1
  apply bytesOf_inj
  rw [bytesOf_extract, bytesOf_strOfNums hB, bytesOf_strOfNums (enc_byt r), strOfNums_size, List.drop_left, List.length_append]
  exact List.take_of_length_le (by omega)


theorem sgn_nx {s : ByteArray} {a : Nat} (h : ¬ (nx s a).1 < 0) : sgn (nx s a).1 = true := by
  rcases nx_forms s a with e | ⟨_, _, _, _, h5, e⟩
  · rw [e] at h; exact absurd (by decide) h
  · rw [e]; exact h5
/-- A sign in the midst of a text. -/
theorem nx_mid (P R : List Int) (hP : Byt P) (hR : Byt R) (r : Int) (hs : sgn r = true) : nx (strOfNums (P ++ (enc r ++ R))) P.length = (r, ((enc r).length : Int)) := by
  have hp := enc_pos r hs
  have hB : Byt (P ++ (enc r ++ R)) := byt_append hP (byt_append (enc_byt r) hR)
  have hx : (strOfNums (P ++ (enc r ++ R))).extract 0 (P.length + (enc r).length) = strOfNums (P ++ enc r) := by
    apply bytesOf_inj
    rw [bytesOf_extract, bytesOf_strOfNums hB, bytesOf_strOfNums (byt_append hP (enc_byt r)), List.drop_zero, ← List.append_assoc, Nat.sub_zero]
    exact List.take_left' (by rw [List.length_append])
  have hsz : (strOfNums (P ++ (enc r ++ R))).size = P.length + ((enc r).length + R.length) := by rw [strOfNums_size, List.length_append, List.length_append]
  have h1 := nx_put P hP r hs
  rw [← h1, ← hx]
  apply nx_ext _ _ _ (by omega) (by omega)
  rw [hx, h1]
  exact ((sgn_iff r).1 hs).1
theorem again (s : ByteArray) : ∀ n a, s.size - a = n → validF s a = true → ∀ P : List Int, Byt P →
    textF (strOfNums (P ++ textF s a)) P.length = textF s a ∧ validF (strOfNums (P ++ textF s a)) P.length = true ∧ countF (strOfNums (P ++ textF s a)) P.length = countF s a := by
  intro n
  induction n using Nat.strongRecOn with
  | _ n ih =>
    intro a hn hv P hP
    by_cases h : a < s.size
    · have hra := adv_range s a h
      by_cases hneg : (nx s a).1 < 0
      · rw [validF_bad h hneg] at hv; cases hv
      · rw [validF_go h hneg] at hv
        have hs := sgn_low _ (sgn_nx hneg)
        have hR := textF_byt s _ (adv s a) rfl
        have hI := ih _ (by omega) (adv s a) rfl hv (P ++ enc (low (nx s a).1)) (byt_append hP (enc_byt _))
        have hT : textF s a = enc (low (nx s a).1) ++ textF s (adv s a) := by rw [textF_go h, piece_good hneg]
        have hm := nx_mid P _ hP hR _ hs
        have hp := enc_pos _ hs
        rw [List.append_assoc, List.length_append] at hI
        rw [hT]
        have hlt : P.length < (strOfNums (P ++ (enc (low (nx s a).1) ++ textF s (adv s a)))).size := by rw [strOfNums_size, List.length_append, List.length_append]; omega
        have had : adv (strOfNums (P ++ (enc (low (nx s a).1) ++ textF s (adv s a)))) P.length = P.length + (enc (low (nx s a).1)).length := by show _ + (nx _ P.length).2.toNat = _; rw [hm]; simp
        have hn0 : ¬ (nx (strOfNums (P ++ (enc (low (nx s a).1) ++ textF s (adv s a)))) P.length).1 < 0 := by rw [hm]; have := ((sgn_iff _).1 hs).1; simp only; omega
        refine ⟨?_, ?_, ?_⟩
        · rw [textF_go hlt, piece_good hn0, had, hI.1, hm, low_low]
        · rw [validF_go hlt hn0, had, hI.2.1]
        · rw [countF_go hlt, countF_go h, had, hI.2.2]
    · rw [textF_end h, List.append_nil]
      have hx : ¬ P.length < (strOfNums P).size := by rw [strOfNums_size]; omega
      exact ⟨textF_end hx, validF_end hx, by rw [countF_end hx, countF_end h]⟩
/-- P4.4. -/
theorem again0 (s : ByteArray) (hv : validF s 0 = true) :
    textF (strOfNums (textF s 0)) 0 = textF s 0 ∧ validF (strOfNums (textF s 0)) 0 = true ∧ countF (strOfNums (textF s 0)) 0 = countF s 0 :=
  again s _ 0 rfl hv [] (fun b hb => by cases hb)
theorem textF_length (s : ByteArray) : ∀ n a, s.size - a = n → (textF s a).length ≤ 4 * (s.size - a) := by
  intro n
  induction n using Nat.strongRecOn with
  | _ n ih =>
    intro a hn
    by_cases h : a < s.size
    · have := adv_range s a h
      have h1 := ih _ (by omega) (adv s a) rfl
      have h2 := piece_length s a
      rw [textF_go h, List.length_append]
      omega
    · rw [textF_end h]; simp
end Fold
end Go.Proofs.YtfohollhdaedlaaGreatDoor
