/- Plain Lean: a text with small letters; texts that are signs' bytes. -/
import Derived.Test.YtfohollhdaedlaaGreatDoorFoldMath
import Derived.Test.YtfohollhdaedlaaGreatDoorUtfEnc
set_option linter.unusedVariables false
set_option linter.unusedSimpArgs false
namespace Go.Proofs.YtfohollhdaedlaaGreatDoor
open Utf
namespace Utf
theorem byt_str_ {l : List Int} (hl : Byt l) {i : Nat} {x : Int} (h : l[i]? = some x) : byt (strOfNums l) i = x := by
  have hlen : i < l.length := (List.getElem?_eq_some_iff.1 h).1
  have := bytesOf_get (strOfNums l) i (by rw [strOfNums_size]; exact hlen)
  rw [bytesOf_strOfNums hl, h] at this
  exact (Option.some.inj this).symm
theorem fst_extract (t : ByteArray) (n : Nat) (h : n ≤ t.size) : bytesOf (t.extract 0 n) = fst t n := by
  apply List.ext_getElem?
  intro i
  by_cases hi : i < n
  · rw [bytesOf_get _ _ (by rw [size_pre t n h]; exact hi), byt_pre t n i h hi]
    simp [fst, hi]
  · rw [List.getElem?_eq_none (by rw [bytesOf_length, size_pre t n h]; omega), List.getElem?_eq_none (by simp [fst]; omega)]
theorem refN_forms (t : ByteArray) : ∀ f k, refN t f k = (-1, 1) ∨ ∃ j, refN t f k = (rv t j, (j : Int)) ∧ enc (rv t j) = fst t j ∧ j ≤ t.size ∧ k < j := by
  intro f
  induction f with
  | zero => intro k; exact .inl rfl
  | succ f ih =>
    intro k
    by_cases h : t.size < k + 1
    · left; rw [refN, if_pos h]
    · by_cases e : enc (rv t (k + 1)) = fst t (k + 1)
      · right; exact ⟨k + 1, by rw [refN, if_neg h, if_pos e], e, by omega, by omega⟩
      · rw [refN, if_neg h, if_neg e]
        rcases ih (k + 1) with h1 | ⟨j, h1, h2, h3, h4⟩
        · exact .inl h1
        · exact .inr ⟨j, h1, h2, h3, by omega⟩
theorem byt_from' (s : ByteArray) (a i : Nat) (h : i < s.size - a) : byt (s.extract a s.size) i = byt s (a + i) := byt_extract s i a s.size (Nat.le_refl _) (by omega)
theorem size_from' (s : ByteArray) (a : Nat) : (s.extract a s.size).size = s.size - a := by rw [ByteArray.size_extract]; omega
theorem conts_from' (s : ByteArray) (a n : Nat) (h : n + 1 ≤ s.size - a) : conts (s.extract a s.size) 0 n = conts s a n := by
  induction n with
  | zero => rfl
  | succ n ih => rw [conts_succ, conts_succ, ih (by omega), byt_from' s a _ (by omega)]; congr 3; omega
theorem acc_from' (s : ByteArray) (a n : Nat) (h : n + 1 ≤ s.size - a) : acc (s.extract a s.size) 0 n = acc s a n := by
  induction n with
  | zero => simp only [acc]; rw [byt_from' s a 0 (by omega)]; rfl
  | succ n ih => simp only [acc]; rw [ih (by omega), byt_from' s a _ (by omega)]; congr 3; omega
theorem nx_from' (s : ByteArray) (a : Nat) (h : a < s.size) : nx (s.extract a s.size) 0 = nx s a := by
  have hb := byt_from' s a 0 (by omega)
  rw [Nat.add_zero] at hb
  have hf := fsize_range (byt s a)
  simp only [nx]
  rw [hb, size_from']
  by_cases hc : fsize (byt s a) = 0 ∨ (s.size : Int) - a < fsize (byt s a)
  · rw [if_pos hc, if_pos (by omega)]
  · rw [if_neg hc, if_neg (by omega), conts_from' s a _ (by omega), acc_from' s a _ (by omega)]
/-- A sign that was found: its bytes stand there. -/
theorem nx_bytes (s : ByteArray) (a : Nat) (h : a < s.size) (h0 : 0 ≤ (nx s a).1) : enc (nx s a).1 = ((bytesOf s).drop a).take (nx s a).2.toNat := by
  have hr := ref_nx (s.extract a s.size) (by rw [size_from']; omega)
  rw [nx_from' s a h] at hr
  rcases refN_forms (s.extract a s.size) 4 0 with h1 | ⟨j, h1, h2, h3, _⟩
  · rw [hr] at h1; rw [h1] at h0; simp at h0
  · rw [hr] at h1
    rw [h1]
    simp only [Int.toNat_natCast]
    rw [h2, ← fst_extract _ _ h3, bytesOf_extract, bytesOf_extract, List.drop_zero, Nat.sub_zero, List.take_take]
    congr 1
    rw [size_from'] at h3
    omega
theorem nx_ext (s : ByteArray) (k a : Nat) (hk : k ≤ s.size) (ha : a < k) (h0 : 0 ≤ (nx (s.extract 0 k) a).1) : nx s a = nx (s.extract 0 k) a := by
  rcases nx_forms (s.extract 0 k) a with e | ⟨h1, h2, h3, h4, h5, e⟩
  · rw [e] at h0; simp at h0
  · have hb : byt (s.extract 0 k) a = byt s a := byt_pre s k a hk ha
    have hf := fsize_range (byt s a)
    rw [e]
    rw [hb] at h1 h2 h3 h4 h5 ⊢
    rw [size_pre s k hk] at h2
    have hA := acc_pre s k a (fsize (byt s a) - 1).toNat hk (by omega)
    have hC := conts_pre s k a (fsize (byt s a) - 1).toNat hk (by omega)
    rw [hA] at h4 h5 ⊢
    rw [hC] at h3
    exact nx_good (by omega) h3 (by rw [h5]; rintro (q | q); omega; cases q)
end Utf
namespace Fold
/-- A text with its letters small: the bytes from place a on. -/
def piece (s : ByteArray) (a : Nat) : List Int := if (nx s a).1 < 0 then [byt s a] else enc (low (nx s a).1)
def textF (s : ByteArray) (a : Nat) : List Int := if h : a < s.size then piece s a ++ textF s (adv s a) else []
termination_by s.size - a
decreasing_by have := adv_range s a h; omega
theorem textF_end {s : ByteArray} {a : Nat} (h : ¬ a < s.size) : textF s a = [] := by rw [textF, dif_neg h]
theorem textF_go {s : ByteArray} {a : Nat} (h : a < s.size) : textF s a = piece s a ++ textF s (adv s a) := by rw [textF, dif_pos h]
theorem piece_bad {s : ByteArray} {a : Nat} (h : (nx s a).1 < 0) : piece s a = [byt s a] := by unfold piece; rw [if_pos h]
theorem piece_good {s : ByteArray} {a : Nat} (h : ¬ (nx s a).1 < 0) : piece s a = enc (low (nx s a).1) := by unfold piece; rw [if_neg h]
theorem piece_byt (s : ByteArray) (a : Nat) : Byt (piece s a) := by
  unfold piece; split
  · intro b hb; simp only [List.mem_cons, List.mem_nil_iff, or_false] at hb; rw [hb]; exact byt_range s a
  · exact enc_byt _
theorem piece_length (s : ByteArray) (a : Nat) : (piece s a).length ≤ 4 := by
  unfold piece; split
  · simp
  · exact enc_length _
theorem byt_append {xs ys : List Int} (h : Byt xs) (k : Byt ys) : Byt (xs ++ ys) := fun b hb => by
  rcases List.mem_append.1 hb with h1 | h1
  · exact h b h1
  · exact k b h1
theorem textF_byt (s : ByteArray) : ∀ n a, s.size - a = n → Byt (textF s a) := by
  intro n
  induction n using Nat.strongRecOn with
  | _ n ih =>
    intro a hn
    by_cases h : a < s.size
    · have := adv_range s a h
      rw [textF_go h]
      exact byt_append (piece_byt s a) (ih _ (by omega) (adv s a) rfl)
    · rw [textF_end h]; intro b hb; cases hb
end Fold
end Go.Proofs.YtfohollhdaedlaaGreatDoor
