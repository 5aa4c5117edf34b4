/- The plain law of stems: never longer, not empty, the same first letter; and the walks of the laws StemShort, StemOthers. -/
import Derived.Test.YtfohollhdaedlaaGreatDoorStemA
import Derived.BigRegion
import Derived.StillTailTactics
set_option linter.unusedVariables false
set_option linter.unusedSimpArgs false
set_option maxRecDepth 100000
namespace Go.Proofs.YtfohollhdaedlaaGreatDoor
open Go.RowKit
namespace Stem
/-- A word that is not empty, and begins as another one. -/
def Keep (s t : ByteArray) : Prop := 0 < t.size ∧ byt t 0 = byt s 0
theorem Keep.refl {s : ByteArray} (h : 0 < s.size) : Keep s s := ⟨h, rfl⟩
theorem Keep.trans {s t u : ByteArray} (h : Keep s t) (k : Keep t u) : Keep s u := ⟨k.1, k.2.trans h.2⟩
theorem keep_less {s : ByteArray} {n : Nat} (h : n < s.size) : Keep s (less s n) :=
  ⟨by rw [less_size]; omega, by rw [less, byt_extract s 0 0 _ (by omega) (by omega)]⟩
theorem byt_append_left (s t : ByteArray) (i : Nat) (h : i < s.size) : byt (s ++ t) i = byt s i := by
  have h1 : i < (s ++ t).size := by rw [ByteArray.size_append]; omega
  rw [byt, dif_pos h1, byt, dif_pos h, ByteArray.getElem_append_left h]
theorem keep_app {s t : ByteArray} (h : 0 < s.size) : Keep s (s ++ t) := ⟨by rw [ByteArray.size_append]; omega, byt_append_left s t 0 h⟩
theorem plain_size {s : ByteArray} (h : plainF s = true) : 4 ≤ s.size := by
  rw [plainF, Bool.and_eq_true, decide_eq_true_eq] at h; exact h.2
theorem plural_keep (s : ByteArray) (h : 4 ≤ s.size) : Keep s (pluralF s) := by
  unfold pluralF
  repeat' split
  · exact keep_less (by omega)
  · have k : Keep s (less s 3) := keep_less (by omega)
    exact k.trans (keep_app k.1)
  · exact .refl (by omega)
  · exact .refl (by omega)
  · exact .refl (by omega)
  · exact keep_less (by omega)
  · exact .refl (by omega)
theorem twin_keep (s : ByteArray) (h : 2 ≤ s.size) : Keep s (twinF s) := by
  unfold twinF; split
  · exact keep_less (by omega)
  · exact .refl (by omega)
theorem gone_size {s e : ByteArray} (h : gone s e = true) : 3 ≤ (less s e.size).size := by
  simp only [gone, Bool.and_eq_true, decide_eq_true_eq] at h; exact h.1.2
theorem past_keep (s : ByteArray) (h : 4 ≤ s.size) : Keep s (pastF s) := by
  unfold pastF; repeat' split
  · rename_i h1
    have h2 := gone_size h1
    rw [less_size, show tIng.size = 3 from rfl] at h2
    have k : Keep s (less s 3) := keep_less (by omega)
    exact k.trans (twin_keep _ (by rw [less_size]; omega))
  · rename_i h1
    have h2 := gone_size h1
    rw [less_size, show tEd.size = 2 from rfl] at h2
    have k : Keep s (less s 2) := keep_less (by omega)
    exact k.trans (twin_keep _ (by rw [less_size]; omega))
  · exact .refl (by omega)
theorem otherL_keep (s : ByteArray) (h : 4 ≤ s.size) : ∀ l : List (ByteArray × ByteArray), Keep s (otherL l s)
  | [] => .refl (by omega)
  | x :: r => by
    unfold otherL; split
    · rename_i hc
      rw [Bool.and_eq_true, decide_eq_true_eq] at hc
      have h2 := hc.2
      rw [less_size] at h2
      have k : Keep s (less s x.1.size) := keep_less (by omega)
      exact k.trans (keep_app k.1)
    · exact otherL_keep s h r
theorem rest2_keep (s : ByteArray) (h : 0 < s.size) : Keep s (rest2 s) := by
  unfold rest2; split
  · rename_i hp
    exact otherL_keep s (plain_size hp) endsTab
  · exact .refl h
theorem rest1_keep (s : ByteArray) (h : 0 < s.size) : Keep s (rest1 s) := by
  unfold rest1; split
  · rename_i hp
    have k := past_keep s (plain_size hp)
    exact k.trans (rest2_keep _ k.1)
  · exact .refl h
theorem stem_keep (s : ByteArray) (h : 0 < s.size) : Keep s (stemF s) := by
  unfold stemF; split
  · rename_i hp
    have k := plural_keep s (plain_size hp)
    exact k.trans (rest1_keep _ k.1)
  · exact .refl h
theorem stem_other (s : ByteArray) (h : plainF s = false) : stemF s = s := by rw [stemF, h]; rfl
theorem plain_short (s : ByteArray) (h : s.size < 4) : plainF s = false := by rw [plainF, decide_eq_false (by omega), Bool.and_false]
theorem plain_odd (s : ByteArray) (i : Nat) (hi : i < s.size) (h : ¬ (97 ≤ byt s i ∧ byt s i ≤ 122)) : plainF s = false := by
  rw [plainF, allAz_false hi (by simp [az]; omega), Bool.false_and]

theorem ex1 : stemF { data := #[114, 117, 110, 110, 105, 110, 103] } = { data := #[114, 117, 110] } := by decide +kernel
theorem ex2 : stemF { data := #[102, 111, 120, 101, 115] } = { data := #[102, 111, 120, 101] } := by decide +kernel
theorem ex3 : stemF { data := #[112, 111, 110, 105, 101, 115] } = { data := #[112, 111, 110, 121] } := by decide +kernel
theorem ex4 : stemF { data := #[107, 105, 110, 100, 110, 101, 115, 115] } = { data := #[107, 105, 110, 100] } := by decide +kernel
theorem ex5 : stopF { data := #[116, 104, 101] } = true := by decide +kernel
def Laids (w : World) : Prop := LaidS w ∧ LaidE w
theorem Laids.below {w w' : World} (h : Laids w) (hb : Below w.heap.size w w') : Laids w' := ⟨h.1.below hb, h.2.below hb⟩

theorem not_empty (s : ByteArray) (h : 0 < s.size) : s.toList.isEmpty = false := by
  rw [ByteArray.toList_eq]
  cases hs : s.data.toList with
  | nil =>
    have h2 : s.data.toList.length = s.size := Array.length_toList
    rw [hs] at h2
    simp at h2; omega
  | cons a l => rfl
end Stem
end Go.Proofs.YtfohollhdaedlaaGreatDoor
