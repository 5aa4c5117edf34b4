/- The plain law of stems: never longer, not empty, the same first letter; and the walks of the laws StemShort, StemOthers. -/
import Derived.Test.YtonhlgidfgogiaaDoorStem8
import Derived.BigRegion
import Derived.StillTailTactics
set_option linter.unusedVariables false
set_option linter.unusedSimpArgs false
set_option maxRecDepth 100000
namespace Go.Proofs.YtonhlgidfgogiaaDoor
open Go.RowKit
namespace Stem
/-- A word that is not empty, and begins as another one. -/
def Keep (s t : ByteArray) : Prop := 0 < t.size ∧ byt t 0 = byt s 0
theorem Keep.refl {s : ByteArray} (h : 0 < s.size) : Keep s s := ⟨h, rfl⟩
theorem Keep.trans {s t u : ByteArray} (h : Keep s t) (k : Keep t u) : Keep s u := ⟨k.1, k.2.trans h.2⟩
theorem keep_less {s : ByteArray} {n : Nat} (h : n < s.size) : Keep s (less s n) :=
  ⟨by rw [less_size]; omega, by rw [less, byt_extract s 0 0 _ (by omega) (by omega)]⟩
theorem byt_append_left (s t : ByteArray) (i : Nat) (h : i < s.size) : byt (s ++ t) i = byt s i := by
  have h1 : i < (s ++ t).size := by rw [ByteArray.size_append]; omega
  rw [byt, dif_pos h1, byt, dif_pos h, ByteArray.getElem_append_left h]
theorem keep_app {s t : ByteArray} (h : 0 < s.size) : Keep s (s ++ t) := ⟨by rw [ByteArray.size_append]; omega, byt_append_left s t 0 h⟩
theorem plain_size {s : ByteArray} (h : plainF s = true) : 4 ≤ s.size := by
  rw [plainF, Bool.and_eq_true, decide_eq_true_eq] at h; exact h.2
theorem plural_keep (s : ByteArray) (h : 4 ≤ s.size) : Keep s (pluralF s) := by
  unfold pluralF
  repeat' split
  · exact keep_less (by omega)
  · have k : Keep s (less s 3) := keep_less (by omega)
    exact k.trans (keep_app k.1)
  · exact .refl (by omega)
  · exact .refl (by omega)
  · exact .refl (by omega)
  · exact keep_less (by omega)
  · exact .refl (by omega)
theorem twin_keep (s : ByteArray) (h : 2 ≤ s.size) : Keep s (twinF s) := by
  unfold twinF; split
  · exact keep_less (by omega)
  · exact .refl (by omega)
theorem gone_size {s e : ByteArray} (h : gone s e = true) : 3 ≤ (less s e.size).size := by
  simp only [gone, Bool.and_eq_true, decide_eq_true_eq] at h; exact h.1.2
theorem past_keep (s : ByteArray) (h : 4 ≤ s.size) : Keep s (pastF s) := by
  unfold pastF; repeat' split
  · rename_i h1
    have h2 := gone_size h1
    rw [less_size, show tIng.size = 3 from rfl] at h2
    have k : Keep s (less s 3) := keep_less (by omega)
    exact k.trans (twin_keep _ (by rw [less_size]; omega))
  · rename_i h1
    have h2 := gone_size h1
    rw [less_size, show tEd.size = 2 from rfl] at h2
    have k : Keep s (less s 2) := keep_less (by omega)
    exact k.trans (twin_keep _ (by rw [less_size]; omega))
  · exact .refl (by omega)
theorem otherL_keep (s : ByteArray) (h : 4 ≤ s.size) : ∀ l : List (ByteArray × ByteArray), Keep s (otherL l s)
  | [] => .refl (by omega)
  | x :: r => by
    unfold otherL; split
    · rename_i hc
      rw [Bool.and_eq_true, decide_eq_true_eq] at hc
      have h2 := hc.2
      rw [less_size] at h2
      have k : Keep s (less s x.1.size) := keep_less (by omega)
      exact k.trans (keep_app k.1)
    · exact otherL_keep s h r
theorem rest2_keep (s : ByteArray) (h : 0 < s.size) : Keep s (rest2 s) := by
  unfold rest2; split
  · rename_i hp
    exact otherL_keep s (plain_size hp) endsTab
  · exact .refl h
theorem rest1_keep (s : ByteArray) (h : 0 < s.size) : Keep s (rest1 s) := by
  unfold rest1; split
  · rename_i hp
    have k := past_keep s (plain_size hp)
    exact k.trans (rest2_keep _ k.1)
  · exact .refl h
theorem stem_keep (s : ByteArray) (h : 0 < s.size) : Keep s (stemF s) := by
  unfold stemF; split
  · rename_i hp
    have k := plural_keep s (plain_size hp)
    exact k.trans (rest1_keep _ k.1)
  · exact .refl h
theorem stem_other (s : ByteArray) (h : plainF s = false) : stemF s = s := by rw [stemF, h]; rfl
theorem plain_short (s : ByteArray) (h : s.size < 4) : plainF s = false := by rw [plainF, decide_eq_false (by omega), Bool.and_false]
theorem plain_odd (s : ByteArray) (i : Nat) (hi : i < s.size) (h : ¬ (97 ≤ byt s i ∧ byt s i ≤ 122)) : plainF s = false := by
  rw [plainF, allAz_false hi (by simp [az]; omega), Bool.false_and]

theorem ex1 : stemF { data := #[114, 117, 110, 110, 105, 110, 103] } = { data := #[114, 117, 110] } := by decide +kernel
theorem ex2 : stemF { data := #[102, 111, 120, 101, 115] } = { data := #[102, 111, 120, 101] } := by decide +kernel
theorem ex3 : stemF { data := #[112, 111, 110, 105, 101, 115] } = { data := #[112, 111, 110, 121] } := by decide +kernel
theorem ex4 : stemF { data := #[107, 105, 110, 100, 110, 101, 115, 115] } = { data := #[107, 105, 110, 100] } := by decide +kernel
theorem ex5 : stopF { data := #[116, 104, 101] } = true := by decide +kernel
def Laids (w : World) : Prop := LaidS w ∧ LaidE w
theorem Laids.below {w w' : World} (h : Laids w) (hb : Below w.heap.size w w') : Laids w' := ⟨h.1.below hb, h.2.below hb⟩

theorem not_empty (s : ByteArray) (h : 0 < s.size) : s.toList.isEmpty = false := by
  rw [ByteArray.toList_eq]
  cases hs : s.data.toList with
  | nil =>
    have h2 : s.data.toList.length = s.size := Array.length_toList
    rw [hs] at h2
    simp at h2; omega
  | cons a l => rfl
set_option maxHeartbeats 1000000 in
theorem awake_calls (w : World) (hL : Laids w) :
    Calls Tryd.prog 40 #[] w fun e w' => e = .returned (.bool true) ∧ Below w.heap.size w w' := by
  have HL := Lib.hid hL
  have c1 := fun W h => stem_calls { data := #[114, 117, 110, 110, 105, 110, 103] } (by decide) W h
  have c2 := fun W h => stem_calls { data := #[102, 111, 120, 101, 115] } (by decide) W h
  have c3 := fun W h => stem_calls { data := #[112, 111, 110, 105, 101, 115] } (by decide) W h
  have c4 := fun W h => stem_calls { data := #[107, 105, 110, 100, 110, 101, 115, 115] } (by decide) W h
  have c5 := fun W h => stop_calls { data := #[116, 104, 101] } W h
  rw [ex1] at c1
  rw [ex2] at c2
  rw [ex3] at c3
  rw [ex4] at c4
  rw [ex5] at c5
  clear hL
  go_enter Tryd.func40, Tryd.ntmps40
  go_wp2_with fail
  refine (c1 _ HL.out.2).mono ?_
  rintro e w1 ⟨rfl, hb⟩
  have HB1 : Hid (Below w.heap.size w w1) := hb
  clear hb
  go_wp2_with fail
  refine (c2 _ (HL.out.below HB1.out).2).mono ?_
  rintro e w2 ⟨rfl, hb⟩
  have HB2 : Hid (Below w.heap.size w w2) := below_next HB1.out hb
  clear hb HB1
  go_wp2_with fail
  refine (c3 _ (HL.out.below HB2.out).2).mono ?_
  rintro e w3 ⟨rfl, hb⟩
  have HB3 : Hid (Below w.heap.size w w3) := below_next HB2.out hb
  clear hb HB2
  go_wp2_with fail
  refine (c4 _ (HL.out.below HB3.out).2).mono ?_
  rintro e w4 ⟨rfl, hb⟩
  have HB4 : Hid (Below w.heap.size w w4) := below_next HB3.out hb
  clear hb HB3
  go_wp2_with fail
  refine (c5 _ (HL.out.below HB4.out).1).mono ?_
  rintro e w5 ⟨rfl, rfl⟩
  go_wp2_with fail
  go_ret
  exact ⟨rfl, HB4.out⟩

set_option maxHeartbeats 1000000 in
theorem short_proof (w : World) (hL : Laids w) (s : ByteArray) (hs : s.size ≤ 140737488351232) :
    Calls Tryd.prog 8 #[.string s] w fun e w' => e = .returned (.bool true) ∧ Below w.heap.size w w' := by
  have HL := Lib.hid hL
  clear hL
  by_cases hl : 4096 < s.size
  · go_enter Tryd.func8, Tryd.ntmps8
    go_wp2_with fail
    refine (awake_calls _ HL.out).mono ?_
    rintro e w1 ⟨rfl, hb1⟩
    go_wp2_with fail
    go_ret
    exact ⟨rfl, hb1⟩
  · have c1 := fun W h => stem_calls s hs W h
    by_cases h0 : s.size = 0
    · obtain rfl : s = { data := #[] } := by
        cases s; simp only [ByteArray.size] at h0; congr; exact Array.eq_empty_of_size_eq_zero h0
      rw [stem_other _ (by decide)] at c1
      have e1 : ((({ data := #[] } : ByteArray).toList) == (({ data := #[] } : ByteArray).toList)) = true := by simp
      go_enter Tryd.func8, Tryd.ntmps8
      go_wp2_with fail
      refine (c1 _ HL.out.2).mono ?_
      rintro e w1 ⟨rfl, hb⟩
      have HB1 : Hid (Below w.heap.size w w1) := hb
      clear hb
      go_wp2_with fail
      have HA := Lib.hid (HL.out.below HB1.out)
      go_still_tail 21, (by kernel_rfl)
      change wpList _ _ _ _ _ w1.drew
      go_wp2_with fail
      refine (awake_calls w1.drew (show Laids w1.drew from HA.out)).mono ?_
      rintro e w2 ⟨rfl, hb2⟩
      have HB2 := Lib.hid (below_drew1 hb2)
      clear hb2
      go_wp2_with fail
      go_ret
      exact ⟨rfl, below_next HB1.out HB2.out⟩
    · have hk := stem_keep s (by omega)
      have hsz := stem_size s
      generalize stemF s = x at *
      obtain ⟨hx, hb0⟩ := hk
      have hx1 := idx_str (P := Tryd.prog) Tryd.underlying9 x .i64 0 0 rfl hx
      have hx2 := idx_str (P := Tryd.prog) Tryd.underlying9 s .i64 0 0 rfl (by omega)
      rw [hb0] at hx1
      have e1 := eq_str x { data := #[] } (fun h => by rw [h] at hx; exact absurd hx (by decide))
      have e2 := eq_str s { data := #[] } (fun h => by rw [h] at h0; exact absurd rfl h0)
      have e5 := not_empty x hx
      have e6 := not_empty s (by omega)
      have e3 : (x.toList != ({ data := #[] } : ByteArray).toList) = true := by rw [bne, e1]; rfl
      have e4 : (byt s 0 == byt s 0) = true := by simp
      have hd : decide ((s.size : Int) < x.size) = false := by simp; omega
      have hd2 : decide ((x.size : Int) ≤ s.size) = true := by simp; omega
      go_enter Tryd.func8, Tryd.ntmps8
      go_wp2_with fail
      refine (c1 _ HL.out.2).mono ?_
      rintro e w1 ⟨rfl, hb⟩
      have HB1 : Hid (Below w.heap.size w w1) := hb
      clear hb
      go_wp2_with fail
      have HA := Lib.hid (HL.out.below HB1.out)
      go_still_tail 21, (by kernel_rfl)
      change wpList _ _ _ _ _ w1.drew
      go_wp2_with fail
      refine (awake_calls w1.drew (show Laids w1.drew from HA.out)).mono ?_
      rintro e w2 ⟨rfl, hb2⟩
      have HB2 := Lib.hid (below_drew1 hb2)
      clear hb2
      go_wp2_with fail
      go_ret
      exact ⟨rfl, below_next HB1.out HB2.out⟩
end Stem
end Go.Proofs.YtonhlgidfgogiaaDoor
