/- The walks: the ends of words (strings.HasSuffix, CutSuffix, TrimSuffix), strings.IndexByte, vowels. -/
import Derived.Test.YtfohollhdaedlaaDoorChecked
import Derived.Test.YtfohollhdaedlaaDoorLib
import Derived.Test.YtfohollhdaedlaaDoorSl
import Derived.Lib.Bytealg
set_option linter.unusedVariables false
set_option linter.unusedSimpArgs false
set_option maxRecDepth 100000
namespace Go.Proofs.YtfohollhdaedlaaDoor
open Go.RowKit
namespace Stem

/-- Does a text end so? -/
def suf (s p : ByteArray) : Bool := decide (p.size ≤ s.size) && decide (s.extract (s.size - p.size) s.size = p)
/-- A text without its last bytes. -/
def less (s : ByteArray) (n : Nat) : ByteArray := s.extract 0 (s.size - n)
theorem suf_le {s p : ByteArray} (h : suf s p = true) : p.size ≤ s.size := by
  simp only [suf, Bool.and_eq_true, decide_eq_true_eq] at h; exact h.1

set_option maxHeartbeats 400000 in
theorem hasSuffix0_calls (s p : ByteArray) (hs : s.size ≤ 140737488351232) (hp : p.size ≤ 140737488351232) (w : World) :
    Calls Tryd.prog 117 #[.string s, .string p] w fun e w' => e = .returned (.bool (suf s p)) ∧ w' = w := by
  by_cases h : p.size ≤ s.size
  · have hsl := slice_str_from Tryd.underlying9 s .i64 ((s.size : Int) - p.size) (s.size - p.size) (by omega) (by omega)
    have hd : (p.size : Int) ≤ s.size := by omega
    go_enter Tryd.func117, Tryd.ntmps117
    go_wp2_with fail
    go_ret
    refine ⟨ret_bool ?_, rfl⟩
    rw [suf, decide_eq_true h, Bool.true_and, ← toList_beq]
  · have hd : (s.size : Int) < p.size := by omega
    go_enter Tryd.func117, Tryd.ntmps117
    go_wp2_with fail
    go_ret
    exact ⟨ret_bool (by simp [suf, h]), rfl⟩
set_option maxHeartbeats 400000 in
theorem hasSuffix_calls (s p : ByteArray) (hs : s.size ≤ 140737488351232) (hp : p.size ≤ 140737488351232) (w : World) :
    Calls Tryd.prog 122 #[.string s, .string p] w fun e w' => e = .returned (.bool (suf s p)) ∧ w' = w := by
  go_enter Tryd.func122, Tryd.ntmps122
  go_wp2_with fail
  refine (hasSuffix0_calls s p hs hp _).mono ?_
  rintro e w1 ⟨rfl, rfl⟩
  go_wp2_with fail
  go_ret
  exact ⟨rfl, rfl⟩
set_option maxHeartbeats 400000 in
theorem cutSuffix0_calls (s p : ByteArray) (hs : s.size ≤ 140737488351232) (hp : p.size ≤ 140737488351232) (w : World) :
    Calls Tryd.prog 78 #[.string s, .string p] w fun e w' => e = .returned (.tuple #[.string (if suf s p then less s p.size else s), .bool (suf s p)]) ∧ w' = w := by
  cases h : suf s p
  · go_enter Tryd.func78, Tryd.ntmps78
    go_wp2_with fail
    refine (hasSuffix0_calls s p hs hp _).mono ?_
    rw [h]
    rintro e w1 ⟨rfl, rfl⟩
    go_wp2_with fail
    go_ret2
    exact ⟨rfl, rfl⟩
  · have hle := suf_le h
    have hsl := slice_str_to Tryd.underlying9 s .i64 ((s.size : Int) - p.size) (s.size - p.size) (by omega) (by omega)
    go_enter Tryd.func78, Tryd.ntmps78
    go_wp2_with fail
    refine (hasSuffix0_calls s p hs hp _).mono ?_
    rw [h]
    rintro e w1 ⟨rfl, rfl⟩
    go_wp2_with fail
    go_ret2
    exact ⟨rfl, rfl⟩
set_option maxHeartbeats 400000 in
theorem cutSuffix_calls (s p : ByteArray) (hs : s.size ≤ 140737488351232) (hp : p.size ≤ 140737488351232) (w : World) :
    Calls Tryd.prog 38 #[.string s, .string p] w fun e w' => e = .returned (.tuple #[.string (if suf s p then less s p.size else s), .bool (suf s p)]) ∧ w' = w := by
  have c := cutSuffix0_calls s p hs hp w
  generalize (if suf s p then less s p.size else s) = q at c ⊢
  go_enter Tryd.func38, Tryd.ntmps38
  go_wp2_with fail
  refine c.mono ?_
  rintro e w1 ⟨rfl, rfl⟩
  go_wp2_with fail
  go_ret2
  exact ⟨rfl, rfl⟩
set_option maxHeartbeats 400000 in
theorem trimSuffix0_calls (s p : ByteArray) (hs : s.size ≤ 140737488351232) (hp : p.size ≤ 140737488351232) (w : World) :
    Calls Tryd.prog 148 #[.string s, .string p] w fun e w' => e = .returned (.string (if suf s p then less s p.size else s)) ∧ w' = w := by
  cases h : suf s p
  · go_enter Tryd.func148, Tryd.ntmps148
    go_wp2_with fail
    refine (hasSuffix0_calls s p hs hp _).mono ?_
    rw [h]
    rintro e w1 ⟨rfl, rfl⟩
    go_wp2_with fail
    go_ret
    exact ⟨rfl, rfl⟩
  · have hle := suf_le h
    have hsl := slice_str_to Tryd.underlying9 s .i64 ((s.size : Int) - p.size) (s.size - p.size) (by omega) (by omega)
    go_enter Tryd.func148, Tryd.ntmps148
    go_wp2_with fail
    refine (hasSuffix0_calls s p hs hp _).mono ?_
    rw [h]
    rintro e w1 ⟨rfl, rfl⟩
    go_wp2_with fail
    go_ret
    exact ⟨rfl, rfl⟩
set_option maxHeartbeats 400000 in
theorem trimSuffix_calls (s p : ByteArray) (hs : s.size ≤ 140737488351232) (hp : p.size ≤ 140737488351232) (w : World) :
    Calls Tryd.prog 123 #[.string s, .string p] w fun e w' => e = .returned (.string (if suf s p then less s p.size else s)) ∧ w' = w := by
  have c := trimSuffix0_calls s p hs hp w
  generalize (if suf s p then less s p.size else s) = q at c ⊢
  go_enter Tryd.func123, Tryd.ntmps123
  go_wp2_with fail
  refine c.mono ?_
  rintro e w1 ⟨rfl, rfl⟩
  go_wp2_with fail
  go_ret
  exact ⟨rfl, rfl⟩


set_option maxHeartbeats 400000 in
theorem indexByte0_calls (s : ByteArray) (c : Int) (w : World) :
    Calls Tryd.prog 116 #[.string s, .int .u8 c] w fun e w' => e = .returned (.int .i64 (Lib.indexByte s.data.toList c.toNat.toUInt8)) ∧ w' = w := by
  go_enter Tryd.func116, Tryd.ntmps116
  go_wp2
  rw [run_callFunc_extern Tryd.func144 (by kernel_rfl) (by kernel_rfl) (by kernel_rfl) (e := Extern.BytealgIndexByte.indexByte) (by kernel_rfl), Lib.run_indexByteString]
  simp only [Result.andThen]
  rw [Oper.upon_value]
  go_wp2
  go_ret
  exact ⟨rfl, rfl⟩
set_option maxHeartbeats 400000 in
theorem indexByte_calls (s : ByteArray) (c : Int) (w : World) :
    Calls Tryd.prog 77 #[.string s, .int .u8 c] w fun e w' => e = .returned (.int .i64 (Lib.indexByte s.data.toList c.toNat.toUInt8)) ∧ w' = w := by
  go_enter Tryd.func77, Tryd.ntmps77
  go_wp2_with fail
  refine (indexByte0_calls s c _).mono ?_
  rintro e w1 ⟨rfl, rfl⟩
  go_wp2_with fail
  go_ret
  exact ⟨rfl, rfl⟩
/-- The vowels; and the letters that stay twice. -/
def vow (c : Int) : Bool := decide (c = 97 ∨ c = 101 ∨ c = 105 ∨ c = 111 ∨ c = 117 ∨ c = 121)
def lsz (c : Int) : Bool := decide (c = 108 ∨ c = 115 ∨ c = 122)
theorem vow_index (c : Int) (h0 : 0 ≤ c) (h1 : c < 256) : (Lib.indexByte [97, 101, 105, 111, 117, 121] c.toNat.toUInt8 < 0) = (vow c = false) := by
  have h : ∀ a : Fin 256, (Lib.indexByte [97, 101, 105, 111, 117, 121] a.val.toUInt8 < 0) ↔ (vow (a.val : Int) = false) := by decide +kernel
  obtain ⟨n, rfl⟩ := Int.eq_ofNat_of_zero_le h0
  exact propext (h ⟨n, by omega⟩)
theorem lsz_index (c : Int) (h0 : 0 ≤ c) (h1 : c < 256) : (Lib.indexByte [108, 115, 122] c.toNat.toUInt8 < 0) = (lsz c = false) := by
  have h : ∀ a : Fin 256, (Lib.indexByte [108, 115, 122] a.val.toUInt8 < 0) ↔ (lsz (a.val : Int) = false) := by decide +kernel
  obtain ⟨n, rfl⟩ := Int.eq_ofNat_of_zero_le h0
  exact propext (h ⟨n, by omega⟩)
/-- strings.IndexByte in a constant text, against nought. -/
theorem index_calls (s : ByteArray) (c : Int) (q : Bool) (hq : (Lib.indexByte s.data.toList c.toNat.toUInt8 < 0) = (q = false)) (w : World) :
    Calls Tryd.prog 77 #[.string s, .int .u8 c] w fun e w' => (∃ i : Int, e = .returned (.int .i64 i) ∧ (q = true → 0 ≤ i) ∧ (q = false → i < 0)) ∧ w' = w := by
  refine (indexByte_calls s c w).mono ?_
  rintro e w1 ⟨rfl, rfl⟩
  refine ⟨⟨_, rfl, fun h => ?_, fun h => by rw [hq]; exact h⟩, rfl⟩
  have : ¬ Lib.indexByte s.data.toList c.toNat.toUInt8 < 0 := by rw [hq, h]; simp
  omega
set_option maxHeartbeats 400000 in
theorem vowel_calls (c : Int) (h0 : 0 ≤ c) (h1 : c < 256) (w : World) :
    Calls Tryd.prog 149 #[.int .u8 c] w fun e w' => e = .returned (.bool (vow c)) ∧ w' = w := by
  have c1 := index_calls { data := #[97, 101, 105, 111, 117, 121] } c (vow c) (vow_index c h0 h1)
  cases h : vow c
  · rw [h] at c1
    go_enter Tryd.func149, Tryd.ntmps149
    go_wp2_with fail
    refine (c1 _).mono ?_
    rintro e w1 ⟨⟨i, rfl, _, hi⟩, rfl⟩
    have hi : i < 0 := by simpa using hi
    go_wp2_with fail
    go_ret
    exact ⟨ret_bool (by simp; omega), rfl⟩
  · rw [h] at c1
    go_enter Tryd.func149, Tryd.ntmps149
    go_wp2_with fail
    refine (c1 _).mono ?_
    rintro e w1 ⟨⟨i, rfl, hi, _⟩, rfl⟩
    have hi : 0 ≤ i := by simpa using hi
    go_wp2_with fail
    go_ret
    exact ⟨rfl, rfl⟩
end Stem
end Go.Proofs.YtfohollhdaedlaaDoor
