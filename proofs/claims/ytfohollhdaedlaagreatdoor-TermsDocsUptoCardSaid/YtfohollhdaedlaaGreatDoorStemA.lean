import Derived.Test.YtfohollhdaedlaaGreatDoorChecked
import Derived.Test.YtfohollhdaedlaaGreatDoorLib
import Derived.Test.YtfohollhdaedlaaGreatDoorSl
import Derived.Lib.Bytealg
import Derived.BigRegion
/- The walks: the ends of words (strings.HasSuffix, CutSuffix, TrimSuffix), strings.IndexByte, vowels. -/
set_option linter.unusedVariables false
set_option linter.unusedSimpArgs false
set_option maxRecDepth 100000
namespace Go.Proofs.YtfohollhdaedlaaGreatDoor
open Go.RowKit
namespace Stem

/-- Does a text end so? -/
def suf (s p : ByteArray) : Bool := decide (p.size ≤ s.size) && decide (s.extract (s.size - p.size) s.size = p)
/-- A text without its last bytes. -/
def less (s : ByteArray) (n : Nat) : ByteArray := s.extract 0 (s.size - n)
theorem suf_le {s p : ByteArray} (h : suf s p = true) : p.size ≤ s.size := by
  simp only [suf, Bool.and_eq_true, decide_eq_true_eq] at h; exact h.1

set_option maxHeartbeats 400000 in
theorem hasSuffix0_calls (s p : ByteArray) (hs : s.size ≤ 140737488351232) (hp : p.size ≤ 140737488351232) (w : World) :
    Calls Tryz.prog 82 #[.string s, .string p] w fun e w' => e = .returned (.bool (suf s p)) ∧ w' = w := by
  by_cases h : p.size ≤ s.size
  · have hsl := slice_str_from Tryz.underlying9 s .i64 ((s.size : Int) - p.size) (s.size - p.size) (by omega) (by omega)
    have hd : (p.size : Int) ≤ s.size := by omega
    go_enter Tryz.func82, Tryz.ntmps82
    go_wp2_with fail
    go_ret
    refine ⟨ret_bool ?_, rfl⟩
    rw [suf, decide_eq_true h, Bool.true_and, ← toList_beq]
  · have hd : (s.size : Int) < p.size := by omega
    go_enter Tryz.func82, Tryz.ntmps82
    go_wp2_with fail
    go_ret
    exact ⟨ret_bool (by simp [suf, h]), rfl⟩
set_option maxHeartbeats 400000 in
theorem hasSuffix_calls (s p : ByteArray) (hs : s.size ≤ 140737488351232) (hp : p.size ≤ 140737488351232) (w : World) :
    Calls Tryz.prog 60 #[.string s, .string p] w fun e w' => e = .returned (.bool (suf s p)) ∧ w' = w := by
  go_enter Tryz.func60, Tryz.ntmps60
  go_wp2_with fail
  refine (hasSuffix0_calls s p hs hp _).mono ?_
  rintro e w1 ⟨rfl, rfl⟩
  go_wp2_with fail
  go_ret
  exact ⟨rfl, rfl⟩
set_option maxHeartbeats 400000 in
theorem cutSuffix0_calls (s p : ByteArray) (hs : s.size ≤ 140737488351232) (hp : p.size ≤ 140737488351232) (w : World) :
    Calls Tryz.prog 84 #[.string s, .string p] w fun e w' => e = .returned (.tuple #[.string (if suf s p then less s p.size else s), .bool (suf s p)]) ∧ w' = w := by
  cases h : suf s p
  · go_enter Tryz.func84, Tryz.ntmps84
    go_wp2_with fail
    refine (hasSuffix0_calls s p hs hp _).mono ?_
    rw [h]
    rintro e w1 ⟨rfl, rfl⟩
    go_wp2_with fail
    go_ret2
    exact ⟨rfl, rfl⟩
  · have hle := suf_le h
    have hsl := slice_str_to Tryz.underlying9 s .i64 ((s.size : Int) - p.size) (s.size - p.size) (by omega) (by omega)
    go_enter Tryz.func84, Tryz.ntmps84
    go_wp2_with fail
    refine (hasSuffix0_calls s p hs hp _).mono ?_
    rw [h]
    rintro e w1 ⟨rfl, rfl⟩
    go_wp2_with fail
    go_ret2
    exact ⟨rfl, rfl⟩
set_option maxHeartbeats 400000 in
theorem cutSuffix_calls (s p : ByteArray) (hs : s.size ≤ 140737488351232) (hp : p.size ≤ 140737488351232) (w : World) :
    Calls Tryz.prog 62 #[.string s, .string p] w fun e w' => e = .returned (.tuple #[.string (if suf s p then less s p.size else s), .bool (suf s p)]) ∧ w' = w := by
  have c := cutSuffix0_calls s p hs hp w
  generalize (if suf s p then less s p.size else s) = q at c ⊢
  go_enter Tryz.func62, Tryz.ntmps62
  go_wp2_with fail
  refine c.mono ?_
  rintro e w1 ⟨rfl, rfl⟩
  go_wp2_with fail
  go_ret2
  exact ⟨rfl, rfl⟩
set_option maxHeartbeats 400000 in
theorem trimSuffix0_calls (s p : ByteArray) (hs : s.size ≤ 140737488351232) (hp : p.size ≤ 140737488351232) (w : World) :
    Calls Tryz.prog 83 #[.string s, .string p] w fun e w' => e = .returned (.string (if suf s p then less s p.size else s)) ∧ w' = w := by
  cases h : suf s p
  · go_enter Tryz.func83, Tryz.ntmps83
    go_wp2_with fail
    refine (hasSuffix0_calls s p hs hp _).mono ?_
    rw [h]
    rintro e w1 ⟨rfl, rfl⟩
    go_wp2_with fail
    go_ret
    exact ⟨rfl, rfl⟩
  · have hle := suf_le h
    have hsl := slice_str_to Tryz.underlying9 s .i64 ((s.size : Int) - p.size) (s.size - p.size) (by omega) (by omega)
    go_enter Tryz.func83, Tryz.ntmps83
    go_wp2_with fail
    refine (hasSuffix0_calls s p hs hp _).mono ?_
    rw [h]
    rintro e w1 ⟨rfl, rfl⟩
    go_wp2_with fail
    go_ret
    exact ⟨rfl, rfl⟩
set_option maxHeartbeats 400000 in
theorem trimSuffix_calls (s p : ByteArray) (hs : s.size ≤ 140737488351232) (hp : p.size ≤ 140737488351232) (w : World) :
    Calls Tryz.prog 61 #[.string s, .string p] w fun e w' => e = .returned (.string (if suf s p then less s p.size else s)) ∧ w' = w := by
  have c := trimSuffix0_calls s p hs hp w
  generalize (if suf s p then less s p.size else s) = q at c ⊢
  go_enter Tryz.func61, Tryz.ntmps61
  go_wp2_with fail
  refine c.mono ?_
  rintro e w1 ⟨rfl, rfl⟩
  go_wp2_with fail
  go_ret
  exact ⟨rfl, rfl⟩


set_option maxHeartbeats 400000 in
theorem indexByte0_calls (s : ByteArray) (c : Int) (w : World) :
    Calls Tryz.prog 97 #[.string s, .int .u8 c] w fun e w' => e = .returned (.int .i64 (Lib.indexByte s.data.toList c.toNat.toUInt8)) ∧ w' = w := by
  go_enter Tryz.func97, Tryz.ntmps97
  go_wp2
  rw [run_callFunc_extern Tryz.func104 (by kernel_rfl) (by kernel_rfl) (by kernel_rfl) (e := Extern.BytealgIndexByte.indexByte) (by kernel_rfl), Lib.run_indexByteString]
  simp only [Result.andThen]
  rw [Oper.upon_value]
  go_wp2
  go_ret
  exact ⟨rfl, rfl⟩
set_option maxHeartbeats 400000 in
theorem indexByte_calls (s : ByteArray) (c : Int) (w : World) :
    Calls Tryz.prog 86 #[.string s, .int .u8 c] w fun e w' => e = .returned (.int .i64 (Lib.indexByte s.data.toList c.toNat.toUInt8)) ∧ w' = w := by
  go_enter Tryz.func86, Tryz.ntmps86
  go_wp2_with fail
  refine (indexByte0_calls s c _).mono ?_
  rintro e w1 ⟨rfl, rfl⟩
  go_wp2_with fail
  go_ret
  exact ⟨rfl, rfl⟩
/-- The vowels; and the letters that stay twice. -/
def vow (c : Int) : Bool := decide (c = 97 ∨ c = 101 ∨ c = 105 ∨ c = 111 ∨ c = 117 ∨ c = 121)
def lsz (c : Int) : Bool := decide (c = 108 ∨ c = 115 ∨ c = 122)
theorem vow_index (c : Int) (h0 : 0 ≤ c) (h1 : c < 256) : (Lib.indexByte [97, 101, 105, 111, 117, 121] c.toNat.toUInt8 < 0) = (vow c = false) := by
  have h : ∀ a : Fin 256, (Lib.indexByte [97, 101, 105, 111, 117, 121] a.val.toUInt8 < 0) ↔ (vow (a.val : Int) = false) := by decide +kernel
  obtain ⟨n, rfl⟩ := Int.eq_ofNat_of_zero_le h0
  exact propext (h ⟨n, by omega⟩)
theorem lsz_index (c : Int) (h0 : 0 ≤ c) (h1 : c < 256) : (Lib.indexByte [108, 115, 122] c.toNat.toUInt8 < 0) = (lsz c = false) := by
  have h : ∀ a : Fin 256, (Lib.indexByte [108, 115, 122] a.val.toUInt8 < 0) ↔ (lsz (a.val : Int) = false) := by decide +kernel
  obtain ⟨n, rfl⟩ := Int.eq_ofNat_of_zero_le h0
  exact propext (h ⟨n, by omega⟩)
/-- strings.IndexByte in a constant text, against nought. -/
theorem index_calls (s : ByteArray) (c : Int) (q : Bool) (hq : (Lib.indexByte s.data.toList c.toNat.toUInt8 < 0) = (q = false)) (w : World) :
    Calls Tryz.prog 86 #[.string s, .int .u8 c] w fun e w' => (∃ i : Int, e = .returned (.int .i64 i) ∧ (q = true → 0 ≤ i) ∧ (q = false → i < 0)) ∧ w' = w := by
  refine (indexByte_calls s c w).mono ?_
  rintro e w1 ⟨rfl, rfl⟩
  refine ⟨⟨_, rfl, fun h => ?_, fun h => by rw [hq]; exact h⟩, rfl⟩
  have : ¬ Lib.indexByte s.data.toList c.toNat.toUInt8 < 0 := by rw [hq, h]; simp
  omega
set_option maxHeartbeats 400000 in
theorem vowel_calls (c : Int) (h0 : 0 ≤ c) (h1 : c < 256) (w : World) :
    Calls Tryz.prog 85 #[.int .u8 c] w fun e w' => e = .returned (.bool (vow c)) ∧ w' = w := by
  have c1 := index_calls { data := #[97, 101, 105, 111, 117, 121] } c (vow c) (vow_index c h0 h1)
  cases h : vow c
  · rw [h] at c1
    go_enter Tryz.func85, Tryz.ntmps85
    go_wp2_with fail
    refine (c1 _).mono ?_
    rintro e w1 ⟨⟨i, rfl, _, hi⟩, rfl⟩
    have hi : i < 0 := by simpa using hi
    go_wp2_with fail
    go_ret
    exact ⟨ret_bool (by simp; omega), rfl⟩
  · rw [h] at c1
    go_enter Tryz.func85, Tryz.ntmps85
    go_wp2_with fail
    refine (c1 _).mono ?_
    rintro e w1 ⟨⟨i, rfl, hi, _⟩, rfl⟩
    have hi : 0 ≤ i := by simpa using hi
    go_wp2_with fail
    go_ret
    exact ⟨rfl, rfl⟩
end Stem
end Go.Proofs.YtfohollhdaedlaaGreatDoor
/- The walks: stem.plain, vowels, plural. -/
set_option linter.unusedVariables false
set_option linter.unusedSimpArgs false
set_option maxRecDepth 100000
namespace Go.Proofs.YtfohollhdaedlaaGreatDoor
open Go.RowKit
namespace Stem

/-- Has a word letters a to z alone, four at least? -/
def az (s : ByteArray) (i : Nat) : Bool := decide (97 ≤ byt s i) && decide (byt s i ≤ 122)
def allAz (s : ByteArray) : Bool := (List.range s.size).all (az s)
def plainF (s : ByteArray) : Bool := allAz s && decide (4 ≤ s.size)
def vowelsF (s : ByteArray) : Bool := (List.range s.size).any fun i => vow (byt s i)
theorem allAz_false {s : ByteArray} {i : Nat} (h : i < s.size) (hz : az s i = false) : allAz s = false := by
  rw [allAz, List.all_eq_false]; exact ⟨i, by simpa using h, by simp [hz]⟩
theorem allAz_true {s : ByteArray} (h : ∀ i, i < s.size → az s i = true) : allAz s = true := by
  rw [allAz, List.all_eq_true]; exact fun i hi => h i (by simpa using hi)
theorem vowelsF_true {s : ByteArray} {i : Nat} (h : i < s.size) (hz : vow (byt s i) = true) : vowelsF s = true := by
  rw [vowelsF, List.any_eq_true]; exact ⟨i, by simpa using h, hz⟩
theorem vowelsF_false {s : ByteArray} (h : ∀ i, i < s.size → vow (byt s i) = false) : vowelsF s = false := by
  rw [vowelsF, List.any_eq_false]; exact fun i hi => by simp [h i (by simpa using hi)]

set_option maxHeartbeats 1000000 in
theorem plain_calls (s : ByteArray) (hs : s.size ≤ 140737488351232) (w : World) :
    Calls Tryz.prog 40 #[.string s] w fun e w' => e = .returned (.bool (plainF s)) ∧ Below w.heap.size w w' := by
  go_enter Tryz.func40, Tryz.ntmps40
  go_wp2_with (refine wpList_conv_bytes _ rfl 9 102 5 (.tmp 5) rfl s rfl Tryz.underlying9 Tryz.underlying102 Tryz.underlying5 ?_)
  intro w1 cap hb hsz hc
  have HB := Lib.hid hb
  have HC := Lib.hid hc
  clear hb hc hsz
  have HB0 : Hid (Below w.heap.size w w1) := HB.out
  clear HB
  generalize w.heap.size = g at HC ⊢
  go_wp2_with fail
  go_loopw [8] (fun ix wr => ∃ i : Nat, i ≤ s.size ∧ ix = .int .i64 i ∧ Hid (∀ j, j < i → az s j = true) ∧ w1 = wr) (fun ix _ => s.size - (intOf ix).toNat)
  case atStart => exact ⟨0, Nat.zero_le _, rfl, fun j hj => absurd hj (Nat.not_lt_zero j), rfl⟩
  case round =>
    obtain ⟨i, hi, rfl, HV, rfl⟩ := hrel
    by_cases hlt : i < s.size
    · have hcell := HC.out i hlt
      have hrg := byt_range s i
      by_cases h1 : byt s i < 97
      · have hz : allAz s = false := allAz_false hlt (by simp [az]; omega)
        have HZ := Lib.hid hz
        clear hz
        go_wp2_with fail
        go_ret
        exact ⟨ret_bool (by rw [plainF, HZ.out]; rfl), HB0.out⟩
      · by_cases h2 : 122 < byt s i
        · have hz : allAz s = false := allAz_false hlt (by simp [az]; omega)
          have HZ := Lib.hid hz
          clear hz
          go_wp2_with fail
          go_ret
          exact ⟨ret_bool (by rw [plainF, HZ.out]; rfl), HB0.out⟩
        · have HN : Hid (∀ j, j < i + 1 → az s j = true) := fun j hj => by
            rcases Nat.lt_or_ge j i with h3 | h3
            · exact HV.out j h3
            · obtain rfl : j = i := by omega
              simp [az]; omega
          go_wp2_with fail
          go_roundw
          case rel => exact ⟨i + 1, by omega, by go_num, HN, trivial⟩
          case measure => simp [intOf]; omega
    · have hz : allAz s = true := allAz_true fun j hj => HV.out j (by omega)
      have HZ := Lib.hid hz
      clear hz
      go_wp2_with fail
      go_ret
      exact ⟨ret_bool (by rw [plainF, HZ.out, Bool.true_and]; simp; omega), HB0.out⟩

set_option maxHeartbeats 1000000 in
theorem vowels_calls (s : ByteArray) (hs : s.size ≤ 140737488351232) (w : World) :
    Calls Tryz.prog 63 #[.string s] w fun e w' => e = .returned (.bool (vowelsF s)) ∧ Below w.heap.size w w' := by
  go_enter Tryz.func63, Tryz.ntmps63
  go_wp2_with (refine wpList_conv_bytes _ rfl 9 102 5 (.tmp 5) rfl s rfl Tryz.underlying9 Tryz.underlying102 Tryz.underlying5 ?_)
  intro w1 cap hb hsz hc
  have HB := Lib.hid hb
  have HC := Lib.hid hc
  clear hb hc hsz
  have HB0 : Hid (Below w.heap.size w w1) := HB.out
  clear HB
  generalize w.heap.size = g at HC ⊢
  go_wp2_with fail
  go_loopw [8] (fun ix wr => ∃ i : Nat, i ≤ s.size ∧ ix = .int .i64 i ∧ Hid (∀ j, j < i → vow (byt s j) = false) ∧ w1 = wr) (fun ix _ => s.size - (intOf ix).toNat)
  case atStart => exact ⟨0, Nat.zero_le _, rfl, fun j hj => absurd hj (Nat.not_lt_zero j), rfl⟩
  case round =>
    obtain ⟨i, hi, rfl, HV, rfl⟩ := hrel
    by_cases hlt : i < s.size
    · have hcell := HC.out i hlt
      have hrg := byt_range s i
      cases h1 : vow (byt s i)
      · have HN : Hid (∀ j, j < i + 1 → vow (byt s j) = false) := fun j hj => by
          rcases Nat.lt_or_ge j i with h3 | h3
          · exact HV.out j h3
          · obtain rfl : j = i := by omega
            exact h1
        go_wp2_with fail
        refine (vowel_calls _ hrg.1 hrg.2 _).mono ?_
        rw [h1]
        rintro e w2 ⟨rfl, rfl⟩
        go_wp2_with fail
        go_roundw
        case rel => exact ⟨i + 1, by omega, by go_num, HN, trivial⟩
        case measure => simp [intOf]; omega
      · have HZ := Lib.hid (vowelsF_true hlt h1)
        go_wp2_with fail
        refine (vowel_calls _ hrg.1 hrg.2 _).mono ?_
        rw [h1]
        rintro e w2 ⟨rfl, rfl⟩
        go_wp2_with fail
        go_ret
        exact ⟨ret_bool HZ.out.symm, HB0.out⟩
    · have hz : vowelsF s = false := vowelsF_false fun j hj => HV.out j (by omega)
      have HZ := Lib.hid hz
      clear hz
      go_wp2_with fail
      go_ret
      exact ⟨ret_bool HZ.out.symm, HB0.out⟩
end Stem
end Go.Proofs.YtfohollhdaedlaaGreatDoor
/- The walks: stem.plural. -/
set_option linter.unusedVariables false
set_option linter.unusedSimpArgs false
set_option maxRecDepth 100000
namespace Go.Proofs.YtfohollhdaedlaaGreatDoor
open Go.RowKit
namespace Stem
abbrev tSses : ByteArray := { data := #[115, 115, 101, 115] }
abbrev tIes : ByteArray := { data := #[105, 101, 115] }
abbrev tSs : ByteArray := { data := #[115, 115] }
abbrev tUs : ByteArray := { data := #[117, 115] }
abbrev tIs : ByteArray := { data := #[105, 115] }
abbrev tS : ByteArray := { data := #[115] }
abbrev tY : ByteArray := { data := #[121] }
def pluralF (s : ByteArray) : ByteArray :=
  if suf s tSses then less s 2 else if suf s tIes && decide (4 < s.size) then less s 3 ++ tY
  else if suf s tSs then s else if suf s tUs then s else if suf s tIs then s else if suf s tS then less s 1 else s

set_option maxHeartbeats 1000000 in
theorem plural_calls (s : ByteArray) (hs : s.size ≤ 140737488351232) (w : World) :
    Calls Tryz.prog 41 #[.string s] w fun e w' => e = .returned (.string (pluralF s)) ∧ w' = w := by
  have c1 := fun w => hasSuffix_calls s tSses hs (by decide) w
  have c2 := fun w => hasSuffix_calls s tIes hs (by decide) w
  have c3 := fun w => hasSuffix_calls s tSs hs (by decide) w
  have c4 := fun w => hasSuffix_calls s tUs hs (by decide) w
  have c5 := fun w => hasSuffix_calls s tIs hs (by decide) w
  have c6 : ∀ w, Calls Tryz.prog 61 #[.string s, .string tS] w fun e w' => e = .returned (.string (if suf s tS then less s 1 else s)) ∧ w' = w := fun w => trimSuffix_calls s tS hs (by decide) w
  cases h1 : suf s tSses
  · rw [h1] at c1
    by_cases h2 : (suf s tIes && decide (4 < s.size)) = true
    · have h2' := h2
      rw [Bool.and_eq_true, decide_eq_true_eq] at h2'
      obtain ⟨h3, h4⟩ := h2'
      rw [h3] at c2
      have hsl := slice_str_to Tryz.underlying9 s .i64 ((s.size : Int) - 3) (s.size - 3) (by omega) (by omega)
      have hv : pluralF s = less s 3 ++ tY := by rw [pluralF, if_neg (by rw [h1]; simp), if_pos h2]
      rw [hv]
      clear hv h1 h2 h3
      have h4' : (4 : Int) < s.size := by omega
      go_enter Tryz.func41, Tryz.ntmps41
      go_wp2_with fail
      refine (c1 _).mono ?_
      rintro e w1 ⟨rfl, rfl⟩
      go_wp2_with fail
      refine (c2 _).mono ?_
      rintro e w2 ⟨rfl, rfl⟩
      go_wp2_with fail
      go_ret
      exact ⟨rfl, rfl⟩
    · cases h3 : suf s tIes
      · rw [h3] at c2
        cases h5 : suf s tSs
        · rw [h5] at c3
          cases h6 : suf s tUs
          · rw [h6] at c4
            cases h7 : suf s tIs
            · rw [h7] at c5
              have hv : pluralF s = (if suf s tS then less s 1 else s) := by rw [pluralF, if_neg (by rw [h1]; simp), if_neg h2, if_neg (by rw [h5]; simp), if_neg (by rw [h6]; simp), if_neg (by rw [h7]; simp)]
              rw [hv]
              clear hv h1 h2
              generalize (if suf s tS then less s 1 else s) = q at c6 ⊢
              go_enter Tryz.func41, Tryz.ntmps41
              go_wp2_with fail
              refine (c1 _).mono ?_
              rintro e w1 ⟨rfl, rfl⟩
              go_wp2_with fail
              refine (c2 _).mono ?_
              rintro e w1 ⟨rfl, rfl⟩
              go_wp2_with fail
              refine (c3 _).mono ?_
              rintro e w1 ⟨rfl, rfl⟩
              go_wp2_with fail
              refine (c4 _).mono ?_
              rintro e w1 ⟨rfl, rfl⟩
              go_wp2_with fail
              refine (c5 _).mono ?_
              rintro e w1 ⟨rfl, rfl⟩
              go_wp2_with fail
              refine (c6 _).mono ?_
              rintro e w1 ⟨rfl, rfl⟩
              go_wp2_with fail
              go_ret
              exact ⟨rfl, rfl⟩
            · rw [h7] at c5
              have hv : pluralF s = s := by rw [pluralF, if_neg (by rw [h1]; simp), if_neg h2, if_neg (by rw [h5]; simp), if_neg (by rw [h6]; simp), if_pos h7]
              rw [hv]
              clear hv h1 h2
              go_enter Tryz.func41, Tryz.ntmps41
              go_wp2_with fail
              refine (c1 _).mono ?_
              rintro e w1 ⟨rfl, rfl⟩
              go_wp2_with fail
              refine (c2 _).mono ?_
              rintro e w1 ⟨rfl, rfl⟩
              go_wp2_with fail
              refine (c3 _).mono ?_
              rintro e w1 ⟨rfl, rfl⟩
              go_wp2_with fail
              refine (c4 _).mono ?_
              rintro e w1 ⟨rfl, rfl⟩
              go_wp2_with fail
              refine (c5 _).mono ?_
              rintro e w1 ⟨rfl, rfl⟩
              go_wp2_with fail
              go_ret
              exact ⟨rfl, rfl⟩
          · rw [h6] at c4
            have hv : pluralF s = s := by rw [pluralF, if_neg (by rw [h1]; simp), if_neg h2, if_neg (by rw [h5]; simp), if_pos h6]
            rw [hv]
            clear hv h1 h2
            go_enter Tryz.func41, Tryz.ntmps41
            go_wp2_with fail
            refine (c1 _).mono ?_
            rintro e w1 ⟨rfl, rfl⟩
            go_wp2_with fail
            refine (c2 _).mono ?_
            rintro e w1 ⟨rfl, rfl⟩
            go_wp2_with fail
            refine (c3 _).mono ?_
            rintro e w1 ⟨rfl, rfl⟩
            go_wp2_with fail
            refine (c4 _).mono ?_
            rintro e w1 ⟨rfl, rfl⟩
            go_wp2_with fail
            go_ret
            exact ⟨rfl, rfl⟩
        · rw [h5] at c3
          have hv : pluralF s = s := by rw [pluralF, if_neg (by rw [h1]; simp), if_neg h2, if_pos h5]
          rw [hv]
          clear hv h1 h2
          go_enter Tryz.func41, Tryz.ntmps41
          go_wp2_with fail
          refine (c1 _).mono ?_
          rintro e w1 ⟨rfl, rfl⟩
          go_wp2_with fail
          refine (c2 _).mono ?_
          rintro e w1 ⟨rfl, rfl⟩
          go_wp2_with fail
          refine (c3 _).mono ?_
          rintro e w1 ⟨rfl, rfl⟩
          go_wp2_with fail
          go_ret
          exact ⟨rfl, rfl⟩
      · rw [h3] at c2
        have h4 : (s.size : Int) ≤ 4 := by
          rw [h3, Bool.true_and, decide_eq_true_eq] at h2; omega
        cases h5 : suf s tSs
        · rw [h5] at c3
          cases h6 : suf s tUs
          · rw [h6] at c4
            cases h7 : suf s tIs
            · rw [h7] at c5
              have hv : pluralF s = (if suf s tS then less s 1 else s) := by rw [pluralF, if_neg (by rw [h1]; simp), if_neg h2, if_neg (by rw [h5]; simp), if_neg (by rw [h6]; simp), if_neg (by rw [h7]; simp)]
              rw [hv]
              clear hv h1 h2
              generalize (if suf s tS then less s 1 else s) = q at c6 ⊢
              go_enter Tryz.func41, Tryz.ntmps41
              go_wp2_with fail
              refine (c1 _).mono ?_
              rintro e w1 ⟨rfl, rfl⟩
              go_wp2_with fail
              refine (c2 _).mono ?_
              rintro e w1 ⟨rfl, rfl⟩
              go_wp2_with fail
              refine (c3 _).mono ?_
              rintro e w1 ⟨rfl, rfl⟩
              go_wp2_with fail
              refine (c4 _).mono ?_
              rintro e w1 ⟨rfl, rfl⟩
              go_wp2_with fail
              refine (c5 _).mono ?_
              rintro e w1 ⟨rfl, rfl⟩
              go_wp2_with fail
              refine (c6 _).mono ?_
              rintro e w1 ⟨rfl, rfl⟩
              go_wp2_with fail
              go_ret
              exact ⟨rfl, rfl⟩
            · rw [h7] at c5
              have hv : pluralF s = s := by rw [pluralF, if_neg (by rw [h1]; simp), if_neg h2, if_neg (by rw [h5]; simp), if_neg (by rw [h6]; simp), if_pos h7]
              rw [hv]
              clear hv h1 h2
              go_enter Tryz.func41, Tryz.ntmps41
              go_wp2_with fail
              refine (c1 _).mono ?_
              rintro e w1 ⟨rfl, rfl⟩
              go_wp2_with fail
              refine (c2 _).mono ?_
              rintro e w1 ⟨rfl, rfl⟩
              go_wp2_with fail
              refine (c3 _).mono ?_
              rintro e w1 ⟨rfl, rfl⟩
              go_wp2_with fail
              refine (c4 _).mono ?_
              rintro e w1 ⟨rfl, rfl⟩
              go_wp2_with fail
              refine (c5 _).mono ?_
              rintro e w1 ⟨rfl, rfl⟩
              go_wp2_with fail
              go_ret
              exact ⟨rfl, rfl⟩
          · rw [h6] at c4
            have hv : pluralF s = s := by rw [pluralF, if_neg (by rw [h1]; simp), if_neg h2, if_neg (by rw [h5]; simp), if_pos h6]
            rw [hv]
            clear hv h1 h2
            go_enter Tryz.func41, Tryz.ntmps41
            go_wp2_with fail
            refine (c1 _).mono ?_
            rintro e w1 ⟨rfl, rfl⟩
            go_wp2_with fail
            refine (c2 _).mono ?_
            rintro e w1 ⟨rfl, rfl⟩
            go_wp2_with fail
            refine (c3 _).mono ?_
            rintro e w1 ⟨rfl, rfl⟩
            go_wp2_with fail
            refine (c4 _).mono ?_
            rintro e w1 ⟨rfl, rfl⟩
            go_wp2_with fail
            go_ret
            exact ⟨rfl, rfl⟩
        · rw [h5] at c3
          have hv : pluralF s = s := by rw [pluralF, if_neg (by rw [h1]; simp), if_neg h2, if_pos h5]
          rw [hv]
          clear hv h1 h2
          go_enter Tryz.func41, Tryz.ntmps41
          go_wp2_with fail
          refine (c1 _).mono ?_
          rintro e w1 ⟨rfl, rfl⟩
          go_wp2_with fail
          refine (c2 _).mono ?_
          rintro e w1 ⟨rfl, rfl⟩
          go_wp2_with fail
          refine (c3 _).mono ?_
          rintro e w1 ⟨rfl, rfl⟩
          go_wp2_with fail
          go_ret
          exact ⟨rfl, rfl⟩
  · rw [h1] at c1
    have hle := suf_le h1
    have h4 : 4 ≤ s.size := hle
    have hsl := slice_str_to Tryz.underlying9 s .i64 ((s.size : Int) - 2) (s.size - 2) (by omega) (by omega)
    have hv : pluralF s = less s 2 := by rw [pluralF, if_pos h1]
    rw [hv]
    clear hv h1
    go_enter Tryz.func41, Tryz.ntmps41
    go_wp2_with fail
    refine (c1 _).mono ?_
    rintro e w1 ⟨rfl, rfl⟩
    go_wp2_with fail
    go_ret
    exact ⟨rfl, rfl⟩
end Stem
end Go.Proofs.YtfohollhdaedlaaGreatDoor
/- The walks: stem.twin. -/
set_option linter.unusedVariables false
set_option linter.unusedSimpArgs false
set_option maxRecDepth 100000
namespace Go.Proofs.YtfohollhdaedlaaGreatDoor
open Go.RowKit
namespace Stem
def isTwin (s : ByteArray) : Bool := decide (2 ≤ s.size) && decide (byt s (s.size - 1) = byt s (s.size - 2)) && !vow (byt s (s.size - 1)) && !lsz (byt s (s.size - 1))
def twinF (s : ByteArray) : ByteArray := if isTwin s then less s 1 else s

theorem idx_str {P : Program} {t : TypeId} (h : P.underlying t = some .string) (s : ByteArray) (k : IntKind) (i : Nat) (x : Int) (hx : x = i) (hlt : i < s.size) (W : World) :
    (Instr.index t (.string s) (.int k x)).run P W = .ok (.int .u8 (byt s i)) W := by
  subst hx
  rw [run_index_string W t s k _ h, dif_pos ⟨by omega, by omega⟩]
  simp [byt, hlt]
set_option maxHeartbeats 2000000 in
theorem twin_calls (s : ByteArray) (h2 : 2 ≤ s.size) (hs : s.size ≤ 140737488351232) (w : World) :
    Calls Tryz.prog 64 #[.string s] w fun e w' => e = .returned (.string (twinF s)) ∧ Below w.heap.size w w' := by
  obtain ⟨n, hn⟩ : ∃ n : Nat, s.size = n + 2 := ⟨s.size - 2, by omega⟩
  have e1 := byt_at s (n + 1) (by omega)
  have e2 := byt_at s n (by omega)
  have r1 := byt_range s (n + 1)
  have r2 := byt_range s n
  generalize ha : byt s (n + 1) = a at *
  generalize hb : byt s n = b at *
  have hd : decide ((n : Int) + 2 < 2) = false := by simp; omega
  have hw1 : IntKind.i64.wrap ((n : Int) + 2 - 1) = ((n + 1 : Nat) : Int) := by rw [IntKind.wrap_i64]; omega
  have hw2 : IntKind.i64.wrap (n : Int) = (n : Int) := by rw [IntKind.wrap_i64]; omega
  have hn1 : n + 1 < s.size := by omega
  have hn2 : n < s.size := by omega
  have hix1 := idx_str (P := Tryz.prog) Tryz.underlying9 s .i64 (n + 1) ((n : Int) + 1) (by omega) hn1
  have hix2 := idx_str (P := Tryz.prog) Tryz.underlying9 s .i64 n (n : Int) rfl hn2
  rw [ha] at hix1
  rw [hb] at hix2
  have hT : isTwin s = (decide (a = b) && !vow a && !lsz a) := by
    simp only [isTwin, hn, show n + 2 - 1 = n + 1 by omega, show n + 2 - 2 = n by omega, ha, hb]; simp
  by_cases hab : a = b
  · subst hab
    have hbn : (a != a) = false := by simp
    have cv := fun W => vowel_calls a r1.1 r1.2 W
    have ci := fun W => indexByte_calls { data := #[108, 115, 122] } a W
    have hl := lsz_index a r1.1 r1.2
    have hl2 : (Lib.indexByte ({ data := #[108, 115, 122] } : ByteArray).data.toList a.toNat.toUInt8 < 0) = (lsz a = false) := hl
    generalize Lib.indexByte ({ data := #[108, 115, 122] } : ByteArray).data.toList a.toNat.toUInt8 = i at ci hl2
    clear hl
    cases h1 : vow a
    · rw [h1] at cv
      cases h3 : lsz a
      · rw [h3] at hl2
        have hi : i < 0 := by rw [hl2]
        have hv : twinF s = less s 1 := by rw [twinF, hT, h1, h3]; simp
        rw [hv]
        clear hv hT
        have hsl := slice_str_to Tryz.underlying9 s .i64 ((n : Int) + 1) (n + 1) (by omega) (by omega)
        have hls : less s 1 = s.extract 0 (n + 1) := by rw [less, hn]; rfl
        rw [hls]
        go_enter Tryz.func64, Tryz.ntmps64
        go_wp2_with fail
        go_quiet (first | (go_at_call 85; exact Calls.quiet_of_same (cv _)) | (go_at_call 86; exact Calls.quiet_of_same (ci _)))
        go_wp2_with fail
        go_ret
        exact ⟨rfl, below_drewN (Below.refl _ _) _⟩
      · rw [h3] at hl2
        have hi : 0 ≤ i := by
          have : ¬ i < 0 := by rw [hl2]; simp
          omega
        have hv : twinF s = s := by rw [twinF, hT, h1, h3]; simp
        rw [hv]
        clear hv hT
        go_enter Tryz.func64, Tryz.ntmps64
        go_wp2_with fail
        go_quiet (first | (go_at_call 85; exact Calls.quiet_of_same (cv _)) | (go_at_call 86; exact Calls.quiet_of_same (ci _)))
        go_wp2_with fail
        go_ret
        exact ⟨rfl, below_drewN (Below.refl _ _) _⟩
    · rw [h1] at cv
      have hv : twinF s = s := by rw [twinF, hT, h1]; simp
      rw [hv]
      clear hv hT
      go_enter Tryz.func64, Tryz.ntmps64
      go_wp2_with fail
      go_quiet (first | (go_at_call 85; exact Calls.quiet_of_same (cv _)) | (go_at_call 86; exact Calls.quiet_of_same (ci _)))
      go_wp2_with fail
      go_ret
      exact ⟨rfl, below_drewN (Below.refl _ _) _⟩
  · have hbn : (a != b) = true := by simp [hab]
    have hv : twinF s = s := by
      rw [twinF, hT]; simp [hab]
    rw [hv]
    clear hv hT
    go_enter Tryz.func64, Tryz.ntmps64
    go_wp2_with fail
    go_quiet (fail)
    go_wp2_with fail
    go_ret
    exact ⟨rfl, below_drewN (Below.refl _ _) _⟩
end Stem
end Go.Proofs.YtfohollhdaedlaaGreatDoor
/- The walks: stem.past. Written by stem5.py. -/
set_option linter.unusedVariables false
set_option linter.unusedSimpArgs false
set_option maxRecDepth 100000
namespace Go.Proofs.YtfohollhdaedlaaGreatDoor
open Go.RowKit
namespace Stem
abbrev tIng : ByteArray := { data := #[105, 110, 103] }
abbrev tEd : ByteArray := { data := #[101, 100] }
/-- Does an end go: three letters are left, and a vowel? -/
def gone (s e : ByteArray) : Bool := suf s e && decide (3 ≤ (less s e.size).size) && vowelsF (less s e.size)
theorem gone_k (s e : ByteArray) (k : Nat) (hk : e.size = k) : gone s e = (suf s e && decide (3 ≤ (less s k).size) && vowelsF (less s k)) := by subst hk; rfl
def pastF (s : ByteArray) : ByteArray := if gone s tIng then twinF (less s 3) else if gone s tEd then twinF (less s 2) else s

set_option maxHeartbeats 2000000 in
theorem past_calls (s : ByteArray) (hs : s.size ≤ 140737488351232) (w : World) :
    Calls Tryz.prog 42 #[.string s] w fun e w' => e = .returned (.string (pastF s)) ∧ Below w.heap.size w w' := by
  go_enter Tryz.func42, Tryz.ntmps42
  go_wp2_with fail
  have hb1 : Below w.heap.size w (w.alloc (.cells #[.string tIng, .string tEd] 9 (0, 0))) := (Below.refl _ _).alloc (Nat.le_refl _) _
  have hz : (w.alloc (.cells #[.string tIng, .string tEd] 9 (0, 0))).heap[w.heap.size]? = some (.cells #[.string tIng, .string tEd] 9 (0, 0)) := heap_alloc_new _ _
  have HB1 := Lib.hid hb1
  have HZ := Lib.hid hz
  have hs1 := hb1.size
  have hlt := (Array.getElem?_eq_some_iff.1 hz).1
  clear hb1 hz
  generalize (w.alloc (.cells #[.string tIng, .string tEd] 9 (0, 0))) = w1 at *
  generalize hg : w.heap.size = g at *
  go_loopw [9] (fun ix wr => ∃ i : Nat, i ≤ 2 ∧ ix = .int .i64 i ∧ Hid ((1 ≤ i → gone s tIng = false) ∧ (2 ≤ i → gone s tEd = false)) ∧ Below w1.heap.size w1 wr) (fun ix _ => 2 - (intOf ix).toNat)
  case atStart => exact ⟨0, by decide, rfl, ⟨fun h => absurd h (by decide), fun h => absurd h (by decide)⟩, Below.refl _ _⟩
  case round =>
    obtain ⟨i, hi, rfl, HG, hb⟩ := hrel
    have HB := Lib.hid hb
    have hv1 : wr.heap[g]? = some (.cells #[.string tIng, .string tEd] 9 (0, 0)) := by rw [hb.block _ hlt]; exact HZ.out
    have hc0 : wr.cell? ⟨g, 0, none⟩ = some (.string tIng) := by simp [World.cell?, hv1]
    have hc1 : wr.cell? ⟨g, 1, none⟩ = some (.string tEd) := by simp [World.cell?, hv1]
    have HBB : Hid (Below g w wr) := HB1.out.trans (hb.mono (by omega))
    have hbs := hb.size
    clear hb hv1
    have hii : i = 0 ∨ i = 1 ∨ i = 2 := by omega
    rcases hii with rfl | rfl | rfl
    · have c1 := fun W => cutSuffix_calls s tIng hs (by decide) W
      cases h1 : suf s tIng
      · have HN : Hid (gone s tIng = false) := by show gone s tIng = false; rw [gone_k s tIng 3 rfl, h1]; rfl
        rw [h1] at c1
        go_wp2_with fail
        refine (c1 _).mono ?_
        rintro e w2 ⟨rfl, rfl⟩
        go_wp2_with fail
        go_roundw
        case rel => exact ⟨1, by decide, rfl, ⟨fun _ => HN.out, fun h => absurd h (by decide)⟩, HB.out⟩
        case measure => simp [intOf]
      · have hle := suf_le h1
        have hls : (less s 3).size = s.size - 3 := by rw [less, ByteArray.size_extract]; omega
        have c2 : ∀ W, Calls Tryz.prog 62 #[.string s, .string tIng] W fun e w' => e = .returned (.tuple #[.string (less s 3), .bool true]) ∧ w' = W := fun W => by
          have := c1 W
          rw [h1] at this
          exact this
        clear c1
        by_cases h3 : 3 ≤ (less s 3).size
        · have h3' : (3 : Int) ≤ (less s 3).size := by omega
          have hlim : (less s 3).size ≤ 140737488351232 := by omega
          cases h4 : vowelsF (less s 3)
          · have HN : Hid (gone s tIng = false) := by show gone s tIng = false; rw [gone_k s tIng 3 rfl, h4, Bool.and_false]
            generalize hq : less s 3 = q at *
            go_wp2_with fail
            refine (c2 _).mono ?_
            rintro e w2 ⟨rfl, rfl⟩
            go_wp2_with fail
            refine (vowels_calls q hlim _).mono ?_
            rw [h4]
            rintro e w3 ⟨rfl, hb3⟩
            have HB3 := Lib.hid (HB.out.trans (hb3.mono HB.out.size))
            have HBW := Lib.hid (HBB.out.trans (hb3.mono (by omega)))
            clear hb3
            go_wp2_with fail
            go_roundw
            case rel => exact ⟨1, by decide, rfl, ⟨fun _ => HN.out, fun h => absurd h (by decide)⟩, HB3.out⟩
            case measure => simp [intOf]
          · have hv : pastF s = twinF (less s 3) := by rw [pastF, if_pos (by rw [gone_k s tIng 3 rfl, h1, h4, decide_eq_true h3]; rfl)]
            have HV := Lib.hid hv
            clear hv
            generalize hq : less s 3 = q at *
            go_wp2_with fail
            refine (c2 _).mono ?_
            rintro e w2 ⟨rfl, rfl⟩
            go_wp2_with fail
            refine (vowels_calls q hlim _).mono ?_
            rw [h4]
            rintro e w3 ⟨rfl, hb3⟩
            have HBW := Lib.hid (HBB.out.trans (hb3.mono (by omega)))
            clear hb3
            go_wp2_with fail
            refine (twin_calls q (by omega) hlim _).mono ?_
            rintro e w4 ⟨rfl, hb4⟩
            go_wp2_with fail
            go_ret
            exact ⟨ret_string HV.out.symm, by rw [hg]; exact HBW.out.trans (hb4.mono (by have := HBW.out.size; omega))⟩
        · have h3' : ((less s 3).size : Int) < 3 := by omega
          have HN : Hid (gone s tIng = false) := by show gone s tIng = false; rw [gone_k s tIng 3 rfl, decide_eq_false h3]; simp
          generalize hq : less s 3 = q at *
          go_wp2_with fail
          refine (c2 _).mono ?_
          rintro e w2 ⟨rfl, rfl⟩
          go_wp2_with fail
          go_roundw
          case rel => exact ⟨1, by decide, rfl, ⟨fun _ => HN.out, fun h => absurd h (by decide)⟩, HB.out⟩
          case measure => simp [intOf]
    · have c1 := fun W => cutSuffix_calls s tEd hs (by decide) W
      cases h1 : suf s tEd
      · have HN : Hid (gone s tEd = false) := by show gone s tEd = false; rw [gone_k s tEd 2 rfl, h1]; rfl
        rw [h1] at c1
        go_wp2_with fail
        refine (c1 _).mono ?_
        rintro e w2 ⟨rfl, rfl⟩
        go_wp2_with fail
        go_roundw
        case rel => exact ⟨2, by decide, rfl, ⟨fun _ => HG.out.1 (by decide), fun _ => HN.out⟩, HB.out⟩
        case measure => simp [intOf]
      · have hle := suf_le h1
        have hls : (less s 2).size = s.size - 2 := by rw [less, ByteArray.size_extract]; omega
        have c2 : ∀ W, Calls Tryz.prog 62 #[.string s, .string tEd] W fun e w' => e = .returned (.tuple #[.string (less s 2), .bool true]) ∧ w' = W := fun W => by
          have := c1 W
          rw [h1] at this
          exact this
        clear c1
        by_cases h3 : 3 ≤ (less s 2).size
        · have h3' : (3 : Int) ≤ (less s 2).size := by omega
          have hlim : (less s 2).size ≤ 140737488351232 := by omega
          cases h4 : vowelsF (less s 2)
          · have HN : Hid (gone s tEd = false) := by show gone s tEd = false; rw [gone_k s tEd 2 rfl, h4, Bool.and_false]
            generalize hq : less s 2 = q at *
            go_wp2_with fail
            refine (c2 _).mono ?_
            rintro e w2 ⟨rfl, rfl⟩
            go_wp2_with fail
            refine (vowels_calls q hlim _).mono ?_
            rw [h4]
            rintro e w3 ⟨rfl, hb3⟩
            have HB3 := Lib.hid (HB.out.trans (hb3.mono HB.out.size))
            have HBW := Lib.hid (HBB.out.trans (hb3.mono (by omega)))
            clear hb3
            go_wp2_with fail
            go_roundw
            case rel => exact ⟨2, by decide, rfl, ⟨fun _ => HG.out.1 (by decide), fun _ => HN.out⟩, HB3.out⟩
            case measure => simp [intOf]
          · have hv : pastF s = twinF (less s 2) := by rw [pastF, if_neg (by rw [HG.out.1 (by decide)]; simp), if_pos (by rw [gone_k s tEd 2 rfl, h1, h4, decide_eq_true h3]; rfl)]
            have HV := Lib.hid hv
            clear hv
            generalize hq : less s 2 = q at *
            go_wp2_with fail
            refine (c2 _).mono ?_
            rintro e w2 ⟨rfl, rfl⟩
            go_wp2_with fail
            refine (vowels_calls q hlim _).mono ?_
            rw [h4]
            rintro e w3 ⟨rfl, hb3⟩
            have HBW := Lib.hid (HBB.out.trans (hb3.mono (by omega)))
            clear hb3
            go_wp2_with fail
            refine (twin_calls q (by omega) hlim _).mono ?_
            rintro e w4 ⟨rfl, hb4⟩
            go_wp2_with fail
            go_ret
            exact ⟨ret_string HV.out.symm, by rw [hg]; exact HBW.out.trans (hb4.mono (by have := HBW.out.size; omega))⟩
        · have h3' : ((less s 2).size : Int) < 3 := by omega
          have HN : Hid (gone s tEd = false) := by show gone s tEd = false; rw [gone_k s tEd 2 rfl, decide_eq_false h3]; simp
          generalize hq : less s 2 = q at *
          go_wp2_with fail
          refine (c2 _).mono ?_
          rintro e w2 ⟨rfl, rfl⟩
          go_wp2_with fail
          go_roundw
          case rel => exact ⟨2, by decide, rfl, ⟨fun _ => HG.out.1 (by decide), fun _ => HN.out⟩, HB.out⟩
          case measure => simp [intOf]
    · have hv : pastF s = s := by rw [pastF, if_neg (by rw [HG.out.1 (by decide)]; simp), if_neg (by rw [HG.out.2 (by decide)]; simp)]
      go_wp2_with fail
      go_ret
      exact ⟨ret_string hv.symm, by rw [hg]; exact HBB.out⟩
end Stem
end Go.Proofs.YtfohollhdaedlaaGreatDoor
/- The walks: stem.Stop, stem.other (the listed tables). -/
set_option linter.unusedVariables false
set_option linter.unusedSimpArgs false
set_option maxRecDepth 100000
namespace Go.Proofs.YtfohollhdaedlaaGreatDoor
open Go.RowKit
namespace Stem
/-- The tables, as the program's text lays them. -/
def shortTab : List ByteArray := [⟨#[97]⟩, ⟨#[97, 110]⟩, ⟨#[97, 110, 100]⟩, ⟨#[97, 115]⟩, ⟨#[97, 116]⟩, ⟨#[98, 101]⟩, ⟨#[98, 121]⟩, ⟨#[102, 111, 114]⟩, ⟨#[105, 110]⟩, ⟨#[105, 115]⟩, ⟨#[105, 116]⟩, ⟨#[111, 102]⟩, ⟨#[111, 110]⟩, ⟨#[111, 114]⟩, ⟨#[116, 104, 101]⟩, ⟨#[116, 111]⟩]
def endsTab : List (ByteArray × ByteArray) := [(⟨#[105, 122, 97, 116, 105, 111, 110]⟩, ⟨#[105, 122, 101]⟩), (⟨#[97, 116, 105, 111, 110]⟩, ⟨#[97, 116, 101]⟩), (⟨#[102, 117, 108, 108, 121]⟩, ⟨#[102, 117, 108]⟩), (⟨#[110, 101, 115, 115]⟩, ⟨#[]⟩), (⟨#[109, 101, 110, 116]⟩, ⟨#[]⟩), (⟨#[97, 108, 108, 121]⟩, ⟨#[97, 108]⟩), (⟨#[108, 121]⟩, ⟨#[]⟩)]
def shortCells : Array Value := (shortTab.map Value.string).toArray
def endsCells : Array Value := ((endsTab.map fun x => [Value.string x.1, .string x.2]).flatten).toArray
def LaidS (w : World) : Prop := ∃ t, w.heap[0]? = some (.cells shortCells t (0, 0))
def LaidE (w : World) : Prop := ∃ t, w.heap[1]? = some (.cells endsCells t (0, 0))
theorem LaidS.below {w w' : World} (h : LaidS w) (hb : Below w.heap.size w w') : LaidS w' := by
  obtain ⟨t, h⟩ := h
  exact ⟨t, by rw [hb.block _ (Array.getElem?_eq_some_iff.1 h).1]; exact h⟩
theorem LaidE.below {w w' : World} (h : LaidE w) (hb : Below w.heap.size w w') : LaidE w' := by
  obtain ⟨t, h⟩ := h
  exact ⟨t, by rw [hb.block _ (Array.getElem?_eq_some_iff.1 h).1]; exact h⟩
theorem shortIdx (W : World) (k : Nat) (hk : k < 16) : (Instr.index 84 (.agg shortCells) (.int .i64 (k : Nat))).run Tryz.prog W = .ok (.string (shortTab.getD k ⟨#[]⟩)) W := by
  have h : k = 0 ∨ k = 1 ∨ k = 2 ∨ k = 3 ∨ k = 4 ∨ k = 5 ∨ k = 6 ∨ k = 7 ∨ k = 8 ∨ k = 9 ∨ k = 10 ∨ k = 11 ∨ k = 12 ∨ k = 13 ∨ k = 14 ∨ k = 15 := by omega
  clear hk
  rcases h with rfl | rfl | rfl | rfl | rfl | rfl | rfl | rfl | rfl | rfl | rfl | rfl | rfl | rfl | rfl | rfl <;> (show _ = _; kernel_rfl)
def stopF (s : ByteArray) : Bool := shortTab.any fun x => decide (s = x)
theorem stopF_true {s : ByteArray} {k : Nat} (hk : k < 16) (h : s = shortTab.getD k ⟨#[]⟩) : stopF s = true := by
  rw [stopF, List.any_eq_true]
  refine ⟨s, ?_, by simp⟩
  rw [h, List.getD_eq_getElem?_getD, List.getElem?_eq_getElem (show k < shortTab.length from hk)]
  exact List.getElem_mem _
theorem stopF_false {s : ByteArray} (h : ∀ j, j < 16 → s ≠ shortTab.getD j ⟨#[]⟩) : stopF s = false := by
  rw [stopF, List.any_eq_false]
  intro x hx hc
  obtain ⟨j, hj, rfl⟩ := List.getElem_of_mem hx
  refine h j hj ?_
  rw [List.getD_eq_getElem?_getD, List.getElem?_eq_getElem hj]
  simpa using hc
theorem infoShort : (Tryz.prog.info? 84).map (·.size) = some 16 := by kernel_rfl
theorem shortSize : shortCells.size = 16 := by decide
theorem eq_str (s x : ByteArray) (h : s ≠ x) : (s.toList == x.toList) = false := by rw [toList_beq]; simp [h]

set_option maxHeartbeats 1000000 in
theorem stop_calls (s : ByteArray) (w : World) (hL : LaidS w) :
    Calls Tryz.prog 28 #[.string s] w fun e w' => e = .returned (.bool (stopF s)) ∧ w' = w := by
  obtain ⟨t, ht⟩ := hL
  have HT := Lib.hid ht
  clear ht
  go_enter Tryz.func28, Tryz.ntmps28
  go_wp2_with (with_reducible refine wpList_load_row rfl 84 (.global 0) rfl 0 rfl t shortCells (0, 0) _ HT.out Tryz.underlying84 rfl (by rw [infoShort, shortSize]) ?_)
  go_loopw [6] (fun ix wr => ∃ k : Nat, k ≤ 16 ∧ ix = .int .i64 k ∧ Hid (∀ j, j < k → s ≠ shortTab.getD j ⟨#[]⟩) ∧ w = wr) (fun ix _ => 16 - (intOf ix).toNat)
  case atStart => exact ⟨0, Nat.zero_le _, rfl, fun j hj => absurd hj (Nat.not_lt_zero j), rfl⟩
  case round =>
    obtain ⟨k, hk, rfl, HV, rfl⟩ := hrel
    by_cases hlt : k < 16
    · have hidx := fun W => shortIdx W k hlt
      have HQ : Hid (s = shortTab.getD k ⟨#[]⟩ → stopF s = true) := fun h => stopF_true hlt h
      have HN : Hid (s ≠ shortTab.getD k ⟨#[]⟩ → ∀ j, j < k + 1 → s ≠ shortTab.getD j ⟨#[]⟩) := fun h j hj => by
        rcases Nat.lt_or_ge j k with h3 | h3
        · exact HV.out j h3
        · obtain rfl : j = k := by omega
          exact h
      generalize shortTab.getD k ⟨#[]⟩ = x at hidx HQ HN
      by_cases hx : s = x
      · have HZ := Lib.hid (HQ.out hx)
        subst hx
        go_wp2_with fail
        go_ret
        exact ⟨ret_bool HZ.out.symm, rfl⟩
      · have hne := eq_str s x hx
        have HN2 : Hid (∀ j, j < k + 1 → s ≠ shortTab.getD j ⟨#[]⟩) := HN.out hx
        clear hx
        go_wp2_with fail
        go_roundw
        case rel => exact ⟨k + 1, by omega, by go_num, HN2.out, trivial⟩
        case measure => simp [intOf]; omega
    · have HZ := Lib.hid (stopF_false (s := s) fun j hj => HV.out j (by omega))
      go_wp2_with fail
      go_ret
      exact ⟨ret_bool HZ.out.symm, rfl⟩
end Stem
end Go.Proofs.YtfohollhdaedlaaGreatDoor
/- The walks: stem.other. -/
set_option linter.unusedVariables false
set_option linter.unusedSimpArgs false
set_option maxRecDepth 100000
namespace Go.Proofs.YtfohollhdaedlaaGreatDoor
open Go.RowKit
namespace Stem
def otherL : List (ByteArray × ByteArray) → ByteArray → ByteArray
  | [], s => s
  | x :: r, s => if suf s x.1 && decide (3 ≤ (less s x.1.size).size) then less s x.1.size ++ x.2 else otherL r s
def otherF (s : ByteArray) : ByteArray := otherL endsTab s
abbrev noEnd : ByteArray × ByteArray := (⟨#[]⟩, ⟨#[]⟩)
theorem endsIdx (W : World) (k : Nat) (hk : k < 7) : (Instr.index 111 (.agg endsCells) (.int .i64 (k : Nat))).run Tryz.prog W = .ok (.agg #[.string (endsTab.getD k noEnd).1, .string (endsTab.getD k noEnd).2]) W := by
  have h : k = 0 ∨ k = 1 ∨ k = 2 ∨ k = 3 ∨ k = 4 ∨ k = 5 ∨ k = 6 := by omega
  clear hk
  rcases h with rfl | rfl | rfl | rfl | rfl | rfl | rfl <;> (show _ = _; kernel_rfl)
theorem ends_small (k : Nat) : (endsTab.getD k noEnd).1.size ≤ 7 ∧ (endsTab.getD k noEnd).2.size ≤ 7 := by
  by_cases h : k < 7
  · have h : k = 0 ∨ k = 1 ∨ k = 2 ∨ k = 3 ∨ k = 4 ∨ k = 5 ∨ k = 6 := by omega
    rcases h with rfl | rfl | rfl | rfl | rfl | rfl | rfl <;> decide
  · rw [List.getD_eq_getElem?_getD, List.getElem?_eq_none (show endsTab.length ≤ k by show 7 ≤ k; omega)]; decide
theorem infoEnds : (Tryz.prog.info? 111).map (·.size) = some 14 := by kernel_rfl
theorem endsSize : endsCells.size = 14 := by decide
theorem other_step (s : ByteArray) (k : Nat) (hk : k < 7) : otherL (endsTab.drop k) s = if suf s (endsTab.getD k noEnd).1 && decide (3 ≤ (less s (endsTab.getD k noEnd).1.size).size) then less s (endsTab.getD k noEnd).1.size ++ (endsTab.getD k noEnd).2 else otherL (endsTab.drop (k + 1)) s := by
  have hl : k < endsTab.length := hk
  rw [List.drop_eq_getElem_cons hl, List.getD_eq_getElem?_getD, List.getElem?_eq_getElem hl]; rfl

set_option maxHeartbeats 2000000 in
theorem other_calls (s : ByteArray) (hs : s.size ≤ 140737488351232) (w : World) (hL : LaidE w) :
    Calls Tryz.prog 43 #[.string s] w fun e w' => e = .returned (.string (otherF s)) ∧ Below w.heap.size w w' := by
  obtain ⟨t, ht⟩ := hL
  have HT := Lib.hid ht
  clear ht
  go_enter Tryz.func43, Tryz.ntmps43
  go_wp2_with (with_reducible refine wpList_load_row rfl 111 (.global 1) rfl 1 rfl t endsCells (0, 0) _ HT.out Tryz.underlying111 rfl (by rw [infoEnds, endsSize]) ?_)
  go_loopw [8] (fun ix wr => ∃ k : Nat, k ≤ 7 ∧ ix = .int .i64 k ∧ Hid (otherL (endsTab.drop k) s = otherF s) ∧ Below w.heap.size w wr) (fun ix _ => 7 - (intOf ix).toNat)
  case atStart => exact ⟨0, Nat.zero_le _, rfl, rfl, Below.refl _ _⟩
  case round =>
    obtain ⟨k, hk, rfl, HV, hb⟩ := hrel
    have HB := Lib.hid hb
    clear hb
    by_cases hlt : k < 7
    · have hidx := fun W => endsIdx W k hlt
      have HS := Lib.hid (other_step s k hlt)
      have hsm := ends_small k
      generalize endsTab.getD k noEnd = x at hidx HS hsm
      obtain ⟨e, p⟩ := x
      simp only at hidx HS hsm
      obtain ⟨hsm, hsm2⟩ := hsm
      have c1 := fun W => cutSuffix_calls s e hs (by omega) W
      have hba : ∀ o, Below w.heap.size w (wr.alloc o) := fun o => HB.out.alloc HB.out.size _
      have HBA := Lib.hid hba
      clear hba
      cases h1 : suf s e
      · have c2 : ∀ W, Calls Tryz.prog 62 #[.string s, .string e] W fun e1 w' => e1 = .returned (.tuple #[.string s, .bool false]) ∧ w' = W := fun W => by
          have := c1 W
          rw [h1] at this
          exact this
        have HN : Hid (otherL (endsTab.drop (k + 1)) s = otherF s) := by
          have h := HV.out
          rw [HS.out, h1] at h
          exact h
        clear c1
        go_wp2_with fail
        refine (c2 _).mono ?_
        rintro e1 w2 ⟨rfl, rfl⟩
        go_wp2_with fail
        go_roundw
        case rel => exact ⟨k + 1, by omega, by go_num, HN.out, HBA.out _⟩
        case measure => simp [intOf]; omega
      · have hle := suf_le h1
        have hls : (less s e.size).size = s.size - e.size := by rw [less, ByteArray.size_extract]; omega
        have c2 : ∀ W, Calls Tryz.prog 62 #[.string s, .string e] W fun e1 w' => e1 = .returned (.tuple #[.string (less s e.size), .bool true]) ∧ w' = W := fun W => by
          have := c1 W
          rw [h1] at this
          exact this
        clear c1
        by_cases h3 : 3 ≤ (less s e.size).size
        · have h3' : (3 : Int) ≤ (less s e.size).size := by omega
          have HN : Hid (otherF s = less s e.size ++ p) := by
            have h := HV.out
            rw [HS.out, h1, decide_eq_true h3] at h
            exact h.symm
          generalize less s e.size = q at *
          go_wp2_with fail
          refine (c2 _).mono ?_
          rintro e1 w2 ⟨rfl, rfl⟩
          go_wp2_with fail
          go_ret
          exact ⟨ret_string HN.out.symm, HBA.out _⟩
        · have h3' : ((less s e.size).size : Int) < 3 := by omega
          have HN : Hid (otherL (endsTab.drop (k + 1)) s = otherF s) := by
            have h := HV.out
            rw [HS.out, h1, decide_eq_false h3] at h
            exact h
          generalize less s e.size = q at *
          go_wp2_with fail
          refine (c2 _).mono ?_
          rintro e1 w2 ⟨rfl, rfl⟩
          go_wp2_with fail
          go_roundw
          case rel => exact ⟨k + 1, by omega, by go_num, HN.out, HBA.out _⟩
          case measure => simp [intOf]; omega
    · have hv : otherF s = s := by
        have h := HV.out
        rw [List.drop_eq_nil_of_le (show endsTab.length ≤ k by show 7 ≤ k; omega)] at h
        exact h.symm
      have HX := Lib.hid hv
      clear hv
      go_wp2_with fail
      go_ret
      exact ⟨ret_string HX.out.symm, HB.out⟩
end Stem
end Go.Proofs.YtfohollhdaedlaaGreatDoor
/- The walks: stem.Stem. Written by stem8.py. -/
set_option linter.unusedVariables false
set_option linter.unusedSimpArgs false
set_option maxRecDepth 100000
namespace Go.Proofs.YtfohollhdaedlaaGreatDoor
open Go.RowKit
namespace Stem
/-- What a word is looked for by: what is left to do behind each step. -/
def rest2 (x : ByteArray) : ByteArray := if plainF x then otherF x else x
def rest1 (x : ByteArray) : ByteArray := if plainF x then rest2 (pastF x) else x
def stemF (x : ByteArray) : ByteArray := if plainF x then rest1 (pluralF x) else x
def restN (i : Nat) (x : ByteArray) : ByteArray := if i = 0 then stemF x else if i = 1 then rest1 x else if i = 2 then rest2 x else x
theorem less_size (s : ByteArray) (n : Nat) : (less s n).size = s.size - n := by rw [less, ByteArray.size_extract]; omega
theorem plural_size (s : ByteArray) : (pluralF s).size ≤ s.size := by
  unfold pluralF
  repeat' split
  · rw [less_size]; omega
  · rename_i h
    rw [Bool.and_eq_true, decide_eq_true_eq] at h
    rw [ByteArray.size_append, less_size, show tY.size = 1 from rfl]; omega
  · exact Nat.le_refl _
  · exact Nat.le_refl _
  · exact Nat.le_refl _
  · rw [less_size]; omega
  · exact Nat.le_refl _
theorem twin_size (s : ByteArray) : (twinF s).size ≤ s.size := by
  unfold twinF; split
  · rw [less_size]; omega
  · exact Nat.le_refl _
theorem past_size (s : ByteArray) : (pastF s).size ≤ s.size := by
  unfold pastF; repeat' split
  · have := twin_size (less s 3); rw [less_size] at this; omega
  · have := twin_size (less s 2); rw [less_size] at this; omega
  · exact Nat.le_refl _
theorem otherL_size (s : ByteArray) : ∀ l : List (ByteArray × ByteArray), (∀ x ∈ l, x.2.size ≤ x.1.size) → (otherL l s).size ≤ s.size
  | [], _ => Nat.le_refl _
  | x :: r, h => by
    unfold otherL; split
    · rename_i hc
      rw [Bool.and_eq_true] at hc
      have := suf_le hc.1
      have := h x (List.mem_cons_self ..)
      rw [ByteArray.size_append, less_size]; omega
    · exact otherL_size s r fun y hy => h y (List.mem_cons_of_mem _ hy)
theorem other_size (s : ByteArray) : (otherF s).size ≤ s.size := otherL_size s endsTab (by decide)
theorem rest2_size (s : ByteArray) : (rest2 s).size ≤ s.size := by
  unfold rest2; split
  · exact other_size s
  · exact Nat.le_refl _
theorem rest1_size (s : ByteArray) : (rest1 s).size ≤ s.size := by
  unfold rest1; split
  · exact Nat.le_trans (rest2_size _) (past_size s)
  · exact Nat.le_refl _
theorem stem_size (s : ByteArray) : (stemF s).size ≤ s.size := by
  unfold stemF; split
  · exact Nat.le_trans (rest1_size _) (plural_size s)
  · exact Nat.le_refl _

set_option maxHeartbeats 2000000 in
theorem stem_calls (s : ByteArray) (hs : s.size ≤ 140737488351232) (w : World) (hL : LaidE w) :
    Calls Tryz.prog 29 #[.string s] w fun e w' => e = .returned (.string (stemF s)) ∧ Below w.heap.size w w' := by
  have HL := Lib.hid hL
  clear hL
  go_enter Tryz.func29, Tryz.ntmps29
  go_wp2_with fail
  have hb1 : Below w.heap.size w (w.alloc (.cells #[.int .i64 1, .int .i64 2, .int .i64 3] 3 (0, 0))) := (Below.refl _ _).alloc (Nat.le_refl _) _
  have hz : (w.alloc (.cells #[.int .i64 1, .int .i64 2, .int .i64 3] 3 (0, 0))).heap[w.heap.size]? = some (.cells #[.int .i64 1, .int .i64 2, .int .i64 3] 3 (0, 0)) := heap_alloc_new _ _
  have HB1 := Lib.hid hb1
  have HZ := Lib.hid hz
  have hs1 := hb1.size
  have hlt := (Array.getElem?_eq_some_iff.1 hz).1
  clear hb1 hz
  generalize (w.alloc (.cells #[.int .i64 1, .int .i64 2, .int .i64 3] 3 (0, 0))) = w1 at *
  generalize hg : w.heap.size = g at *
  go_loopw [0, 7] (fun v ix wr => ∃ (i : Nat) (x : ByteArray), i ≤ 3 ∧ ix = .int .i64 i ∧ v = .string x ∧ x.size ≤ s.size ∧ Hid (restN i x = stemF s) ∧ Below w1.heap.size w1 wr) (fun _ ix _ => 3 - (intOf ix).toNat)
  case atStart => exact ⟨0, s, by decide, rfl, rfl, Nat.le_refl _, rfl, Below.refl _ _⟩
  case round =>
    obtain ⟨i, x, hi, rfl, rfl, hxs, HV, hb⟩ := hrel
    have HB := Lib.hid hb
    have hv1 : wr.heap[g]? = some (.cells #[.int .i64 1, .int .i64 2, .int .i64 3] 3 (0, 0)) := by rw [hb.block _ hlt]; exact HZ.out
    have hc0 : wr.cell? ⟨g, 0, none⟩ = some (.int .i64 1) := by simp [World.cell?, hv1]
    have hc1 : wr.cell? ⟨g, 1, none⟩ = some (.int .i64 2) := by simp [World.cell?, hv1]
    have hc2 : wr.cell? ⟨g, 2, none⟩ = some (.int .i64 3) := by simp [World.cell?, hv1]
    have HBB : Hid (Below g w wr) := HB1.out.trans (hb.mono (by omega))
    have hbs := hb.size
    clear hb hv1
    have hii : i = 0 ∨ i = 1 ∨ i = 2 ∨ i = 3 := by omega
    rcases hii with rfl | rfl | rfl | rfl
    · have hne : plainF x = true → restN 1 (pluralF x) = stemF s := fun hp => by
        have h := HV.out
        show _ = _
        rw [← h]
        show restN 1 (pluralF x) = stemF x
        rw [stemF, hp]; rfl
      cases hp : plainF x
      · have hv : stemF s = x := by 
            have h := HV.out
            rw [← h]
            show stemF x = x
            rw [stemF, hp]; rfl
        have HX := Lib.hid hv
        clear hv hne
        go_wp2_with fail
        refine (plain_calls x (by omega) _).mono ?_
        rw [hp]
        rintro e w2 ⟨rfl, hb2⟩
        go_wp2_with fail
        go_ret
        exact ⟨ret_string HX.out.symm, by rw [hg]; exact HBB.out.trans (hb2.mono (by omega))⟩
      · have HX := Lib.hid (hne hp)
        have hsz := Nat.le_trans (plural_size x) hxs
        clear hne
        go_wp2_with fail
        refine (plain_calls x (by omega) _).mono ?_
        rw [hp]
        rintro e w2 ⟨rfl, hb2⟩
        have HB2 := Lib.hid (HB.out.trans (hb2.mono HB.out.size))
        have HBW := Lib.hid (HBB.out.trans (hb2.mono (by omega)))
        clear hb2
        go_wp2_with fail
        refine (plural_calls x (by omega) _).mono ?_
        rintro e w3 ⟨rfl, rfl⟩
        go_wp2_with fail
        go_roundw
        case rel => exact ⟨1, _, by decide, rfl, rfl, hsz, HX.out, HB2.out⟩
        case measure => simp [intOf]
    · have hne : plainF x = true → restN 2 (pastF x) = stemF s := fun hp => by
        have h := HV.out
        show _ = _
        rw [← h]
        show restN 2 (pastF x) = rest1 x
        rw [rest1, hp]; rfl
      cases hp : plainF x
      · have hv : stemF s = x := by 
            have h := HV.out
            rw [← h]
            show rest1 x = x
            rw [rest1, hp]; rfl
        have HX := Lib.hid hv
        clear hv hne
        go_wp2_with fail
        refine (plain_calls x (by omega) _).mono ?_
        rw [hp]
        rintro e w2 ⟨rfl, hb2⟩
        go_wp2_with fail
        go_ret
        exact ⟨ret_string HX.out.symm, by rw [hg]; exact HBB.out.trans (hb2.mono (by omega))⟩
      · have HX := Lib.hid (hne hp)
        have hsz := Nat.le_trans (past_size x) hxs
        clear hne
        go_wp2_with fail
        refine (plain_calls x (by omega) _).mono ?_
        rw [hp]
        rintro e w2 ⟨rfl, hb2⟩
        have HB2 := Lib.hid (HB.out.trans (hb2.mono HB.out.size))
        have HBW := Lib.hid (HBB.out.trans (hb2.mono (by omega)))
        clear hb2
        go_wp2_with fail
        refine (past_calls x (by omega) _).mono ?_
        rintro e w3 ⟨rfl, hb3⟩
        go_wp2_with fail
        go_roundw
        case rel => exact ⟨2, _, by decide, rfl, rfl, hsz, HX.out, HB2.out.trans (hb3.mono (HB2.out.size))⟩
        case measure => simp [intOf]
    · have hne : plainF x = true → restN 3 (otherF x) = stemF s := fun hp => by
        have h := HV.out
        show _ = _
        rw [← h]
        show restN 3 (otherF x) = rest2 x
        rw [rest2, hp]; rfl
      cases hp : plainF x
      · have hv : stemF s = x := by 
            have h := HV.out
            rw [← h]
            show rest2 x = x
            rw [rest2, hp]; rfl
        have HX := Lib.hid hv
        clear hv hne
        go_wp2_with fail
        refine (plain_calls x (by omega) _).mono ?_
        rw [hp]
        rintro e w2 ⟨rfl, hb2⟩
        go_wp2_with fail
        go_ret
        exact ⟨ret_string HX.out.symm, by rw [hg]; exact HBB.out.trans (hb2.mono (by omega))⟩
      · have HX := Lib.hid (hne hp)
        have hsz := Nat.le_trans (other_size x) hxs
        clear hne
        go_wp2_with fail
        refine (plain_calls x (by omega) _).mono ?_
        rw [hp]
        rintro e w2 ⟨rfl, hb2⟩
        have HB2 := Lib.hid (HB.out.trans (hb2.mono HB.out.size))
        have HBW := Lib.hid (HBB.out.trans (hb2.mono (by omega)))
        clear hb2
        go_wp2_with fail
        refine (other_calls x (by omega) _ (HL.out.below (by rw [hg]; exact HBW.out))).mono ?_
        rintro e w3 ⟨rfl, hb3⟩
        go_wp2_with fail
        go_roundw
        case rel => exact ⟨3, _, by decide, rfl, rfl, hsz, HX.out, HB2.out.trans (hb3.mono (HB2.out.size))⟩
        case measure => simp [intOf]
    · have hv : stemF s = x := HV.out.symm
      have HX := Lib.hid hv
      clear hv
      go_wp2_with fail
      go_ret
      exact ⟨ret_string HX.out.symm, by rw [hg]; exact HBB.out⟩
end Stem
end Go.Proofs.YtfohollhdaedlaaGreatDoor
