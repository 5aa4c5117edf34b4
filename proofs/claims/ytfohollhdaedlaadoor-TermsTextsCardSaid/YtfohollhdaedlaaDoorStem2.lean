/- The walks: stem.plain, vowels, plural. -/
import Derived.Test.YtfohollhdaedlaaDoorStem1
set_option linter.unusedVariables false
set_option linter.unusedSimpArgs false
set_option maxRecDepth 100000
namespace Go.Proofs.YtfohollhdaedlaaDoor
open Go.RowKit
namespace Stem

/-- Has a word letters a to z alone, four at least? -/
def az (s : ByteArray) (i : Nat) : Bool := decide (97 ≤ byt s i) && decide (byt s i ≤ 122)
def allAz (s : ByteArray) : Bool := (List.range s.size).all (az s)
def plainF (s : ByteArray) : Bool := allAz s && decide (4 ≤ s.size)
def vowelsF (s : ByteArray) : Bool := (List.range s.size).any fun i => vow (byt s i)
theorem allAz_false {s : ByteArray} {i : Nat} (h : i < s.size) (hz : az s i = false) : allAz s = false := by
  rw [allAz, List.all_eq_false]; exact ⟨i, by simpa using h, by simp [hz]⟩
theorem allAz_true {s : ByteArray} (h : ∀ i, i < s.size → az s i = true) : allAz s = true := by
  rw [allAz, List.all_eq_true]; exact fun i hi => h i (by simpa using hi)
theorem vowelsF_true {s : ByteArray} {i : Nat} (h : i < s.size) (hz : vow (byt s i) = true) : vowelsF s = true := by
  rw [vowelsF, List.any_eq_true]; exact ⟨i, by simpa using h, hz⟩
theorem vowelsF_false {s : ByteArray} (h : ∀ i, i < s.size → vow (byt s i) = false) : vowelsF s = false := by
  rw [vowelsF, List.any_eq_false]; exact fun i hi => by simp [h i (by simpa using hi)]

set_option maxHeartbeats 1000000 in
theorem plain_calls (s : ByteArray) (hs : s.size ≤ 140737488351232) (w : World) :
    Calls Tryd.prog 91 #[.string s] w fun e w' => e = .returned (.bool (plainF s)) ∧ Below w.heap.size w w' := by
  go_enter Tryd.func91, Tryd.ntmps91
  go_wp2_with (refine wpList_conv_bytes _ rfl 9 73 5 (.tmp 5) rfl s rfl Tryd.underlying9 Tryd.underlying73 Tryd.underlying5 ?_)
  intro w1 cap hb hsz hc
  have HB := Lib.hid hb
  have HC := Lib.hid hc
  clear hb hc hsz
  have HB0 : Hid (Below w.heap.size w w1) := HB.out
  clear HB
  generalize w.heap.size = g at HC ⊢
  go_wp2_with fail
  go_loopw [8] (fun ix wr => ∃ i : Nat, i ≤ s.size ∧ ix = .int .i64 i ∧ Hid (∀ j, j < i → az s j = true) ∧ w1 = wr) (fun ix _ => s.size - (intOf ix).toNat)
  case atStart => exact ⟨0, Nat.zero_le _, rfl, fun j hj => absurd hj (Nat.not_lt_zero j), rfl⟩
  case round =>
    obtain ⟨i, hi, rfl, HV, rfl⟩ := hrel
    by_cases hlt : i < s.size
    · have hcell := HC.out i hlt
      have hrg := byt_range s i
      by_cases h1 : byt s i < 97
      · have hz : allAz s = false := allAz_false hlt (by simp [az]; omega)
        have HZ := Lib.hid hz
        clear hz
        go_wp2_with fail
        go_ret
        exact ⟨ret_bool (by rw [plainF, HZ.out]; rfl), HB0.out⟩
      · by_cases h2 : 122 < byt s i
        · have hz : allAz s = false := allAz_false hlt (by simp [az]; omega)
          have HZ := Lib.hid hz
          clear hz
          go_wp2_with fail
          go_ret
          exact ⟨ret_bool (by rw [plainF, HZ.out]; rfl), HB0.out⟩
        · have HN : Hid (∀ j, j < i + 1 → az s j = true) := fun j hj => by
            rcases Nat.lt_or_ge j i with h3 | h3
            · exact HV.out j h3
            · obtain rfl : j = i := by omega
              simp [az]; omega
          go_wp2_with fail
          go_roundw
          case rel => exact ⟨i + 1, by omega, by go_num, HN, trivial⟩
          case measure => simp [intOf]; omega
    · have hz : allAz s = true := allAz_true fun j hj => HV.out j (by omega)
      have HZ := Lib.hid hz
      clear hz
      go_wp2_with fail
      go_ret
      exact ⟨ret_bool (by rw [plainF, HZ.out, Bool.true_and]; simp; omega), HB0.out⟩

set_option maxHeartbeats 1000000 in
theorem vowels_calls (s : ByteArray) (hs : s.size ≤ 140737488351232) (w : World) :
    Calls Tryd.prog 124 #[.string s] w fun e w' => e = .returned (.bool (vowelsF s)) ∧ Below w.heap.size w w' := by
  go_enter Tryd.func124, Tryd.ntmps124
  go_wp2_with (refine wpList_conv_bytes _ rfl 9 73 5 (.tmp 5) rfl s rfl Tryd.underlying9 Tryd.underlying73 Tryd.underlying5 ?_)
  intro w1 cap hb hsz hc
  have HB := Lib.hid hb
  have HC := Lib.hid hc
  clear hb hc hsz
  have HB0 : Hid (Below w.heap.size w w1) := HB.out
  clear HB
  generalize w.heap.size = g at HC ⊢
  go_wp2_with fail
  go_loopw [8] (fun ix wr => ∃ i : Nat, i ≤ s.size ∧ ix = .int .i64 i ∧ Hid (∀ j, j < i → vow (byt s j) = false) ∧ w1 = wr) (fun ix _ => s.size - (intOf ix).toNat)
  case atStart => exact ⟨0, Nat.zero_le _, rfl, fun j hj => absurd hj (Nat.not_lt_zero j), rfl⟩
  case round =>
    obtain ⟨i, hi, rfl, HV, rfl⟩ := hrel
    by_cases hlt : i < s.size
    · have hcell := HC.out i hlt
      have hrg := byt_range s i
      cases h1 : vow (byt s i)
      · have HN : Hid (∀ j, j < i + 1 → vow (byt s j) = false) := fun j hj => by
          rcases Nat.lt_or_ge j i with h3 | h3
          · exact HV.out j h3
          · obtain rfl : j = i := by omega
            exact h1
        go_wp2_with fail
        refine (vowel_calls _ hrg.1 hrg.2 _).mono ?_
        rw [h1]
        rintro e w2 ⟨rfl, rfl⟩
        go_wp2_with fail
        go_roundw
        case rel => exact ⟨i + 1, by omega, by go_num, HN, trivial⟩
        case measure => simp [intOf]; omega
      · have HZ := Lib.hid (vowelsF_true hlt h1)
        go_wp2_with fail
        refine (vowel_calls _ hrg.1 hrg.2 _).mono ?_
        rw [h1]
        rintro e w2 ⟨rfl, rfl⟩
        go_wp2_with fail
        go_ret
        exact ⟨ret_bool HZ.out.symm, HB0.out⟩
    · have hz : vowelsF s = false := vowelsF_false fun j hj => HV.out j (by omega)
      have HZ := Lib.hid hz
      clear hz
      go_wp2_with fail
      go_ret
      exact ⟨ret_bool HZ.out.symm, HB0.out⟩
end Stem
end Go.Proofs.YtfohollhdaedlaaDoor
