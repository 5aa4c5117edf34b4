/- The walks of the package utf: first, Sign, Next. -/
import Derived.Test.YtfohollhdaedlaaGreatDoorChecked
import Derived.Test.YtfohollhdaedlaaGreatDoorUtfMath
set_option linter.unusedVariables false
set_option linter.unusedSimpArgs false
namespace Go.Proofs.YtfohollhdaedlaaGreatDoor
open Go.RowKit
namespace Utf

set_option maxHeartbeats 400000 in
theorem first_calls (c : Int) (h0 : 0 ≤ c) (h1 : c < 256) (w : World) :
    Calls Tryz.prog 78 #[.int .u8 c] w fun e w' => e = .returned (.agg #[.int .i64 (fsize c), .int .i64 (fbits c), .int .i64 (fleast c)]) ∧ Below w.heap.size w w' := by
  go_enter Tryz.func78, Tryz.ntmps78
  go_wp2
  · refine bodyPost_ret (v := .agg #[.int .i64 1, .int .i64 c, .int .i64 0]) (by simp [results, Tryz.results78, go_sem]) rfl ⟨?_, (Below.refl _ _).alloc (Nat.le_refl _) _⟩
    simp [fsize, fbits, fleast, *]
  · refine bodyPost_ret (v := .agg #[.int .i64 0, .int .i64 0, .int .i64 0]) (by simp [results, Tryz.results78, go_sem]) rfl ⟨?_, (Below.refl _ _).alloc (Nat.le_refl _) _⟩
    have : ¬ c < 128 := by omega
    simp [fsize, fbits, fleast, *]
  · refine bodyPost_ret (v := .agg #[.int .i64 2, .int .i64 (c % 32), .int .i64 128]) (by simp [results, Tryz.results78, go_sem]) rfl ⟨?_, (Below.refl _ _).alloc (Nat.le_refl _) _⟩
    have : ¬ c < 128 := by omega
    have : ¬ c < 192 := by omega
    simp [fsize, fbits, fleast, *]
  · refine bodyPost_ret (v := .agg #[.int .i64 3, .int .i64 (c % 16), .int .i64 2048]) (by simp [results, Tryz.results78, go_sem]) rfl ⟨?_, (Below.refl _ _).alloc (Nat.le_refl _) _⟩
    have : ¬ c < 128 := by omega
    have : ¬ c < 192 := by omega
    have : ¬ c < 224 := by omega
    simp [fsize, fbits, fleast, *]
  · refine bodyPost_ret (v := .agg #[.int .i64 4, .int .i64 (c % 8), .int .i64 65536]) (by simp [results, Tryz.results78, go_sem]) rfl ⟨?_, (Below.refl _ _).alloc (Nat.le_refl _) _⟩
    have : ¬ c < 128 := by omega
    have : ¬ c < 192 := by omega
    have : ¬ c < 224 := by omega
    have : ¬ c < 240 := by omega
    simp [fsize, fbits, fleast, *]
  · refine bodyPost_ret (v := .agg #[.int .i64 0, .int .i64 0, .int .i64 0]) (by simp [results, Tryz.results78, go_sem]) rfl ⟨?_, (Below.refl _ _).alloc (Nat.le_refl _) _⟩
    have : ¬ c < 128 := by omega
    have : ¬ c < 192 := by omega
    have : ¬ c < 224 := by omega
    have : ¬ c < 240 := by omega
    have : ¬ c < 248 := by omega
    simp [fsize, fbits, fleast, *]

set_option maxHeartbeats 400000 in
theorem sign_calls (r : Int) (w : World) :
    Calls Tryz.prog 79 #[.int .i64 r] w fun e w' => e = .returned (.bool (sgn r)) ∧ w' = w := by
  go_enter Tryz.func79, Tryz.ntmps79
  go_wp2
  all_goals go_ret
  all_goals (refine ⟨ret_bool ?_, rfl⟩; rw [Bool.eq_iff_iff]; simp [sgn]; omega)

set_option maxHeartbeats 1000000 in
set_option maxRecDepth 100000 in
theorem nx_calls (s : ByteArray) (a : Nat) (ha : a < s.size) (hs : s.size ≤ 140737488351232) (w : World) :
    Calls Tryz.prog 56 #[.string s, .int .i64 a] w fun e w' => e = .returned (.tuple #[.int .i64 (nx s a).1, .int .i64 (nx s a).2]) ∧ Below w.heap.size w w' := by
  have hb := byt_range s a
  have hf := fsize_range (byt s a)
  have ea := byt_at s a ha
  go_enter Tryz.func56, Tryz.ntmps56
  go_wp2_with fail
  refine (first_calls _ hb.1 hb.2 _).mono ?_
  rintro e w1 ⟨rfl, hb1⟩
  by_cases hc : fsize (byt s a) = 0 ∨ (s.size : Int) - a < fsize (byt s a)
  · have HN := Lib.hid (nx_short hc)
    by_cases h0 : fsize (byt s a) = 0
    · clear hc
      go_wp2_with fail
      go_ret2
      exact ⟨ret_int2 (by rw [HN.out]) (by rw [HN.out]), hb1.alloc hb1.size _⟩
    · have h1 : (s.size : Int) - a < fsize (byt s a) := by omega
      clear hc
      go_wp2_with fail
      go_ret2
      exact ⟨ret_int2 (by rw [HN.out]) (by rw [HN.out]), hb1.alloc hb1.size _⟩
  · have HC := Lib.hid hc
    obtain ⟨n, hn⟩ : ∃ n : Nat, fsize (byt s a) = n := ⟨(fsize (byt s a)).toNat, by omega⟩
    obtain ⟨m, rfl⟩ : ∃ m, n = m + 1 := ⟨n - 1, by omega⟩
    have h1 : a + (m + 1) ≤ s.size := by omega
    have h2 : m ≤ 3 := by omega
    have h3 : (((m + 1 : Nat) : Int) == 0) = false := by rw [beq_eq_false_iff_ne]; omega
    have h4 : decide ((s.size : Int) - a < ((m + 1 : Nat) : Int)) = false := by simp; omega
    have h5 : (fsize (byt s a) - 1).toNat = m := by omega
    have h6 : ∀ k, 0 < k → k ≤ m → fsize (byt s a) ≠ 1 := fun k _ _ => by omega
    have H5 := Lib.hid h5
    have H6 := Lib.hid h6
    clear hc hf h5 h6
    have HN := Lib.hid hn
    rw [hn]
    clear hn
    have hsl := slice_str Tryz.underlying9 s .i64 .i64 ((a : Int) + 1) ((a : Int) + ((m + 1 : Nat) : Int)) (a + 1) (a + (m + 1)) (by omega) (by omega) (by omega) h1
    have hn0 : (1 : Int) ≤ ((m + 1 : Nat) : Int) := by omega
    have hn1 : ((m + 1 : Nat) : Int) ≤ 4 := by omega
    generalize ((m + 1 : Nat) : Int) = n at *
    go_wp2_with (refine wpList_conv_bytes _ rfl 9 102 5 (.tmp 43) rfl (s.extract (a + 1) (a + (m + 1))) rfl Tryz.underlying9 Tryz.underlying102 Tryz.underlying5 ?_)
    intro w2 cap hb2 hz2 hc2
    have hq : a + (m + 1) - (a + 1) = m := by omega
    rw [hq] at hc2 ⊢
    have hc3 : ∀ j, j < m → w2.cell? ⟨w1.heap.size + 1, j, none⟩ = some (.int .u8 (byt s (a + 1 + j))) := fun j hj => by
      have := hc2 j hj
      rw [byt_extract s j (a + 1) (a + (m + 1)) h1 (by omega)] at this
      simpa using this
    have HC3 := Lib.hid hc3
    clear hc2 hc3 hq hsl
    go_wp2_with fail
    go_loop [7, 46] (fun r i => ∃ k : Nat, k ≤ m ∧ i = .int .i64 k ∧ r = .int .i64 (acc s a k) ∧ Hid (conts s a k = true)) (fun _ i => m - (intOf i).toNat)
    case atStart => exact ⟨0, Nat.zero_le _, rfl, rfl, rfl⟩
    case round =>
      obtain ⟨k, hk, rfl, rfl, HCk⟩ := hrel
      by_cases hlt : k < m
      · have hcell := HC3.out k hlt
        have hbk := byt_range s (a + 1 + k)
        have hak := acc_range s a k (by rcases Nat.eq_zero_or_pos k with h | h; exact .inr h; exact .inl (H6.out k h hk)) (by omega)
        have hbit := and192_ne _ hbk.1 hbk.2
        have hor := i64_or6 (acc s a k * 64) (byt s (a + 1 + k) % 64) (by omega) (by omega) (by omega) (by omega) (by omega)
        cases hct : cont (byt s (a + 1 + k))
        · rw [hct] at hbit
          have HX := Lib.hid (nx_cont (k := k) HC.out (by rw [H5.out]; exact hlt) hct)
          clear hct hor
          go_wp2_with fail
          go_ret2
          exact ⟨ret_int2 (by rw [HX.out]) (by rw [HX.out]), (hb1.alloc hb1.size _).trans (hb2.mono (by have := hb1.size; omega))⟩
        · rw [hct] at hbit
          have HX := Lib.hid (show conts s a (k + 1) = true by rw [conts_succ, HCk.out, hct]; rfl)
          clear hct
          go_wp2_with fail
          go_round
          case rel => exact ⟨k + 1, by omega, by go_num, rfl, HX⟩
          case measure => simp [intOf]; omega
      · obtain rfl : k = m := by omega
        have hak := acc_range s a k (by rcases Nat.eq_zero_or_pos k with h | h; exact .inr h; exact .inl (H6.out k h hk)) (by omega)
        have HB : Hid (Below w.heap.size w w2) := (hb1.alloc hb1.size _).trans (hb2.mono (by have := hb1.size; omega))
        have hcl : ∀ j v, (#[Value.int .i64 n, .int .i64 (fbits (byt s a)), .int .i64 (fleast (byt s a))] : Array Value)[j]? = some v → w2.cell? ⟨w1.heap.size, j, none⟩ = some v := by
          intro j v hv
          rw [hb2.cell (p := ⟨w1.heap.size, j, none⟩) (by simp)]
          rw [cell_new]; exact hv
        have hl0 := hcl 0 _ rfl
        have hl2 := hcl 2 _ rfl
        have HH := Lib.hid hcl
        clear hcl hb2
        have HAc := H5
        by_cases hle : acc s a k < fleast (byt s a)
        · have HX := Lib.hid (nx_bad HC.out (by rw [H5.out]; exact HCk.out) (.inl (by rw [H5.out]; exact hle)))
          go_wp2_with fail
          go_ret2
          exact ⟨ret_int2 (by rw [HX.out]) (by rw [HX.out]), HB.out⟩
        · have hle' : decide (acc s a k < fleast (byt s a)) = false := by simpa using hle
          cases hsg : sgn (acc s a k)
          · have HX := Lib.hid (nx_bad HC.out (by rw [H5.out]; exact HCk.out) (.inr (by rw [H5.out]; exact hsg)))
            go_wp2_with fail
            refine (sign_calls _ _).mono ?_
            rintro e w3 ⟨rfl, rfl⟩
            rw [hsg]
            clear hsg
            go_wp2_with fail
            go_ret2
            exact ⟨ret_int2 (by rw [HX.out]) (by rw [HX.out]), HB.out⟩
          · have HX := Lib.hid (nx_good HC.out (by rw [H5.out]; exact HCk.out) (by rw [H5.out, hsg]; simp; omega))
            go_wp2_with fail
            refine (sign_calls _ _).mono ?_
            rintro e w3 ⟨rfl, rfl⟩
            rw [hsg]
            clear hsg
            go_wp2_with fail
            go_quiet (fail)
            go_wp2_with fail
            go_ret2
            exact ⟨ret_int2 (by rw [HX.out, H5.out]) (by rw [HX.out, HN.out]), below_drewN HB.out _⟩
end Utf
end Go.Proofs.YtfohollhdaedlaaGreatDoor
