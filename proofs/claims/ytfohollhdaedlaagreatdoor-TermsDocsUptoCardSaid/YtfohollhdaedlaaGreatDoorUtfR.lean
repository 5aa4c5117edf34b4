
import Derived.Test.YtfohollhdaedlaaGreatDoorUtfW3
import Derived.Test.YtfohollhdaedlaaGreatDoorUtfEnc
import Derived.Deep.RegionWith
import Derived.BigRegion
/- The walks of the reference of layer 3: value, Sign, Bytes. -/
set_option linter.unusedVariables false
set_option linter.unusedSimpArgs false
namespace Go.Proofs.YtfohollhdaedlaaGreatDoor
open Go.RowKit
namespace Utf

set_option maxHeartbeats 400000 in
theorem value_calls (c : Int) (h0 : 0 ≤ c) (h1 : c < 256) (w : World) :
    Calls Tryz.prog 99 #[.int .u8 c] w fun e w' => e = .returned (.int .i64 (c % 64)) ∧ w' = w := by
  go_enter Tryz.func99, Tryz.ntmps99
  go_wp2_with fail
  go_ret
  exact ⟨rfl, rfl⟩

set_option maxHeartbeats 400000 in
theorem rsign_calls (r : Int) (w : World) :
    Calls Tryz.prog 105 #[.int .i64 r] w fun e w' => e = .returned (.bool (sgn r)) ∧ w' = w := by
  go_enter Tryz.func105, Tryz.ntmps105
  go_wp2
  all_goals go_ret
  all_goals (refine ⟨ret_bool ?_, rfl⟩; rw [Bool.eq_iff_iff]; simp [sgn]; omega)

theorem infoU8 : (Tryz.prog.info? 5).map (fun i => (i.zero, i.size, i.bytes)) = some (some (.int .u8 0), 1, 1) := by kernel_rfl

set_option maxHeartbeats 800000 in
theorem rbytes_calls (r : Int) (hr : -9223372036854775808 ≤ r ∧ r ≤ 9223372036854775807) (w : World) :
    Calls Tryz.prog 100 #[.int .i64 r] w fun e w' => ∃ v, e = .returned v ∧ w'.ownsRow w.heap.size 5 1 v (enc r).length ((enc r).map (.int .u8)) ∧ Below w.heap.size w w' := by
  cases hs : sgn r
  · rw [enc0 hs]
    go_enter Tryz.func100, Tryz.ntmps100
    go_wp2_with fail
    refine (rsign_calls _ _).mono ?_
    rintro e w1 ⟨rfl, rfl⟩
    rw [hs]
    clear hs
    go_wp2_with fail
    go_ret
    exact ⟨_, rfl, World.ownsRow_nil _ _ _ _, Below.refl _ _⟩
  · have hs' := (sgn_iff r).1 hs
    by_cases h1 : r ≤ 127
    · rw [enc1 hs h1]
      go_enter Tryz.func100, Tryz.ntmps100
      go_wp2_with fail
      refine (rsign_calls _ _).mono ?_
      rintro e w1 ⟨rfl, rfl⟩
      rw [hs]
      clear hs
      go_wp2_with fail
      go_ret
      exact ⟨_, rfl, own_lit _ _ _ _ _ rfl (Nat.le_refl _) (by decide), (Below.refl _ _).alloc (Nat.le_refl _) _⟩
    · by_cases h2 : r ≤ 2047
      · rw [enc2 hs h1 h2]
        go_enter Tryz.func100, Tryz.ntmps100
        go_wp2_with fail
        refine (rsign_calls _ _).mono ?_
        rintro e w1 ⟨rfl, rfl⟩
        rw [hs]
        clear hs
        go_wp2_with fail
        go_ret
        exact ⟨_, rfl, own_lit _ _ _ _ _ rfl (Nat.le_refl _) (by decide), (Below.refl _ _).alloc (Nat.le_refl _) _⟩
      · by_cases h3 : r ≤ 65535
        · rw [enc3 hs h1 h2 h3]
          go_enter Tryz.func100, Tryz.ntmps100
          go_wp2_with fail
          refine (rsign_calls _ _).mono ?_
          rintro e w1 ⟨rfl, rfl⟩
          rw [hs]
          clear hs
          go_wp2_with fail
          go_ret
          exact ⟨_, rfl, own_lit _ _ _ _ _ rfl (Nat.le_refl _) (by decide), (Below.refl _ _).alloc (Nat.le_refl _) _⟩
        · rw [enc4 hs h1 h2 h3]
          go_enter Tryz.func100, Tryz.ntmps100
          go_wp2_with fail
          refine (rsign_calls _ _).mono ?_
          rintro e w1 ⟨rfl, rfl⟩
          rw [hs]
          clear hs
          go_wp2_with fail
          go_ret
          exact ⟨_, rfl, own_lit _ _ _ _ _ rfl (Nat.le_refl _) (by decide), (Below.refl _ _).alloc (Nat.le_refl _) _⟩
end Utf
end Go.Proofs.YtfohollhdaedlaaGreatDoor
/- The walk of the reference's Next. -/
set_option linter.unusedVariables false
set_option linter.unusedSimpArgs false
namespace Go.Proofs.YtfohollhdaedlaaGreatDoor
open Go.RowKit
namespace Utf

theorem byt_from (s : ByteArray) (a i : Nat) (h : i < s.size - a) : byt (s.extract a s.size) i = byt s (a + i) := byt_extract s i a s.size (Nat.le_refl _) (by omega)
theorem size_from (s : ByteArray) (a : Nat) : (s.extract a s.size).size = s.size - a := by rw [ByteArray.size_extract]; omega
theorem conts_from (s : ByteArray) (a n : Nat) (h : n + 1 ≤ s.size - a) : conts (s.extract a s.size) 0 n = conts s a n := by
  induction n with
  | zero => rfl
  | succ n ih => rw [conts_succ, conts_succ, ih (by omega), byt_from s a _ (by omega)]; congr 3; omega
theorem acc_from (s : ByteArray) (a n : Nat) (h : n + 1 ≤ s.size - a) : acc (s.extract a s.size) 0 n = acc s a n := by
  induction n with
  | zero => simp only [acc]; rw [byt_from s a 0 (by omega)]; rfl
  | succ n ih => simp only [acc]; rw [ih (by omega), byt_from s a _ (by omega)]; congr 3; omega
theorem nx_from (s : ByteArray) (a : Nat) (h : a < s.size) : nx (s.extract a s.size) 0 = nx s a := by
  have hb := byt_from s a 0 (by omega)
  rw [Nat.add_zero] at hb
  have hf := fsize_range (byt s a)
  simp only [nx]
  rw [hb, size_from]
  by_cases hc : fsize (byt s a) = 0 ∨ (s.size : Int) - a < fsize (byt s a)
  · rw [if_pos hc, if_pos (by omega)]
  · rw [if_neg hc, if_neg (by omega), conts_from s a _ (by omega), acc_from s a _ (by omega)]

theorem fst_extract (t : ByteArray) (n : Nat) (h : n ≤ t.size) : bytesOf (t.extract 0 n) = fst t n := by
  apply List.ext_getElem?
  intro i
  by_cases hi : i < n
  · rw [bytesOf_get _ _ (by rw [size_pre t n h]; exact hi), byt_pre t n i h hi]
    simp [fst, hi]
  · rw [List.getElem?_eq_none (by rw [bytesOf_length, size_pre t n h]; omega), List.getElem?_eq_none (by simp [fst]; omega)]
theorem cmp_fst (t : ByteArray) (r : Int) (n : Nat) (h : n ≤ t.size) : ((strOfNums (enc r)).toList == (t.extract 0 n).toList) = decide (enc r = fst t n) := by
  rw [← strOfNums_bytesOf (t.extract 0 n), strOfNums_inj (enc_byt r) (bytesOf_byt _), fst_extract t n h]
theorem refN_short {t : ByteArray} {f k : Nat} (h : t.size < k + 1) : refN t (f + 1) k = (-1, 1) := by rw [refN, if_pos h]
theorem refN_hit {t : ByteArray} {f k : Nat} (h : ¬ t.size < k + 1) (e : enc (rv t (k + 1)) = fst t (k + 1)) : refN t (f + 1) k = (rv t (k + 1), ((k + 1 : Nat) : Int)) := by rw [refN, if_neg h, if_pos e]
theorem refN_step {t : ByteArray} {f k : Nat} (h : ¬ t.size < k + 1) (e : ¬ enc (rv t (k + 1)) = fst t (k + 1)) : refN t (f + 1) k = refN t f (k + 1) := by rw [refN, if_neg h, if_neg e]

set_option maxHeartbeats 4000000 in
set_option maxRecDepth 100000 in
theorem rnx_calls (s : ByteArray) (a : Nat) (ha : a < s.size) (hs : s.size ≤ 140737488351232) (w : World) :
    Calls Tryz.prog 89 #[.string s, .int .i64 a] w fun e w' => e = .returned (.tuple #[.int .i64 (nx s a).1, .int .i64 (nx s a).2]) ∧ Below w.heap.size w w' := by
  have hsl := slice_str_from Tryz.underlying9 s .i64 a a rfl (by omega)
  have hsz := size_from s a
  rw [← nx_from s a ha, ← ref_nx _ (by omega)]
  generalize s.extract a s.size = t at *
  have ht : 0 < t.size := by omega
  have htm : t.size ≤ 140737488351232 := by omega
  have g0 := byt_at t 0 ht
  have q0 := byt_range t 0
  have q1 := byt_range t 1
  have q2 := byt_range t 2
  have q3 := byt_range t 3
  clear hsz
  have hd1 : decide (s.size ≤ a) = false := decide_eq_false (by omega)
  have hd2 : decide ((a : Int) < 0) = false := decide_eq_false (by omega)
  go_enter Tryz.func89, Tryz.ntmps89
  go_wp2_with fail
  go_loopw [21] (fun i wr => ∃ k : Nat, k ≤ 4 ∧ i = .int .i64 k ∧ Hid (refN t (4 - k) k = refN t 4 0) ∧ Hid (Below w.heap.size w wr)) (fun i _ => 4 - (intOf i).toNat)
  case atStart => exact ⟨0, by omega, rfl, rfl, Below.refl _ _⟩
  case round =>
    obtain ⟨k, hk, rfl, HV, HB⟩ := hrel
    have hcase : k = 0 ∨ k = 1 ∨ k = 2 ∨ k = 3 ∨ k = 4 := by omega
    rcases hcase with rfl | rfl | rfl | rfl | rfl
    · by_cases hsh : t.size < 1
      · have HX := Lib.hid (refN_short (f := 3) (k := 0) hsh)
        have hsh' : (t.size : Int) < 1 := by omega
        clear hsh
        go_wp2_with fail
        go_ret2
        exact ⟨ret_int2 (by rw [show refN t 4 0 = _ from HX.out]) (by rw [show refN t 4 0 = _ from HX.out]), HB.out⟩
      · have hlen : ¬ (t.size : Int) < 1 := by omega
        have i0 : (0 : Int) < t.size := by omega
        have hcmp := cmp_fst t (byt t 0) 1 (by omega)
        have hslt := slice_str_to Tryz.underlying9 t .i64 1 1 rfl (by omega)
        by_cases hok : enc (rv t 1) = fst t 1
        · have HX := Lib.hid (refN_hit (f := 3) (k := 0) hsh hok)
          rw [show decide (enc (byt t 0) = fst t 1) = true from decide_eq_true hok] at hcmp
          clear hok
          go_wp2_with fail
          go_region_with (go_at_call 100; refine (rbytes_calls _ (by omega) _).mono ?_; rintro e w1 ⟨v, rfl, ho, hb1⟩; obtain ⟨A, c, rfl, hsl1⟩ := own_form ho; have hcv := run_str_of (P := Tryz.prog) w1 102 9 5 Tryz.underlying102 Tryz.underlying5 Tryz.underlying9 A _ c _ hsl1)
          go_wp2_with fail
          go_ret2
          exact ⟨ret_int2 (by rw [show refN t 4 0 = _ from HX.out]; rfl) (by rw [show refN t 4 0 = _ from HX.out]; rfl), below_next HB.out (below_drew1 hb1)⟩
        · have HX := Lib.hid (refN_step (f := 3) (k := 0) hsh hok)
          rw [show decide (enc (byt t 0) = fst t 1) = false from decide_eq_false hok] at hcmp
          clear hok
          go_wp2_with fail
          go_region_with (go_at_call 100; refine (rbytes_calls _ (by omega) _).mono ?_; rintro e w1 ⟨v, rfl, ho, hb1⟩; obtain ⟨A, c, rfl, hsl1⟩ := own_form ho; have hcv := run_str_of (P := Tryz.prog) w1 102 9 5 Tryz.underlying102 Tryz.underlying5 Tryz.underlying9 A _ c _ hsl1)
          go_wp2_with fail
          go_roundw
          case rel => exact ⟨1, by omega, rfl, (show refN t 4 0 = _ from HX.out).symm, below_next HB.out (below_drew1 hb1)⟩
          case measure => simp [intOf]
    · by_cases hsh : t.size < 2
      · have HX := Lib.hid (refN_short (f := 2) (k := 1) hsh)
        have hsh' : (t.size : Int) < 2 := by omega
        clear hsh
        go_wp2_with fail
        go_ret2
        exact ⟨ret_int2 (by rw [← HV.out, HX.out]) (by rw [← HV.out, HX.out]), HB.out⟩
      · have hlen : ¬ (t.size : Int) < 2 := by omega
        have i0 : (0 : Int) < t.size := by omega
        have i1 : (1 : Int) < t.size := by omega
        have g1 := byt_at t 1 (by omega)
        have hcmp := cmp_fst t (byt t 0 % 32 * 64 + byt t 1 % 64) 2 (by omega)
        have hslt := slice_str_to Tryz.underlying9 t .i64 2 2 rfl (by omega)
        by_cases hok : enc (rv t 2) = fst t 2
        · have HX := Lib.hid (refN_hit (f := 2) (k := 1) hsh hok)
          rw [show decide (enc (byt t 0 % 32 * 64 + byt t 1 % 64) = fst t 2) = true from decide_eq_true hok] at hcmp
          clear hok
          go_wp2_with fail
          go_quiet ((go_at_call 99; exact Calls.quiet_of_same (value_calls _ (by omega) (by omega) _)))
          go_wp2_with fail
          go_region_with (go_at_call 100; refine (rbytes_calls _ (by omega) _).mono ?_; rintro e w1 ⟨v, rfl, ho, hb1⟩; obtain ⟨A, c, rfl, hsl1⟩ := own_form ho; have hcv := run_str_of (P := Tryz.prog) w1 102 9 5 Tryz.underlying102 Tryz.underlying5 Tryz.underlying9 A _ c _ hsl1)
          go_wp2_with fail
          go_ret2
          exact ⟨ret_int2 (by rw [← HV.out, HX.out]; rfl) (by rw [← HV.out, HX.out]; rfl), below_next HB.out (below_drews hb1)⟩
        · have HX := Lib.hid (refN_step (f := 2) (k := 1) hsh hok)
          rw [show decide (enc (byt t 0 % 32 * 64 + byt t 1 % 64) = fst t 2) = false from decide_eq_false hok] at hcmp
          clear hok
          go_wp2_with fail
          go_quiet ((go_at_call 99; exact Calls.quiet_of_same (value_calls _ (by omega) (by omega) _)))
          go_wp2_with fail
          go_region_with (go_at_call 100; refine (rbytes_calls _ (by omega) _).mono ?_; rintro e w1 ⟨v, rfl, ho, hb1⟩; obtain ⟨A, c, rfl, hsl1⟩ := own_form ho; have hcv := run_str_of (P := Tryz.prog) w1 102 9 5 Tryz.underlying102 Tryz.underlying5 Tryz.underlying9 A _ c _ hsl1)
          go_wp2_with fail
          go_roundw
          case rel => exact ⟨2, by omega, rfl, HX.out.symm.trans HV.out, below_next HB.out (below_drews hb1)⟩
          case measure => simp [intOf]
    · by_cases hsh : t.size < 3
      · have HX := Lib.hid (refN_short (f := 1) (k := 2) hsh)
        have hsh' : (t.size : Int) < 3 := by omega
        clear hsh
        go_wp2_with fail
        go_ret2
        exact ⟨ret_int2 (by rw [← HV.out, HX.out]) (by rw [← HV.out, HX.out]), HB.out⟩
      · have hlen : ¬ (t.size : Int) < 3 := by omega
        have i0 : (0 : Int) < t.size := by omega
        have i1 : (1 : Int) < t.size := by omega
        have g1 := byt_at t 1 (by omega)
        have i2 : (2 : Int) < t.size := by omega
        have g2 := byt_at t 2 (by omega)
        have hcmp := cmp_fst t (byt t 0 % 16 * 4096 + byt t 1 % 64 * 64 + byt t 2 % 64) 3 (by omega)
        have hslt := slice_str_to Tryz.underlying9 t .i64 3 3 rfl (by omega)
        by_cases hok : enc (rv t 3) = fst t 3
        · have HX := Lib.hid (refN_hit (f := 1) (k := 2) hsh hok)
          rw [show decide (enc (byt t 0 % 16 * 4096 + byt t 1 % 64 * 64 + byt t 2 % 64) = fst t 3) = true from decide_eq_true hok] at hcmp
          clear hok
          go_wp2_with fail
          go_quiet ((go_at_call 99; exact Calls.quiet_of_same (value_calls _ (by omega) (by omega) _)))
          go_wp2_with fail
          go_region_with (go_at_call 100; refine (rbytes_calls _ (by omega) _).mono ?_; rintro e w1 ⟨v, rfl, ho, hb1⟩; obtain ⟨A, c, rfl, hsl1⟩ := own_form ho; have hcv := run_str_of (P := Tryz.prog) w1 102 9 5 Tryz.underlying102 Tryz.underlying5 Tryz.underlying9 A _ c _ hsl1)
          go_wp2_with fail
          go_ret2
          exact ⟨ret_int2 (by rw [← HV.out, HX.out]; rfl) (by rw [← HV.out, HX.out]; rfl), below_next HB.out (below_drews hb1)⟩
        · have HX := Lib.hid (refN_step (f := 1) (k := 2) hsh hok)
          rw [show decide (enc (byt t 0 % 16 * 4096 + byt t 1 % 64 * 64 + byt t 2 % 64) = fst t 3) = false from decide_eq_false hok] at hcmp
          clear hok
          go_wp2_with fail
          go_quiet ((go_at_call 99; exact Calls.quiet_of_same (value_calls _ (by omega) (by omega) _)))
          go_wp2_with fail
          go_region_with (go_at_call 100; refine (rbytes_calls _ (by omega) _).mono ?_; rintro e w1 ⟨v, rfl, ho, hb1⟩; obtain ⟨A, c, rfl, hsl1⟩ := own_form ho; have hcv := run_str_of (P := Tryz.prog) w1 102 9 5 Tryz.underlying102 Tryz.underlying5 Tryz.underlying9 A _ c _ hsl1)
          go_wp2_with fail
          go_roundw
          case rel => exact ⟨3, by omega, rfl, HX.out.symm.trans HV.out, below_next HB.out (below_drews hb1)⟩
          case measure => simp [intOf]
    · by_cases hsh : t.size < 4
      · have HX := Lib.hid (refN_short (f := 0) (k := 3) hsh)
        have hsh' : (t.size : Int) < 4 := by omega
        clear hsh
        go_wp2_with fail
        go_ret2
        exact ⟨ret_int2 (by rw [← HV.out, HX.out]) (by rw [← HV.out, HX.out]), HB.out⟩
      · have hlen : ¬ (t.size : Int) < 4 := by omega
        have i0 : (0 : Int) < t.size := by omega
        have i1 : (1 : Int) < t.size := by omega
        have g1 := byt_at t 1 (by omega)
        have i2 : (2 : Int) < t.size := by omega
        have g2 := byt_at t 2 (by omega)
        have i3 : (3 : Int) < t.size := by omega
        have g3 := byt_at t 3 (by omega)
        have hcmp := cmp_fst t (byt t 0 % 8 * 262144 + byt t 1 % 64 * 4096 + byt t 2 % 64 * 64 + byt t 3 % 64) 4 (by omega)
        have hslt := slice_str_to Tryz.underlying9 t .i64 4 4 rfl (by omega)
        by_cases hok : enc (rv t 4) = fst t 4
        · have HX := Lib.hid (refN_hit (f := 0) (k := 3) hsh hok)
          rw [show decide (enc (byt t 0 % 8 * 262144 + byt t 1 % 64 * 4096 + byt t 2 % 64 * 64 + byt t 3 % 64) = fst t 4) = true from decide_eq_true hok] at hcmp
          clear hok
          go_wp2_with fail
          go_quiet ((go_at_call 99; exact Calls.quiet_of_same (value_calls _ (by omega) (by omega) _)))
          go_wp2_with fail
          go_region_with (go_at_call 100; refine (rbytes_calls _ (by omega) _).mono ?_; rintro e w1 ⟨v, rfl, ho, hb1⟩; obtain ⟨A, c, rfl, hsl1⟩ := own_form ho; have hcv := run_str_of (P := Tryz.prog) w1 102 9 5 Tryz.underlying102 Tryz.underlying5 Tryz.underlying9 A _ c _ hsl1)
          go_wp2_with fail
          go_ret2
          exact ⟨ret_int2 (by rw [← HV.out, HX.out]; rfl) (by rw [← HV.out, HX.out]; rfl), below_next HB.out (below_drews hb1)⟩
        · have HX := Lib.hid (refN_step (f := 0) (k := 3) hsh hok)
          rw [show decide (enc (byt t 0 % 8 * 262144 + byt t 1 % 64 * 4096 + byt t 2 % 64 * 64 + byt t 3 % 64) = fst t 4) = false from decide_eq_false hok] at hcmp
          clear hok
          go_wp2_with fail
          go_quiet ((go_at_call 99; exact Calls.quiet_of_same (value_calls _ (by omega) (by omega) _)))
          go_wp2_with fail
          go_region_with (go_at_call 100; refine (rbytes_calls _ (by omega) _).mono ?_; rintro e w1 ⟨v, rfl, ho, hb1⟩; obtain ⟨A, c, rfl, hsl1⟩ := own_form ho; have hcv := run_str_of (P := Tryz.prog) w1 102 9 5 Tryz.underlying102 Tryz.underlying5 Tryz.underlying9 A _ c _ hsl1)
          go_wp2_with fail
          go_roundw
          case rel => exact ⟨4, by omega, rfl, HX.out.symm.trans HV.out, below_next HB.out (below_drews hb1)⟩
          case measure => simp [intOf]
    · go_wp2_with fail
      go_ret2
      exact ⟨ret_int2 (by rw [← HV.out]; rfl) (by rw [← HV.out]; rfl), HB.out⟩
end Utf
end Go.Proofs.YtfohollhdaedlaaGreatDoor
/- The walks of the reference of layer 3: Next at any place, Valid, Ends, Count, Cut. -/
set_option linter.unusedVariables false
set_option linter.unusedSimpArgs false
namespace Go.Proofs.YtfohollhdaedlaaGreatDoor
open Go.RowKit
namespace Utf

set_option maxHeartbeats 400000 in
set_option maxRecDepth 100000 in
theorem rnext_calls (s : ByteArray) (i : Int) (hs : s.size ≤ 140737488351232) (w : World) :
    Calls Tryz.prog 89 #[.string s, .int .i64 i] w fun e w' => e = .returned (.tuple #[.int .i64 (next s i).1, .int .i64 (next s i).2]) ∧ Below w.heap.size w w' := by
  by_cases h0 : i < 0
  · have HX := Lib.hid (next_out (s := s) (.inl h0))
    go_enter Tryz.func89, Tryz.ntmps89
    go_wp2_with fail
    go_ret2
    exact ⟨ret_int2 (by rw [HX.out]) (by rw [HX.out]), Below.refl _ _⟩
  · obtain ⟨a, rfl⟩ := Int.eq_ofNat_of_zero_le (show 0 ≤ i by omega)
    by_cases h1 : a < s.size
    · have := rnx_calls s a h1 hs w
      rw [next_in h1]
      exact this
    · have HX := Lib.hid (next_out (s := s) (i := a) (.inr (by omega)))
      have h2 : s.size ≤ a := by omega
      clear h1
      go_enter Tryz.func89, Tryz.ntmps89
      go_wp2_with fail
      go_ret2
      exact ⟨ret_int2 (by rw [HX.out]) (by rw [HX.out]), Below.refl _ _⟩

theorem infoInt : (Tryz.prog.info? 3).map (fun i => (i.zero, i.size, i.bytes)) = some (some (.int .i64 0), 1, 8) := by kernel_rfl
theorem ints_one (k : IntKind) (bs : List Int) : ∀ u ∈ bs.map (Value.int k), u.oneCell' = true := by
  intro u hu
  obtain ⟨_, _, rfl⟩ := List.mem_map.1 hu
  rfl

set_option maxHeartbeats 800000 in
theorem rends_calls (s : ByteArray) (hs : s.size ≤ 16777216) (w : World) :
    Calls Tryz.prog 88 #[.string s] w fun e w' => ∃ v, e = .returned v ∧ w'.ownsRow w.heap.size 3 1 v (endsF s 0).length ((endsF s 0).map (.int .i64)) ∧ Below w.heap.size w w' := by
  go_enter Tryz.func88, Tryz.ntmps88
  go_wp2_with fail
  go_loopw [3, 4, 10] (fun out sk ix wr => ∃ (a k : Nat) (L : List Int), a + k ≤ s.size ∧ L.length ≤ a ∧ ix = .int .i64 a ∧ sk = .int .i64 k ∧ Hid (L ++ endsF s (a + k) = endsF s 0) ∧ wr.ownsRow w.heap.size 3 1 out L.length (L.map (.int .i64)) ∧ Below w.heap.size w wr) (fun _ _ i _ => s.size - (intOf i).toNat)
  case atStart => exact ⟨0, 0, [], Nat.zero_le _, Nat.le_refl _, rfl, rfl, rfl, World.ownsRow_nil _ _ _ _, Below.refl _ _⟩
  case round =>
    obtain ⟨a, k, L, ha, hL, rfl, rfl, HV, HO, HB⟩ := hrel
    by_cases hlt : a < s.size
    · by_cases hk : 0 < k
      · go_wp2_with fail
        go_roundw
        case rel => exact ⟨a + 1, k - 1, L, by omega, by omega, by go_num, by rw [show ((k - 1 : Nat) : Int) = (k : Int) - 1 by omega], by rw [show a + 1 + (k - 1) = a + k by omega]; exact HV, HO, HB⟩
        case measure => simp [intOf]; omega
      · obtain rfl : k = 0 := by omega
        have hst := nx_step s a hlt
        have HX := Lib.hid (endsF_go hlt)
        have HA := Lib.hid (adv_range s a hlt)
        have hbs := HB.size
        go_wp2_with fail
        refine (rnx_calls s a hlt (by omega) _).mono ?_
        rintro e w1 ⟨rfl, hb1⟩
        have hbs1 := hb1.size
        have HB1 : Hid (Below w.heap.size w w1) := below_next HB hb1
        have HO1 := Lib.hid (own_below HO hb1)
        clear HO HB hb1
        go_wp2_with (at_builtin; refine wpList_app_own _ rfl (.tmp 25) (.tmp 29) 62 rfl w.heap.size 3 (.int .i64 0) 1 8 Tryz.underlying62 infoInt rfl (by decide) _ L.length (L.map (.int .i64)) rfl (HO1.out.alloc _) _ 1 1 _ rfl (sl_lit _ _ _ 1 rfl (by decide)) (by simp [Value.oneCell']) (by unfold maxLen; omega) (by omega) (by simp; omega) ?_)
        intro v' w2 ho2 hg2 hb2
        have HO2 := Lib.hid ho2
        clear ho2 hg2
        go_wp2_with fail
        go_roundw
        case rel =>
          refine ⟨a + 1, (nx s a).2.toNat - 1, L ++ [(a : Int) + (nx s a).2], by have := HA.out; omega, by simp; omega, by go_num, by rw [show (((nx s a).2.toNat - 1 : Nat) : Int) = (nx s a).2 - 1 by omega], ?_, ?_, (HB1.out.alloc (by omega) _).trans hb2⟩
          · have h1 := HV.out
            rw [Nat.add_zero, HX.out] at h1
            show _ ++ _ = _
            rw [← h1, show a + 1 + ((nx s a).2.toNat - 1) = adv s a by have := HA.out; omega, List.append_assoc, HA.out.2.2]; rfl
          · rw [List.length_append, List.map_append]
            exact HO2.out
        case measure => simp [intOf]; omega
    · obtain rfl : k = 0 := by omega
      have HX := Lib.hid (endsF_end hlt)
      go_wp2_with fail
      go_ret
      have e : L = endsF s 0 := by have := HV.out; rw [Nat.add_zero, HX.out, List.append_nil] at this; exact this
      rw [← e]
      exact ⟨_, rfl, HO, HB⟩

end Utf
end Go.Proofs.YtfohollhdaedlaaGreatDoor
