/- The walks: the example of layer 7, filled, First. -/
import Derived.Test.YtdmpgoaemoiogaaBoxW2
set_option linter.unusedVariables false
set_option linter.unusedSimpArgs false
set_option maxRecDepth 100000
namespace Go.Proofs.Ytdmpgoaemoiogaa
open Go.RowKit
namespace Box

theorem below_row {B : Nat} {a w w' : World} {c : Nat} (h : Below B a w) (hB : B ≤ w.heap.size) (hg : w.grownBy w' (some c)) (hc : B ≤ c) : Below B a w' :=
  h.grown hg hB fun k hk => by cases hk; exact hc

set_option maxHeartbeats 1000000 in
theorem awake_calls (w : World) :
    Calls Try.prog 13 #[] w fun e w' => e = .returned (.bool true) ∧ Below w.heap.size w w' := by
  go_enter Try.func13, Try.ntmps13
  go_wp2_with fail
  refine (new_int w 2 (by decide)).mono ?_
  rintro e w1 ⟨b, c, rfl, hx, hb1, hB, hC⟩
  have HX1 : Hid (IsBox w1 b c 2 []) := hx
  have HB1 := Lib.hid hb1
  have hs1 := hb1.size
  clear hx hb1
  go_wp2_with fail
  refine (put_int w1 b c 2 [] (.int .i64 1) HX1.out).mono ?_
  rintro e w2 ⟨rfl, hx, hg, hs2⟩
  have HX2 : Hid (IsBox w2 b c 2 [.int .i64 1]) := hx
  have HB2 := Lib.hid (below_row HB1.out hs1 hg hC)
  clear hx hg
  go_wp2_with fail
  refine (put_int w2 b c 2 _ (.int .i64 2) HX2.out).mono ?_
  rintro e w3 ⟨rfl, hx, hg, hs3⟩
  have HX3 : Hid (IsBox w3 b c 2 [.int .i64 1, .int .i64 2]) := hx
  have HB3 := Lib.hid (below_row HB2.out (by omega) hg hC)
  clear hx hg
  go_wp2_with fail
  refine (put_int w3 b c 2 _ (.int .i64 3) HX3.out).mono ?_
  rintro e w4 ⟨rfl, hx, hg, hs4⟩
  have HX4 : Hid (IsBox w4 b c 2 [.int .i64 1, .int .i64 2]) := hx
  have HB4 := Lib.hid (below_row HB3.out (by omega) hg hC)
  clear hx hg
  go_wp2_with fail
  refine (len_int w4 b c 2 _ HX4.out).mono ?_
  rintro e w5 ⟨rfl, rfl⟩
  go_wp2_with fail
  refine (room_int w5 b c 2 _ HX4.out).mono ?_
  rintro e w6 ⟨rfl, hb6, _⟩
  go_wp2_with fail
  go_ret
  exact ⟨rfl, HB4.out.trans (hb6.mono (by omega))⟩

/-- What filled hands over: a box with the first of some, and these. -/
def Filled (w : World) (A : Option Addr) (q cap k : Nat) (xs : List Value) (e : Ending) (w' : World) : Prop :=
  ∃ b c, e = .returned (.tuple #[.pointer (some ⟨b, 0, none⟩), .slice A q cap]) ∧ IsBox w' b c k (xs.take k) ∧ Below w.heap.size w w' ∧ w.heap.size ≤ b ∧ w.heap.size ≤ c

set_option maxHeartbeats 1000000 in
theorem filled_calls (w : World) (room : Int) (hr : -9223372036854775808 ≤ room ∧ room ≤ 9223372036854775807) (A : Option Addr) (n cap : Nat) (xs : List Value) (hs : IsSl w 1 A n cap xs) :
    Calls Try.prog 11 #[.int .i64 room, .slice A n cap] w (Filled w A (min n (min (max room 0) 100).toNat) cap (min (max room 0) 100).toNat xs) := by
  have HS := Lib.hid hs
  have hn := hs.1
  have hc1 := hs.2.1
  have hc2 := hs.2.2.1
  unfold maxLen at hc2
  clear hs
  obtain ⟨k0, hk0⟩ : ∃ k0 : Nat, (if room < 0 then 0 else room) = (k0 : Int) := ⟨(max room 0).toNat, by split <;> omega⟩
  obtain ⟨k, hk⟩ : ∃ k : Nat, (if (100 : Int) < k0 then 100 else (k0 : Int)) = (k : Int) := ⟨min k0 100, by split <;> omega⟩
  have hkk : (min (max room 0) 100).toNat = k := by split at hk0 <;> split at hk <;> omega
  obtain ⟨m, hm⟩ : ∃ m : Nat, (if (200 : Int) < n then 200 else (n : Int)) = (m : Int) := ⟨min n 200, by split <;> omega⟩
  have hmm : m ≤ n ∧ (m = n ∨ m = 200) := by split at hm <;> omega
  obtain ⟨q, hq⟩ : ∃ q : Nat, (if (k : Int) < n then (k : Int) else (n : Int)) = (q : Int) := ⟨min n k, by split <;> omega⟩
  have hqq : min n k = q := by split at hq <;> omega
  have hk100 : k ≤ 100 := by split at hk <;> omega
  rw [hkk, hqq]
  clear hkk
  have hmc : (m : Int) ≤ cap := by omega
  have hqc : (q : Int) ≤ cap := by omega
  have hm0 : (0 : Int) ≤ m := by omega
  go_enter Try.func11, Try.ntmps11
  go_wp2_with fail
  refine (new_str w k (by omega)).mono ?_
  rintro e w1 ⟨b, c, rfl, hx, hb1, hB, hC⟩
  rw [show (min (max (k : Int) 0) 4096).toNat = k by omega] at hx
  have HX1 := Lib.hid hx
  have HB1 := Lib.hid hb1
  have HS1 := Lib.hid (HS.out.below hb1)
  have hs1 := hb1.size
  clear hx hb1
  go_wp2_with fail
  have hl1 : xs.length = n := by omega
  go_loopw [20] (fun ix wr => ∃ i : Nat, i ≤ m ∧ ix = .int .i64 i ∧ IsBox wr b c k ((xs.take i).take k) ∧ Below w.heap.size w wr) (fun ix _ => m - (intOf ix).toNat)
  case atStart => exact ⟨0, Nat.zero_le _, rfl, by simpa using HX1.out, HB1.out⟩
  case round =>
    obtain ⟨i, hi, rfl, hx, hb⟩ := hrel
    have HX := Lib.hid hx
    have HB := Lib.hid hb
    have HS := Lib.hid (HS.out.below hb)
    have hbs := hb.size
    clear hx hb
    by_cases hlt : i < m
    · obtain ⟨ad, rfl, hcell⟩ := HS.out.at_ (show i < n by omega)
      obtain ⟨x, hx⟩ : ∃ x, xs[i]? = some x := ⟨xs[i], List.getElem?_eq_getElem (by omega)⟩
      rw [List.getD_eq_getElem?_getD, hx, Option.getD_some] at hcell
      go_wp2_with fail
      refine (put_str wr b c k _ x HX.out).mono ?_
      rintro e w2 ⟨rfl, hx2, hg, hs2⟩
      have HX2 := Lib.hid hx2
      have HB2 := Lib.hid (below_row HB.out (by omega) hg hC)
      clear hx2 hg
      go_wp2_with fail
      go_roundw
      case rel =>
        refine ⟨i + 1, by omega, by go_num, ?_, HB2.out⟩
        have h1 : ((xs.take i).take k).length = min k i := by simp; omega
        have h2 := HX2.out
        rw [h1] at h2
        by_cases hik : i < k
        · rw [if_pos (by omega), List.take_of_length_le (by simp; omega)] at h2
          rw [List.take_of_length_le (l := xs.take (i + 1)) (by simp; omega), List.take_add_one, hx]
          exact h2
        · rw [if_neg (by omega), List.take_take] at h2
          rw [List.take_take]
          rw [show min k i = k by omega] at h2
          rw [show min k (i + 1) = k by omega]
          exact h2
      case measure => simp [intOf]; omega
    · obtain rfl : i = m := by omega
      have hx : IsBox wr b c k (xs.take k) := by
        have h := HX.out
        rw [List.take_take] at h
        rcases hmm.2 with e | e
        · rw [show xs.take k = xs.take (min k i) by
            by_cases h3 : k ≤ i
            · rw [Nat.min_eq_left h3]
            · rw [Nat.min_eq_right (by omega), List.take_of_length_le (by omega), List.take_of_length_le (by omega)]]
          exact h
        · rw [Nat.min_eq_left (by omega)] at h; exact h
      have HX2 := Lib.hid hx
      clear hx
      go_wp2_with fail
      go_region
      have hqe : (if k < n then (k : Int) else (n : Int)).toNat = q := by split <;> omega
      rw [hqe]
      have HBd : Below w.heap.size w wr.drew := HB.out.trans ⟨rfl, rfl, rfl, Nat.le_refl _, fun _ _ => rfl⟩
      (go_wp2_with fail) <;> (go_ret2; exact ⟨b, c, rfl, HX2.out, HBd, hB, hC⟩)
end Box
end Go.Proofs.Ytdmpgoaemoiogaa
