/- Terms: cmp.Less, cmp.Compare, slices.IsSorted at whole numbers. -/
import Derived.Test.YtfohollhdaedlaaDoorTrmS
import Derived.Deep.RegionLaw
import Derived.Deep.QuietTactic
import Derived.BigQuiet
set_option linter.unusedVariables false
set_option linter.unusedSimpArgs false
set_option maxRecDepth 100000
namespace Go.Proofs.YtfohollhdaedlaaDoor
open Go.RowKit
namespace Trm
theorem isnani_calls (a : Int) (w : World) : Calls Tryd.prog 63 #[.int .i64 a] w fun e w' => e = .returned (.bool false) ∧ w' = w := by
  have h : (a == a) = true := by simp
  have h2 : (a != a) = false := by simp
  go_enter Tryd.func63, Tryd.ntmps63
  go_wp2_with fail
  go_ret
  exact ⟨by simp, rfl⟩
set_option maxHeartbeats 1000000 in
theorem lessi_calls (a b : Int) (w : World) : Calls Tryd.prog 55 #[.int .i64 a, .int .i64 b] w fun e w' => e = .returned (.bool (decide (a < b))) ∧ w' = w := by
  go_enter Tryd.func55, Tryd.ntmps55
  go_wp2_with (go_at_call 63; refine (isnani_calls _ _).mono ?_; rintro e w' ⟨rfl, rfl⟩)
  go_ret
  exact ⟨rfl, rfl⟩
def cmpI (a b : Int) : Int := if a < b then -1 else if b < a then 1 else 0
set_option maxHeartbeats 1000000 in
theorem cmpi_calls (a b : Int) (w : World) : Calls Tryd.prog 29 #[.int .i64 a, .int .i64 b] w fun e w' => e = .returned (.int .i64 (cmpI a b)) ∧ w' = w := by
  by_cases h1 : a < b
  · have HR : Hid (cmpI a b = -1) := by show _ = _; unfold cmpI; rw [if_pos h1]
    go_enter Tryd.func29, Tryd.ntmps29
    go_wp2_with (go_at_call 63; refine (isnani_calls _ _).mono ?_; rintro e w' ⟨rfl, rfl⟩)
    go_ret
    exact ⟨by rw [HR.out]; rfl, rfl⟩
  · by_cases h2 : b < a
    · have HR : Hid (cmpI a b = 1) := by show _ = _; unfold cmpI; rw [if_neg h1, if_pos h2]
      go_enter Tryd.func29, Tryd.ntmps29
      go_wp2_with (go_at_call 63; refine (isnani_calls _ _).mono ?_; rintro e w' ⟨rfl, rfl⟩)
      go_ret
      exact ⟨by rw [HR.out]; rfl, rfl⟩
    · have HR : Hid (cmpI a b = 0) := by show _ = _; unfold cmpI; rw [if_neg h1, if_neg h2]
      go_enter Tryd.func29, Tryd.ntmps29
      go_wp2_with (go_at_call 63; refine (isnani_calls _ _).mono ?_; rintro e w' ⟨rfl, rfl⟩)
      go_ret
      exact ⟨by rw [HR.out]; rfl, rfl⟩
set_option maxHeartbeats 4000000 in
/-- Numbers that rise are sorted. -/
theorem issorted_calls (w : World) (A : Option Addr) (n c : Nat) (l : List Int) (h : IsSl w 1 A n c (l.map (.int .i64))) (hs : l.Pairwise (· ≤ ·)) :
    Calls Tryd.prog 22 #[.slice A n c] w fun e w' => e = .returned (.bool true) ∧ Below w.heap.size w w' := by
  have hl := h.1
  rw [List.length_map, Nat.mul_one] at hl
  have hnc := h.2.1
  have hcm := h.2.2.1
  unfold maxLen at hcm
  have H := Lib.hid h
  have HS := Lib.hid hs
  clear h hs
  cases n with
  | zero =>
    go_enter Tryd.func22, Tryd.ntmps22
    go_wp2_with fail
    go_loopw [3] (fun ix wr => ix = .int .i64 (-1) ∧ Below w.heap.size w wr) (fun _ _ => 0)
    case atStart => exact ⟨by go_num, Below.refl _ _⟩
    case round =>
      obtain ⟨rfl, hb⟩ := hrel
      have HB := Lib.hid hb
      clear hb
      go_wp2_with fail
      go_ret
      exact ⟨rfl, HB.out⟩
  | succ m =>
    obtain ⟨n, hn⟩ : ∃ n, m + 1 = n := ⟨_, rfl⟩
    rw [hn] at hl hnc H ⊢
    have hwn : IntKind.i64.wrap ((n : Int) - 1) = (m : Int) := by rw [IntKind.wrap_i64]; omega
    have HN := Lib.hid hn
    clear hn
    go_enter Tryd.func22, Tryd.ntmps22
    go_wp2_with fail
    go_loopw [3] (fun ix wr => ∃ k : Nat, k ≤ m ∧ ix = .int .i64 k ∧ Below w.heap.size w wr) (fun ix _ => (intOf ix).toNat)
    case atStart => exact ⟨m, Nat.le_refl _, rfl, Below.refl _ _⟩
    case round =>
      obtain ⟨k, hk, rfl, hb⟩ := hrel
      have HB := Lib.hid hb
      have hnm := HN.out
      by_cases hk0 : k = 0
      · subst hk0
        clear hb
        go_wp2_with fail
        go_ret
        exact ⟨rfl, HB.out⟩
      · obtain ⟨p, hp⟩ : ∃ p, k = p + 1 := ⟨k - 1, by omega⟩
        obtain ⟨y, hy⟩ : ∃ y, l[k]? = some y := ⟨_, List.getElem?_eq_getElem (by omega)⟩
        obtain ⟨x, hx⟩ : ∃ x, l[p]? = some x := ⟨_, List.getElem?_eq_getElem (by omega)⟩
        have hxy : x ≤ y := by
          have h1 := List.pairwise_iff_getElem.1 HS.out p k (by omega) (by omega) (by omega)
          rw [List.getElem?_eq_getElem (by omega)] at hx hy
          rw [Option.some.inj hx, Option.some.inj hy] at h1
          exact h1
        obtain ⟨ad, rfl, z1⟩ := int_at (H.out.below hb) hy
        obtain ⟨ad', hA, z0⟩ := int_at (H.out.below hb) hx
        obtain rfl := Option.some.inj hA
        have hlt : decide (y < x) = false := by rw [decide_eq_false_iff_not]; omega
        have hwk : IntKind.i64.wrap ((k : Int) - 1) = (p : Int) := by rw [IntKind.wrap_i64]; omega
        have hkp : (0 : Int) < (k : Int) := by omega
        have c1 : (k : Int) < (n : Int) := by omega
        have c2 : (p : Int) < (n : Int) := by omega
        have c3 : p < n := by omega
        have c4 : k < n := by omega
        have C := Lib.hid (lessi_calls y x)
        rw [hlt] at C
        have HP := Lib.hid hp
        clear hb hx hy hA hxy hlt hp hnm
        go_wp2_with fail
        go_quiet (first
          | (go_at_call 55; refine Calls.quiet_of_same (C.out _)))
        go_wp2_with fail
        have hpk := HP.out
        go_roundw
        case rel => exact ⟨p, by omega, rfl, HB.out.os, HB.out.tape, HB.out.output, HB.out.size, HB.out.block⟩
        case measure => simp [intOf]; omega
set_option maxHeartbeats 2000000 in
theorem tcmp_calls (w : World) (a b : Int) (u v : Value) :
    Calls Tryd.prog 28 #[.agg #[.int .i64 a, u], .agg #[.int .i64 b, v]] w fun r w' => r = .returned (.int .i64 (cmpI a b)) ∧ Below w.heap.size w w' := by
  have hal : Below w.heap.size w ((w.alloc (.cells #[.int .i64 a, u] 46)).alloc (.cells #[.int .i64 b, v] 46)) := ((Below.refl _ _).alloc (Nat.le_refl _) _).alloc (by simp) _
  have HAL := Lib.hid hal
  clear hal
  go_enter Tryd.func28, Tryd.ntmps28
  go_wp2_with (go_at_call 29; refine (cmpi_calls _ _ _).mono ?_; rintro e w' ⟨rfl, rfl⟩)
  go_ret
  exact ⟨rfl, HAL.out⟩
end Trm
end Go.Proofs.YtfohollhdaedlaaDoor
