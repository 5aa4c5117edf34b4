/- Plain Lean: what the functions of the package fold compute, and the table of great letters. -/
import Derived.Test.YtfohollhdaedlaaGreatDoorUtfMath
import Derived.Test.YtfohollhdaedlaaGreatDoorSl
set_option linter.unusedVariables false
set_option linter.unusedSimpArgs false
namespace Go.Proofs.YtfohollhdaedlaaGreatDoor
namespace Fold

/-- A sign's small letter. -/
def low (r : Int) : Int :=
  if (65 ≤ r ∧ r ≤ 90) ∨ (192 ≤ r ∧ r ≤ 214) ∨ (216 ≤ r ∧ r ≤ 222) ∨ (913 ≤ r ∧ r ≤ 929) ∨ (931 ≤ r ∧ r ≤ 937) ∨ (1040 ≤ r ∧ r ≤ 1071) then r + 32
  else if 1024 ≤ r ∧ r ≤ 1039 then r + 80
  else if (((256 ≤ r ∧ r ≤ 302) ∨ (306 ≤ r ∧ r ≤ 310) ∨ (330 ≤ r ∧ r ≤ 374) ∨ (1120 ≤ r ∧ r ≤ 1152)) ∧ r % 2 = 0) ∨ (((313 ≤ r ∧ r ≤ 327) ∨ (377 ≤ r ∧ r ≤ 381)) ∧ r % 2 = 1) then r + 1
  else r
def digit (r : Int) : Bool := decide (48 ≤ r ∧ r ≤ 57)
def letter (r : Int) : Bool := decide (¬ (r = 215 ∨ r = 247 ∨ r = 894 ∨ r = 903) ∧ ((65 ≤ r ∧ r ≤ 90) ∨ (97 ≤ r ∧ r ≤ 122) ∨ (192 ≤ r ∧ r ≤ 591) ∨ (880 ≤ r ∧ r ≤ 1327)))
def word (r : Int) : Bool := letter r || digit r

/-- The table: low, high, step, up. -/
def tab : List (Int × Int × Int × Int) :=
  [(65, 90, 1, 32), (192, 214, 1, 32), (216, 222, 1, 32), (256, 302, 2, 1), (306, 310, 2, 1), (313, 327, 2, 1), (330, 374, 2, 1), (377, 381, 2, 1), (913, 929, 1, 32), (931, 937, 1, 32), (1024, 1039, 1, 80), (1040, 1071, 1, 32), (1120, 1152, 2, 1)]
def lo (k : Nat) : Int := (tab.getD k (0, 0, 1, 0)).1
def hi (k : Nat) : Int := (tab.getD k (0, 0, 1, 0)).2.1
def st (k : Nat) : Int := (tab.getD k (0, 0, 1, 0)).2.2.1
def up (k : Nat) : Int := (tab.getD k (0, 0, 1, 0)).2.2.2
def rowsCells : Array Value := ((tab.map fun x => [Value.int .i64 x.1, .int .i64 x.2.1, .int .i64 x.2.2.1, .int .i64 x.2.2.2]).flatten).toArray
theorem thirteen {k : Nat} (h : k < 13) : k = 0 ∨ k = 1 ∨ k = 2 ∨ k = 3 ∨ k = 4 ∨ k = 5 ∨ k = 6 ∨ k = 7 ∨ k = 8 ∨ k = 9 ∨ k = 10 ∨ k = 11 ∨ k = 12 := by omega
theorem tab_ranges (k : Nat) (h : k < 13) : 0 ≤ lo k ∧ lo k ≤ 1152 ∧ 1 ≤ st k ∧ st k ≤ 2 ∧ 1 ≤ up k ∧ up k ≤ 80 ∧ 0 ≤ hi k ∧ hi k ≤ 1152 := by
  rcases thirteen h with rfl | rfl | rfl | rfl | rfl | rfl | rfl | rfl | rfl | rfl | rfl | rfl | rfl <;> decide
def hit (r : Int) (k : Nat) : Prop := lo k ≤ r ∧ r ≤ hi k ∧ (r - lo k) % st k = 0
theorem low_hit (r : Int) (k : Nat) (h : k < 13) (hh : hit r k) : low r = r + up k := by
  obtain ⟨h1, h2, h3⟩ := hh
  rcases thirteen h with rfl | rfl | rfl | rfl | rfl | rfl | rfl | rfl | rfl | rfl | rfl | rfl | rfl <;>
  · simp only [lo, hi, st, up, tab, List.getD, List.getElem?_cons_zero, List.getElem?_cons_succ, Option.getD_some] at h1 h2 h3 ⊢
    unfold low; repeat' split
    all_goals omega
theorem low_none (r : Int) (h : ∀ k, k < 13 → ¬ hit r k) : low r = r := by
  have e : ∀ k, k < 13 → ¬ (lo k ≤ r ∧ r ≤ hi k ∧ (r - lo k) % st k = 0) := h
  have h0 := e 0 (by decide)
  have h1 := e 1 (by decide)
  have h2 := e 2 (by decide)
  have h3 := e 3 (by decide)
  have h4 := e 4 (by decide)
  have h5 := e 5 (by decide)
  have h6 := e 6 (by decide)
  have h7 := e 7 (by decide)
  have h8 := e 8 (by decide)
  have h9 := e 9 (by decide)
  have h10 := e 10 (by decide)
  have h11 := e 11 (by decide)
  have h12 := e 12 (by decide)
  simp only [lo, hi, st, tab, List.getD, List.getElem?_cons_zero, List.getElem?_cons_succ, Option.getD_some] at h0 h1 h2 h3 h4 h5 h6 h7 h8 h9 h10 h11 h12
  unfold low; repeat' split
  all_goals omega

theorem low_range (r : Int) (h : -9223372036854775808 ≤ r ∧ r ≤ 9223372036854775807) : -9223372036854775808 ≤ low r ∧ low r ≤ 9223372036854775807 := by
  unfold low; repeat' split
  all_goals omega
/-- P4.4. -/
theorem low_low (r : Int) : low (low r) = low r := by
  unfold low; repeat' split
  all_goals omega
theorem sgn_low (r : Int) (h : Utf.sgn r = true) : Utf.sgn (low r) = true := by
  rw [Utf.sgn_iff] at *
  unfold low; repeat' split
  all_goals omega
theorem letter_low (r : Int) : letter (low r) = letter r := by
  unfold letter
  rw [Bool.eq_iff_iff, decide_eq_true_iff, decide_eq_true_iff]
  unfold low; repeat' split
  all_goals omega
theorem digit_low (r : Int) : digit (low r) = digit r := by
  unfold digit
  rw [Bool.eq_iff_iff, decide_eq_true_iff, decide_eq_true_iff]
  unfold low; repeat' split
  all_goals omega

theorem or32 (r : Int) (h0 : 0 ≤ r) (h1 : r < 192) : bits .or .i64 r 32 = if r / 32 % 2 = 1 then r else r + 32 := by
  have h : ∀ a : Fin 192, (a.val ||| 32) = if a.val / 32 % 2 = 1 then a.val else a.val + 32 := by decide +kernel
  obtain ⟨n, rfl⟩ := Int.eq_ofNat_of_zero_le h0
  have hn := h ⟨n, by omega⟩
  have e := (bits_nat .i64 62 (by decide) wraps_i64 n 32 (by omega) (by decide)).2
  have e2 : ((32 : Nat) : Int) = 32 := rfl
  rw [e2] at e
  simp only at hn
  rw [e, hn]
  split <;> split <;> omega
theorem or32_neg (r : Int) (h0 : r < 0) (h1 : -9223372036854775808 ≤ r) : bits .or .i64 r 32 < 0 := by
  show IntKind.i64.wrap ((BitVec.ofInt 64 r ||| BitVec.ofInt 64 32).toNat : Int) < 0
  have h2 : (BitVec.ofInt 64 r).toNat = (r % 18446744073709551616).toNat := by simp [BitVec.toNat_ofInt]
  have h3 : (BitVec.ofInt 64 r).toNat ≤ (BitVec.ofInt 64 r ||| BitVec.ofInt 64 32).toNat := by rw [BitVec.toNat_or]; exact Nat.left_le_or
  have h4 := (BitVec.ofInt 64 r ||| BitVec.ofInt 64 32).isLt
  generalize (BitVec.ofInt 64 r ||| BitVec.ofInt 64 32).toNat = n at *
  rw [IntKind.wrap_i64]
  have h5 : (2 : Nat) ^ 64 = 18446744073709551616 := by decide
  rw [h5] at h4
  omega
end Fold
end Go.Proofs.YtfohollhdaedlaaGreatDoor
