/- The walk: token.Single. -/
import Derived.Test.YtfohollhdaedlaaDoorTokW2
import Derived.Laws.StructEq
set_option linter.unusedVariables false
set_option linter.unusedSimpArgs false
set_option maxRecDepth 100000
namespace Go.Proofs.YtfohollhdaedlaaDoor
open Go.RowKit Utf Fold
namespace Tok
theorem eq_span (a b c d : Int) (w : World) : (binOp .eql 118 (.agg #[.int .i64 a, .int .i64 b]) (.agg #[.int .i64 c, .int .i64 d])).run Tryd.prog w = .ok (.bool (a == c && b == d)) w := by
  have hS : Tryd.prog.underlying 118 = some (.struct (Tryd.prog.fieldsOf 118)) := by kernel_rfl
  have hp : Tryd.prog.stoodInHeld 118 = false := by kernel_rfl
  rw [run_eql_struct, show (10000 : Nat) = 9999 + 1 from rfl, run_equalIn_agg w 9999 118 _ _ hS hp]
  simp only [Program.fieldsOf, Tryd.underlying118]
  go_simp
  by_cases h1 : a = c <;> by_cases h2 : b = d <;> simp [h1, h2]
theorem guard_span (xs ys : Array Value) (x y : Operand) (w : World) : (eqGuard .eql 118 x y (.agg xs) (.agg ys)).run Tryd.prog w = .ok () w := run_eqGuard_agg w .eql 118 x y xs ys (by kernel_rfl)
set_option maxHeartbeats 1000000 in
theorem single_calls (s : ByteArray) (hs : s.size ≤ 16777216) (w : World) :
    Calls Tryd.prog 57 #[.string s] w fun e w' => e = .returned (.bool (single s)) ∧ Below w.heap.size w w' := by
  have hlen := spans_length s 0
  have hsin : single s = decide (spans s 0 = [(0, s.size)]) := rfl
  rw [hsin]
  go_enter Tryd.func57, Tryd.ntmps57
  go_wp2_with fail
  refine (spans0_calls s hs _).mono ?_
  rintro e w1 ⟨v, rfl, ho, hb⟩
  obtain ⟨A, c, rfl, hsl⟩ := own_form ho
  have HB1 := Lib.hid hb
  have HS := Lib.hid hsl
  clear ho hb hsl
  generalize hsp : spans s 0 = l at *
  have HSP := Lib.hid hsp
  clear hsp hsin
  have heq := eq_span
  have hgu := guard_span
  by_cases h1 : l.length = 1
  · obtain ⟨⟨f, t⟩, b, o, hx, hd, htk, rfl, hc0, hc1⟩ := span_at HS.out rfl (i := 0) (by omega)
    simp only [Nat.zero_mul, Nat.add_zero] at hc0 hc1
    have hl : l = [(f, t)] := by
      have h2 : l = (f, t) :: l.drop 1 := by simpa using hd
      rw [h2, List.drop_eq_nil_of_le (by omega)]
    have HV : Hid (((f : Int) == 0 && (t : Int) == s.size) = decide (l = [(0, s.size)])) := by
      show _ = _
      rw [hl, Bool.eq_iff_iff]
      simp
      omega
    clear hx hd htk
    have h1' : (l.length : Int) = 1 := by omega
    generalize l.length = n at *
    go_wp2_with fail
    go_ret
    refine ⟨?_, HB1.out⟩
    rw [HSP.out, ← HV.out]
    rfl
  · have HV : Hid (decide (l = [(0, s.size)]) = false) := by
      show _ = _
      rw [decide_eq_false_iff_not]
      rintro rfl
      exact h1 rfl
    have h1' : ((l.length : Int) == 1) = false := by simp; omega
    generalize l.length = n at *
    go_wp2_with fail
    go_ret
    refine ⟨?_, HB1.out⟩
    rw [HSP.out, HV.out]
    rfl
end Tok
end Go.Proofs.YtfohollhdaedlaaDoor
