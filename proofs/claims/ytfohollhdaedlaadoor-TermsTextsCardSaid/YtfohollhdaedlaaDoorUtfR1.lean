/- The walks of the reference of layer 3: value, Sign, Bytes. -/
import Derived.Test.YtfohollhdaedlaaDoorUtfW3
import Derived.Test.YtfohollhdaedlaaDoorUtfEnc
set_option linter.unusedVariables false
set_option linter.unusedSimpArgs false
namespace Go.Proofs.YtfohollhdaedlaaDoor
open Go.RowKit
namespace Utf

set_option maxHeartbeats 400000 in
theorem value_calls (c : Int) (h0 : 0 ≤ c) (h1 : c < 256) (w : World) :
    Calls Tryd.prog 132 #[.int .u8 c] w fun e w' => e = .returned (.int .i64 (c % 64)) ∧ w' = w := by
  go_enter Tryd.func132, Tryd.ntmps132
  go_wp2_with fail
  go_ret
  exact ⟨rfl, rfl⟩

set_option maxHeartbeats 400000 in
theorem rsign_calls (r : Int) (w : World) :
    Calls Tryd.prog 153 #[.int .i64 r] w fun e w' => e = .returned (.bool (sgn r)) ∧ w' = w := by
  go_enter Tryd.func153, Tryd.ntmps153
  go_wp2
  all_goals go_ret
  all_goals (refine ⟨ret_bool ?_, rfl⟩; rw [Bool.eq_iff_iff]; simp [sgn]; omega)

theorem infoU8 : (Tryd.prog.info? 5).map (fun i => (i.zero, i.size, i.bytes)) = some (some (.int .u8 0), 1, 1) := by kernel_rfl

set_option maxHeartbeats 800000 in
theorem rbytes_calls (r : Int) (hr : -9223372036854775808 ≤ r ∧ r ≤ 9223372036854775807) (w : World) :
    Calls Tryd.prog 133 #[.int .i64 r] w fun e w' => ∃ v, e = .returned v ∧ w'.ownsRow w.heap.size 5 1 v (enc r).length ((enc r).map (.int .u8)) ∧ Below w.heap.size w w' := by
  cases hs : sgn r
  · rw [enc0 hs]
    go_enter Tryd.func133, Tryd.ntmps133
    go_wp2_with fail
    refine (rsign_calls _ _).mono ?_
    rintro e w1 ⟨rfl, rfl⟩
    rw [hs]
    clear hs
    go_wp2_with fail
    go_ret
    exact ⟨_, rfl, World.ownsRow_nil _ _ _ _, Below.refl _ _⟩
  · have hs' := (sgn_iff r).1 hs
    by_cases h1 : r ≤ 127
    · rw [enc1 hs h1]
      go_enter Tryd.func133, Tryd.ntmps133
      go_wp2_with fail
      refine (rsign_calls _ _).mono ?_
      rintro e w1 ⟨rfl, rfl⟩
      rw [hs]
      clear hs
      go_wp2_with fail
      go_ret
      exact ⟨_, rfl, own_lit _ _ _ _ _ rfl (Nat.le_refl _) (by decide), (Below.refl _ _).alloc (Nat.le_refl _) _⟩
    · by_cases h2 : r ≤ 2047
      · rw [enc2 hs h1 h2]
        go_enter Tryd.func133, Tryd.ntmps133
        go_wp2_with fail
        refine (rsign_calls _ _).mono ?_
        rintro e w1 ⟨rfl, rfl⟩
        rw [hs]
        clear hs
        go_wp2_with fail
        go_ret
        exact ⟨_, rfl, own_lit _ _ _ _ _ rfl (Nat.le_refl _) (by decide), (Below.refl _ _).alloc (Nat.le_refl _) _⟩
      · by_cases h3 : r ≤ 65535
        · rw [enc3 hs h1 h2 h3]
          go_enter Tryd.func133, Tryd.ntmps133
          go_wp2_with fail
          refine (rsign_calls _ _).mono ?_
          rintro e w1 ⟨rfl, rfl⟩
          rw [hs]
          clear hs
          go_wp2_with fail
          go_ret
          exact ⟨_, rfl, own_lit _ _ _ _ _ rfl (Nat.le_refl _) (by decide), (Below.refl _ _).alloc (Nat.le_refl _) _⟩
        · rw [enc4 hs h1 h2 h3]
          go_enter Tryd.func133, Tryd.ntmps133
          go_wp2_with fail
          refine (rsign_calls _ _).mono ?_
          rintro e w1 ⟨rfl, rfl⟩
          rw [hs]
          clear hs
          go_wp2_with fail
          go_ret
          exact ⟨_, rfl, own_lit _ _ _ _ _ rfl (Nat.le_refl _) (by decide), (Below.refl _ _).alloc (Nat.le_refl _) _⟩
end Utf
end Go.Proofs.YtfohollhdaedlaaDoor
