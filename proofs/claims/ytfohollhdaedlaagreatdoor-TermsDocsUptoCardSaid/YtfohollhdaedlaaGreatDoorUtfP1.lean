/- The walks of Put (utf's and the reference's), bytes.Equal and bytes.Clone. -/
import Derived.Test.YtfohollhdaedlaaGreatDoorUtfR
set_option linter.unusedVariables false
set_option linter.unusedSimpArgs false
namespace Go.Proofs.YtfohollhdaedlaaGreatDoor
open Go.RowKit
namespace Utf

set_option maxHeartbeats 800000 in
theorem put_calls (A : Option Addr) (n c : Nat) (bs : List Int) (r : Int) (hr : -9223372036854775808 ≤ r ∧ r ≤ 9223372036854775807) (w : World) (hx : IsSl w 1 A n c (bs.map (.int .u8))) (hn : n ≤ 140737488351232) :
    Calls Tryz.prog 58 #[.slice A n c, .int .i64 r] w fun e w' => ∃ v, e = .returned v ∧ w'.ownsRow w.heap.size 5 1 v (bs ++ enc r).length ((bs ++ enc r).map (.int .u8)) ∧ Below w.heap.size w w' := by
  have hl : bs.length = n := by simpa using hx.1
  have hnc : (n : Int) ≤ c := by have := hx.2.1; omega
  have HX := Lib.hid hx
  cases hs : sgn r
  · rw [enc0 hs, List.append_nil]
    go_enter Tryz.func58, Tryz.ntmps58
    go_wp2_with fail
    refine (sign_calls _ _).mono ?_
    rintro e w1 ⟨rfl, rfl⟩
    rw [hs]
    clear hs hl hx
    go_wp2_with (at_builtin; refine wpList_app_own _ rfl (.const (.slice none 0 0)) (.tmp 16) 102 rfl w1.heap.size 5 (.int .u8 0) 1 1 Tryz.underlying102 infoU8 rfl (by decide) _ 0 [] rfl (World.ownsRow_nil _ _ _ _) A n c _ rfl HX.out (ints_one _ _) (by unfold maxLen; omega) (by omega) (Nat.le_refl _) ?_)
    intro v' w' ho hg hb
    have HO := Lib.hid ho
    clear ho hg
    go_wp2_with fail
    go_ret
    exact ⟨_, rfl, by rw [show bs.length = n by simpa using HX.out.1]; exact HO.out, hb⟩
  · have hs' := (sgn_iff r).1 hs
    have HL := Lib.hid hl
    by_cases h1 : r ≤ 127
    · have h1' : r < 128 := by omega
      rw [enc1 hs h1]
      go_enter Tryz.func58, Tryz.ntmps58
      go_wp2_with fail
      refine (sign_calls _ _).mono ?_
      rintro e w1 ⟨rfl, rfl⟩
      rw [hs]
      clear hs hl hx
      go_wp2_with (at_builtin; refine wpList_app_full _ rfl (.tmp 21) (.tmp 24) 102 rfl 5 (.int .u8 0) 1 1 Tryz.underlying102 infoU8 rfl (by decide) A n n _ rfl (HX.out.alloc _).full _ 1 1 _ rfl (sl_lit _ _ _ 1 rfl (by decide)) (by simp [Value.oneCell']) (by omega) (by unfold maxLen; omega) (by omega) ?_)
      intro v' w' ho hb
      have HO := Lib.hid ho
      clear ho
      go_wp2_with fail
      go_ret
      refine ⟨_, rfl, ?_, ((Below.refl _ _).alloc (Nat.le_refl _) _).trans (hb.mono (by simp))⟩
      rw [List.length_append, HL.out, List.map_append]
      exact own_base HO.out (by simp)
    · by_cases h2 : r ≤ 2047
      · have h1' : ¬ r < 128 := by omega
        have h2' : r < 2048 := by omega
        have e1 := i64_or192 (r / 64) (by omega) (by omega)
        have e2 := i64_and63 r (by omega) (by omega)
        have e3 := i64_or128 (r % 64) (by omega) (by omega)
        rw [enc2 hs h1 h2]
        go_enter Tryz.func58, Tryz.ntmps58
        go_wp2_with fail
        refine (sign_calls _ _).mono ?_
        rintro e w1 ⟨rfl, rfl⟩
        rw [hs]
        clear hs hl hx
        go_wp2_with (at_builtin; refine wpList_app_full _ rfl (.tmp 29) (.tmp 38) 102 rfl 5 (.int .u8 0) 1 1 Tryz.underlying102 infoU8 rfl (by decide) A n n _ rfl (HX.out.alloc _).full _ 2 2 _ rfl (sl_lit _ _ _ 2 rfl (by decide)) (by simp [Value.oneCell']) (by omega) (by unfold maxLen; omega) (by omega) ?_)
        intro v' w' ho hb
        have HO := Lib.hid ho
        clear ho
        go_wp2_with fail
        go_ret
        refine ⟨_, rfl, ?_, ((Below.refl _ _).alloc (Nat.le_refl _) _).trans (hb.mono (by simp))⟩
        rw [List.length_append, HL.out, List.map_append]
        exact own_base HO.out (by simp)
      · by_cases h3 : r ≤ 65535
        · have h2' : ¬ r < 2048 := by omega
          have h3' : r < 65536 := by omega
          have e1 := i64_or224 (r / 4096) (by omega) (by omega)
          have e2 := i64_and63 (r / 64) (by omega) (by omega)
          have e3 := i64_or128 (r / 64 % 64) (by omega) (by omega)
          have e4 := i64_and63 r (by omega) (by omega)
          have e5 := i64_or128 (r % 64) (by omega) (by omega)
          rw [enc3 hs h1 h2 h3]
          go_enter Tryz.func58, Tryz.ntmps58
          go_wp2_with fail
          refine (sign_calls _ _).mono ?_
          rintro e w1 ⟨rfl, rfl⟩
          rw [hs]
          clear hs hl hx
          go_wp2_with (at_builtin; refine wpList_app_full _ rfl (.tmp 43) (.tmp 57) 102 rfl 5 (.int .u8 0) 1 1 Tryz.underlying102 infoU8 rfl (by decide) A n n _ rfl (HX.out.alloc _).full _ 3 3 _ rfl (sl_lit _ _ _ 3 rfl (by decide)) (by simp [Value.oneCell']) (by omega) (by unfold maxLen; omega) (by omega) ?_)
          intro v' w' ho hb
          have HO := Lib.hid ho
          clear ho
          go_wp2_with fail
          go_ret
          refine ⟨_, rfl, ?_, ((Below.refl _ _).alloc (Nat.le_refl _) _).trans (hb.mono (by simp))⟩
          rw [List.length_append, HL.out, List.map_append]
          exact own_base HO.out (by simp)
        · have h3' : ¬ r < 65536 := by omega
          have e1 := i64_or240 (r / 262144) (by omega) (by omega)
          have e2 := i64_and63 (r / 4096) (by omega) (by omega)
          have e3 := i64_or128 (r / 4096 % 64) (by omega) (by omega)
          have e4 := i64_and63 (r / 64) (by omega) (by omega)
          have e5 := i64_or128 (r / 64 % 64) (by omega) (by omega)
          have e6 := i64_and63 r (by omega) (by omega)
          have e7 := i64_or128 (r % 64) (by omega) (by omega)
          rw [enc4 hs h1 h2 h3]
          go_enter Tryz.func58, Tryz.ntmps58
          go_wp2_with fail
          refine (sign_calls _ _).mono ?_
          rintro e w1 ⟨rfl, rfl⟩
          rw [hs]
          clear hs hl hx
          go_wp2_with (at_builtin; refine wpList_app_full _ rfl (.tmp 59) (.tmp 78) 102 rfl 5 (.int .u8 0) 1 1 Tryz.underlying102 infoU8 rfl (by decide) A n n _ rfl (HX.out.alloc _).full _ 4 4 _ rfl (sl_lit _ _ _ 4 rfl (by decide)) (by simp [Value.oneCell']) (by omega) (by unfold maxLen; omega) (by omega) ?_)
          intro v' w' ho hb
          have HO := Lib.hid ho
          clear ho
          go_wp2_with fail
          go_ret
          refine ⟨_, rfl, ?_, ((Below.refl _ _).alloc (Nat.le_refl _) _).trans (hb.mono (by simp))⟩
          rw [List.length_append, HL.out, List.map_append]
          exact own_base HO.out (by simp)
end Utf
end Go.Proofs.YtfohollhdaedlaaGreatDoor
