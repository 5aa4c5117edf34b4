/- The walks of the reference of layer 3: Next at any place, Valid, Ends, Count, Cut. -/
import Derived.Test.YtfohollhdaedlaaDoorUtfR2
set_option linter.unusedVariables false
set_option linter.unusedSimpArgs false
namespace Go.Proofs.YtfohollhdaedlaaDoor
open Go.RowKit
namespace Utf

set_option maxHeartbeats 400000 in
set_option maxRecDepth 100000 in
theorem rnext_calls (s : ByteArray) (i : Int) (hs : s.size ≤ 140737488351232) (w : World) :
    Calls Tryd.prog 102 #[.string s, .int .i64 i] w fun e w' => e = .returned (.tuple #[.int .i64 (next s i).1, .int .i64 (next s i).2]) ∧ Below w.heap.size w w' := by
  by_cases h0 : i < 0
  · have HX := Lib.hid (next_out (s := s) (.inl h0))
    go_enter Tryd.func102, Tryd.ntmps102
    go_wp2_with fail
    go_ret2
    exact ⟨ret_int2 (by rw [HX.out]) (by rw [HX.out]), Below.refl _ _⟩
  · obtain ⟨a, rfl⟩ := Int.eq_ofNat_of_zero_le (show 0 ≤ i by omega)
    by_cases h1 : a < s.size
    · have := rnx_calls s a h1 hs w
      rw [next_in h1]
      exact this
    · have HX := Lib.hid (next_out (s := s) (i := a) (.inr (by omega)))
      have h2 : s.size ≤ a := by omega
      clear h1
      go_enter Tryd.func102, Tryd.ntmps102
      go_wp2_with fail
      go_ret2
      exact ⟨ret_int2 (by rw [HX.out]) (by rw [HX.out]), Below.refl _ _⟩

set_option maxHeartbeats 400000 in
theorem rvalid_calls (s : ByteArray) (hs : s.size ≤ 140737488351232) (w : World) :
    Calls Tryd.prog 89 #[.string s] w fun e w' => e = .returned (.bool (validF s 0)) ∧ Below w.heap.size w w' := by
  go_enter Tryd.func89, Tryd.ntmps89
  go_wp2_with fail
  go_loopw [3, 9] (fun sk ix wr => ∃ a k : Nat, a + k ≤ s.size ∧ ix = .int .i64 a ∧ sk = .int .i64 k ∧ Hid (validF s (a + k) = validF s 0) ∧ Below w.heap.size w wr) (fun _ i _ => s.size - (intOf i).toNat)
  case atStart => exact ⟨0, 0, Nat.zero_le _, rfl, rfl, rfl, Below.refl _ _⟩
  case round =>
    obtain ⟨a, k, ha, rfl, rfl, HV, HB⟩ := hrel
    by_cases hlt : a < s.size
    · by_cases hk : 0 < k
      · go_wp2_with fail
        go_roundw
        case rel => exact ⟨a + 1, k - 1, by omega, by go_num, by rw [show ((k - 1 : Nat) : Int) = (k : Int) - 1 by omega], by rw [show a + 1 + (k - 1) = a + k by omega]; exact HV, HB⟩
        case measure => simp [intOf]; omega
      · obtain rfl : k = 0 := by omega
        have hst := nx_step s a hlt
        go_wp2_with fail
        refine (rnx_calls s a hlt hs _).mono ?_
        rintro e w1 ⟨rfl, hb1⟩
        by_cases hneg : (nx s a).1 < 0
        · have HX := Lib.hid (validF_bad hlt hneg)
          go_wp2_with fail
          go_ret
          exact ⟨ret_bool (by rw [← HV.out, Nat.add_zero, HX.out]), below_next HB hb1⟩
        · have HX := Lib.hid (validF_go hlt hneg)
          have HA := Lib.hid (adv_range s a hlt)
          go_wp2_with fail
          go_roundw
          case rel => exact ⟨a + 1, (nx s a).2.toNat - 1, by have := HA.out; omega, by go_num, by rw [show (((nx s a).2.toNat - 1 : Nat) : Int) = (nx s a).2 - 1 by omega], by rw [show a + 1 + ((nx s a).2.toNat - 1) = adv s a by have := HA.out; omega]; exact HX.out.symm.trans HV.out, below_next HB hb1⟩
          case measure => simp [intOf]; omega
    · obtain rfl : k = 0 := by omega
      have HX := Lib.hid (validF_end hlt)
      go_wp2_with fail
      go_ret
      exact ⟨ret_bool (by rw [← HV.out, Nat.add_zero, HX.out]), HB⟩
theorem infoInt : (Tryd.prog.info? 3).map (fun i => (i.zero, i.size, i.bytes)) = some (some (.int .i64 0), 1, 8) := by kernel_rfl
theorem ints_one (k : IntKind) (bs : List Int) : ∀ u ∈ bs.map (Value.int k), u.oneCell' = true := by
  intro u hu
  obtain ⟨_, _, rfl⟩ := List.mem_map.1 hu
  rfl

set_option maxHeartbeats 800000 in
theorem rends_calls (s : ByteArray) (hs : s.size ≤ 16777216) (w : World) :
    Calls Tryd.prog 101 #[.string s] w fun e w' => ∃ v, e = .returned v ∧ w'.ownsRow w.heap.size 3 1 v (endsF s 0).length ((endsF s 0).map (.int .i64)) ∧ Below w.heap.size w w' := by
  go_enter Tryd.func101, Tryd.ntmps101
  go_wp2_with fail
  go_loopw [3, 4, 10] (fun out sk ix wr => ∃ (a k : Nat) (L : List Int), a + k ≤ s.size ∧ L.length ≤ a ∧ ix = .int .i64 a ∧ sk = .int .i64 k ∧ Hid (L ++ endsF s (a + k) = endsF s 0) ∧ wr.ownsRow w.heap.size 3 1 out L.length (L.map (.int .i64)) ∧ Below w.heap.size w wr) (fun _ _ i _ => s.size - (intOf i).toNat)
  case atStart => exact ⟨0, 0, [], Nat.zero_le _, Nat.le_refl _, rfl, rfl, rfl, World.ownsRow_nil _ _ _ _, Below.refl _ _⟩
  case round =>
    obtain ⟨a, k, L, ha, hL, rfl, rfl, HV, HO, HB⟩ := hrel
    by_cases hlt : a < s.size
    · by_cases hk : 0 < k
      · go_wp2_with fail
        go_roundw
        case rel => exact ⟨a + 1, k - 1, L, by omega, by omega, by go_num, by rw [show ((k - 1 : Nat) : Int) = (k : Int) - 1 by omega], by rw [show a + 1 + (k - 1) = a + k by omega]; exact HV, HO, HB⟩
        case measure => simp [intOf]; omega
      · obtain rfl : k = 0 := by omega
        have hst := nx_step s a hlt
        have HX := Lib.hid (endsF_go hlt)
        have HA := Lib.hid (adv_range s a hlt)
        have hbs := HB.size
        go_wp2_with fail
        refine (rnx_calls s a hlt (by omega) _).mono ?_
        rintro e w1 ⟨rfl, hb1⟩
        have hbs1 := hb1.size
        have HB1 : Hid (Below w.heap.size w w1) := below_next HB hb1
        have HO1 := Lib.hid (own_below HO hb1)
        clear HO HB hb1
        go_wp2_with (at_builtin; refine wpList_app_own _ rfl (.tmp 25) (.tmp 29) 47 rfl w.heap.size 3 (.int .i64 0) 1 8 Tryd.underlying47 infoInt rfl (by decide) _ L.length (L.map (.int .i64)) rfl (HO1.out.alloc _) _ 1 1 _ rfl (sl_lit _ _ _ 1 rfl (by decide)) (by simp [Value.oneCell']) (by unfold maxLen; omega) (by omega) (by simp; omega) ?_)
        intro v' w2 ho2 hg2 hb2
        have HO2 := Lib.hid ho2
        clear ho2 hg2
        go_wp2_with fail
        go_roundw
        case rel =>
          refine ⟨a + 1, (nx s a).2.toNat - 1, L ++ [(a : Int) + (nx s a).2], by have := HA.out; omega, by simp; omega, by go_num, by rw [show (((nx s a).2.toNat - 1 : Nat) : Int) = (nx s a).2 - 1 by omega], ?_, ?_, (HB1.out.alloc (by omega) _).trans hb2⟩
          · have h1 := HV.out
            rw [Nat.add_zero, HX.out] at h1
            show _ ++ _ = _
            rw [← h1, show a + 1 + ((nx s a).2.toNat - 1) = adv s a by have := HA.out; omega, List.append_assoc, HA.out.2.2]; rfl
          · rw [List.length_append, List.map_append]
            exact HO2.out
        case measure => simp [intOf]; omega
    · obtain rfl : k = 0 := by omega
      have HX := Lib.hid (endsF_end hlt)
      go_wp2_with fail
      go_ret
      have e : L = endsF s 0 := by have := HV.out; rw [Nat.add_zero, HX.out, List.append_nil] at this; exact this
      rw [← e]
      exact ⟨_, rfl, HO, HB⟩

end Utf
end Go.Proofs.YtfohollhdaedlaaDoor
