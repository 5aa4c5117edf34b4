/- BoxRooms: how much room a box has; boxes that no call made: the walk. -/
import Derived.Test.YtdmpgoaemoiogaaBoxW4
set_option linter.unusedVariables false
set_option linter.unusedSimpArgs false
set_option maxRecDepth 100000
namespace Go.Proofs.Ytdmpgoaemoiogaa
open Go.RowKit
namespace Box

set_option maxHeartbeats 2000000 in
theorem boxRooms_calls (w : World) (room : Int) (hr : -9223372036854775808 ≤ room ∧ room ≤ 9223372036854775807) (x : Int) (hx : -9223372036854775808 ≤ x ∧ x ≤ 9223372036854775807) :
    Calls Try.prog 4 #[.int .i64 room, .int .i64 x] w fun e w' => e = .returned (.bool true) ∧ Below w.heap.size w w' := by
  obtain ⟨k0, hk0⟩ : ∃ k0 : Nat, (if room < 0 then 0 else room) = (k0 : Int) := ⟨(max room 0).toNat, by split <;> omega⟩
  obtain ⟨k, hk⟩ : ∃ k : Nat, (if (4096 : Int) < k0 then 4096 else (k0 : Int)) = (k : Int) := ⟨min k0 4096, by split <;> omega⟩
  have hkk : (min (max room 0) 4096).toNat = k := by split at hk0 <;> split at hk <;> omega
  have hk4 : k ≤ 4096 := by split at hk <;> omega
  go_enter Try.func4, Try.ntmps4
  go_wp2_with fail
  refine (new_int w room hr).mono ?_
  rw [hkk]
  rintro e w1 ⟨b, c, rfl, hx1, hb1, hB, hC⟩
  have HX1 := Lib.hid hx1
  have HB1 := Lib.hid hb1
  have hs1 := hb1.size
  clear hx1 hb1
  go_wp2_with fail
  refine (room_int w1 b c k _ HX1.out).mono ?_
  rintro e w2 ⟨rfl, hb2, hh2⟩
  clear hh2
  rw [show (k : Int) - (([] : List Value).length : Int) = k by simp]
  have HB2 := Lib.hid (below_next HB1.out hb2)
  have hs2 := HB2.out.size
  clear hb2
  go_wp2_with fail
  have hz := heap_chan w2 (.cells #[.chan none] 37 (0, 0)) (.cells #[.pointer none, .pointer (some ⟨w2.heap.size, 0, none⟩)] 32 (0, 0))
  have hv := heap_box w2 (.cells #[.chan none] 37 (0, 0)) (.cells #[.pointer none, .pointer (some ⟨w2.heap.size, 0, none⟩)] 32 (0, 0))
  have hb3 : Below w2.heap.size w2 ((w2.alloc (.cells #[.chan none] 37 (0, 0))).alloc (.cells #[.pointer none, .pointer (some ⟨w2.heap.size, 0, none⟩)] 32 (0, 0))) :=
    ((Below.refl _ _).alloc (Nat.le_refl _) _).alloc (by simp) _
  generalize ((w2.alloc (.cells #[.chan none] 37 (0, 0))).alloc (.cells #[.pointer none, .pointer (some ⟨w2.heap.size, 0, none⟩)] 32 (0, 0))) = w3 at *
  generalize hq : w2.heap.size = q at *
  have HB3 : Hid (Below w.heap.size w w3) := HB2.out.trans (hb3.mono (by omega))
  have hs3 := hb3.size
  have hs3' : w.heap.size ≤ w3.heap.size := by omega
  have hqz := (Array.getElem?_eq_some_iff.1 hz).1
  have HZ := Lib.hid hz
  have HV := Lib.hid hv
  clear hz hv hb3
  go_loopw [22] (fun ix wr => ∃ i : Nat, i ≤ 2 ∧ ix = .int .i64 i ∧ Below w3.heap.size w3 wr) (fun ix _ => 2 - (intOf ix).toNat)
  case atStart => exact ⟨0, by decide, rfl, Below.refl _ _⟩
  case round =>
    obtain ⟨i, hi, rfl, hb⟩ := hrel
    have HB := Lib.hid hb
    have hbs := hb.size
    have hv1 : wr.heap[q + 1]? = some (.cells #[.pointer none, .pointer (some ⟨q, 0, none⟩)] 32 (0, 0)) := by
      rw [hb.block _ (Array.getElem?_eq_some_iff.1 HV.out).1]; exact HV.out
    have hz1 : wr.heap[q]? = some (.cells #[.chan none] 37 (0, 0)) := by
      rw [hb.block _ hqz]; exact HZ.out
    have hc0 : wr.cell? ⟨q + 1, 0, none⟩ = some (.pointer none) := by simp [World.cell?, hv1]
    have hc1 : wr.cell? ⟨q + 1, 1, none⟩ = some (.pointer (some ⟨q, 0, none⟩)) := by simp [World.cell?, hv1]
    clear hb hv1
    have hii : i = 0 ∨ i = 1 ∨ i = 2 := by omega
    rcases hii with rfl | rfl | rfl
    · have HU : Hid (Unmade wr (.pointer none)) := .inl rfl
      go_wp2_with fail
      refine (un_take _ _ HU.out).mono ?_
      rintro e w2 ⟨rfl, rfl⟩
      go_wp2_with fail
      refine (un_pull _ _ HU.out x hx).mono ?_
      rintro e w2 ⟨rfl, rfl⟩
      go_wp2_with fail
      refine (un_put _ _ _ HU.out).mono ?_
      rintro e w2 ⟨rfl, rfl⟩
      go_wp2_with fail
      refine (un_len _ _ HU.out).mono ?_
      rintro e w2 ⟨rfl, rfl⟩
      go_wp2_with fail
      refine (un_room _ _ HU.out).mono ?_
      rintro e w2 ⟨rfl, rfl⟩
      go_wp2_with fail
      refine (un_list _ _ HU.out).mono ?_
      rintro e w2 ⟨rfl, rfl⟩
      go_wp2_with fail
      refine (new_int _ 3 (by decide)).mono ?_
      rintro e w4 ⟨b4, c4, rfl, hx4, hb4, hB4, hC4⟩
      have HX4 : Hid (IsBox w4 b4 c4 3 []) := hx4
      have HU4 := Lib.hid (HU.out.below hb4)
      have HB4 := Lib.hid (HB.out.trans (hb4.mono hbs))
      have hs4 := hb4.size
      clear hx4 hb4
      go_wp2_with fail
      refine (un_pour_from _ _ HU4.out b4 c4 3 [] HX4.out (by simp) (by decide)).mono ?_
      rintro e w5 ⟨rfl, hb5⟩
      have HU5 := Lib.hid (HU4.out.below hb5)
      have HB5 := Lib.hid (HB4.out.trans (hb5.mono (by omega)))
      have hs5 := hb5.size
      clear hb5
      go_wp2_with fail
      refine (new_int _ 3 (by decide)).mono ?_
      rintro e w6 ⟨b6, c6, rfl, hx6, hb6, hB6, hC6⟩
      have HU6 := Lib.hid (HU5.out.below hb6)
      have HB6 := Lib.hid (HB5.out.trans (hb6.mono (by omega)))
      have hs6 := hb6.size
      clear hx6 hb6
      go_wp2_with fail
      refine (un_pour_to _ _ _ HU6.out).mono ?_
      rintro e w7 ⟨rfl, rfl⟩
      go_wp2_with fail
      go_roundw
      case rel => exact ⟨1, by decide, rfl, HB6.out⟩
      case measure => simp [intOf]
    · have HU : Hid (Unmade wr (.pointer (some ⟨q, 0, none⟩))) := .inr ⟨q, _, rfl, hz1⟩
      go_wp2_with fail
      refine (un_take _ _ HU.out).mono ?_
      rintro e w2 ⟨rfl, rfl⟩
      go_wp2_with fail
      refine (un_pull _ _ HU.out x hx).mono ?_
      rintro e w2 ⟨rfl, rfl⟩
      go_wp2_with fail
      refine (un_put _ _ _ HU.out).mono ?_
      rintro e w2 ⟨rfl, rfl⟩
      go_wp2_with fail
      refine (un_len _ _ HU.out).mono ?_
      rintro e w2 ⟨rfl, rfl⟩
      go_wp2_with fail
      refine (un_room _ _ HU.out).mono ?_
      rintro e w2 ⟨rfl, rfl⟩
      go_wp2_with fail
      refine (un_list _ _ HU.out).mono ?_
      rintro e w2 ⟨rfl, rfl⟩
      go_wp2_with fail
      refine (new_int _ 3 (by decide)).mono ?_
      rintro e w4 ⟨b4, c4, rfl, hx4, hb4, hB4, hC4⟩
      have HX4 : Hid (IsBox w4 b4 c4 3 []) := hx4
      have HU4 := Lib.hid (HU.out.below hb4)
      have HB4 := Lib.hid (HB.out.trans (hb4.mono hbs))
      have hs4 := hb4.size
      clear hx4 hb4
      go_wp2_with fail
      refine (un_pour_from _ _ HU4.out b4 c4 3 [] HX4.out (by simp <;> omega) (by decide)).mono ?_
      rintro e w5 ⟨rfl, hb5⟩
      have HU5 := Lib.hid (HU4.out.below hb5)
      have HB5 := Lib.hid (HB4.out.trans (hb5.mono (by omega)))
      have hs5 := hb5.size
      clear hb5
      go_wp2_with fail
      refine (new_int _ 3 (by decide)).mono ?_
      rintro e w6 ⟨b6, c6, rfl, hx6, hb6, hB6, hC6⟩
      have HU6 := Lib.hid (HU5.out.below hb6)
      have HB6 := Lib.hid (HB5.out.trans (hb6.mono (by omega)))
      have hs6 := hb6.size
      clear hx6 hb6
      go_wp2_with fail
      refine (un_pour_to _ _ _ HU6.out).mono ?_
      rintro e w7 ⟨rfl, rfl⟩
      go_wp2_with fail
      go_roundw
      case rel => exact ⟨2, by decide, rfl, HB6.out⟩
      case measure => simp [intOf]
    · go_wp2_with fail
      refine (awake_calls _).mono ?_
      rintro e w4 ⟨rfl, hb4⟩
      go_wp2_with fail
      go_ret
      have HBw : Below w.heap.size w wr := HB3.out.trans (HB.out.mono hs3')
      exact ⟨rfl, below_next HBw hb4⟩
end Box
end Go.Proofs.Ytdmpgoaemoiogaa
