/- Lanes: the walk of LanesRoom. -/
import Derived.Test.YtdmpgoaemoiogaaLanA
set_option linter.unusedVariables false
set_option linter.unusedSimpArgs false
set_option maxRecDepth 100000
namespace Go.Proofs.Ytdmpgoaemoiogaa
open Go.RowKit Go.Maps
namespace Box
theorem way20 : Way 3 ((2 : Int), (0 : Int)) := by unfold Way; decide
theorem way02 : Way 3 ((0 : Int), (2 : Int)) := by unfold Way; decide
set_option maxHeartbeats 4000000 in
theorem room26_calls (w : World) (n : Nat) (hn : n < 256) :
    Calls Try.prog 7 #[.int .u8 n] w fun e w' => e = .returned (.bool true) ∧ Below w.heap.size w w' := by
  have C1 := Lib.hid (new_calls w 3 (by decide))
  go_enter Try.func7, Try.ntmps7
  go_wp2_with fail
  refine C1.out.mono ?_
  rintro e w1 ⟨p, m, rfl, hL1, hb1, hp, hm⟩
  have HF1 : Hid (∀ x, (x = p ∨ x = m) → w.heap.size ≤ x) := fun x hx => by rcases hx with rfl | rfl <;> assumption
  have HL1 := Lib.hid hL1
  have HB1 := Lib.hid hb1
  clear hL1 hb1 hp hm
  go_wp2_with fail
  go_loopw [4, 5, 11] (fun u4 u5 ix wr => ∃ (i : Nat) (q : Int × Int → List Par) (F : Nat → Prop) (m nk : Nat) (f : Int × Int → Option (Nat × Nat)), i ≤ n ∧ ix = .int .i64 i ∧ LnsF wr F p m 3 nk i ((i - 40 : Nat) : Int) q f ∧ (q (2, 0)).length = min i 40 ∧ q (0, 2) = [] ∧ Below w.heap.size w wr ∧ (∀ x, F x → w.heap.size ≤ x)) (fun _ _ ix _ => n - (intOf ix).toNat)
  case atStart => exact ⟨0, _, _, _, _, _, Nat.zero_le _, rfl, HL1.out, rfl, rfl, HB1.out, HF1.out⟩
  case round =>
    obtain ⟨i, q, F, m, nk, f, hi, rfl, hL, hq, hq2, hb, hF⟩ := hrel
    have HL := Lib.hid hL
    have HB := Lib.hid hb
    have HF := Lib.hid hF
    have HQ := Lib.hid hq
    have HQ2 := Lib.hid hq2
    clear hb hF hq hq2
    by_cases hlt : i < n
    · have C2 := Lib.hid (send_calls (hL.below ((Below.refl _ wr).alloc (Nat.le_refl _) (.cells #[.int .u8 i] 5))) 2 0 way20 (by omega) (by omega) (some ⟨wr.heap.size, 0, none⟩) 1 1 [(i : Int)] (sl_lit wr #[.int .u8 i] 5 1 rfl (by decide)) (fresh_lit hL))
      clear hL
      have hw : IntKind.u8.wrap (i : Int) = i := by rw [IntKind.wrap_u8]; omega
      by_cases h40 : i < 40
      · have hql : (q (2, 0)).length = i := by have := HQ.out; omega
        have C3 := C2.out
        rw [hql, if_pos h40, if_pos h40, if_pos h40] at C3
        go_wp2_with fail
        refine C3.mono ?_
        rintro e w2 ⟨rfl, hst⟩
        obtain ⟨hb2, F2, m2, nk2, f2, hL2, hF2⟩ := hst.out HF.out (by have := HB.out.size; simp; omega)
        have HB2 := Lib.hid ((HB.out.alloc HB.out.size _).trans hb2)
        have HL2 := Lib.hid hL2
        have HF2 := Lib.hid hF2
        have hlen := HL2.out
        clear hst hb2 hF2 hL2 C3 hlen
        go_wp2_with fail
        go_roundw
        case rel =>
          refine ⟨i + 1, upd q (2, 0) (q (2, 0) ++ [(strOfNums [(i : Int)], 0, 0)]), F2, m2, nk2, f2, by omega, by go_num, ?_, ?_, ?_, HB2.out, HF2.out⟩
          · have h := HL2.out
            rw [show (i : Int) + 1 = ((i + 1 : Nat) : Int) by omega, show i - 40 = i + 1 - 40 by omega] at h
            exact h
          · rw [upd_same, List.length_append, hql]; simp; omega
          · rw [upd_other _ _ (by simp)]; exact HQ2.out
        case measure => simp [intOf]; omega
      · have hql : (q (2, 0)).length = 40 := by have := HQ.out; omega
        have C3 := C2.out
        rw [hql, if_neg (by decide), if_neg (by decide), if_neg (by decide)] at C3
        go_wp2_with fail
        refine C3.mono ?_
        rintro e w2 ⟨rfl, hst⟩
        obtain ⟨hb2, F2, m2, nk2, f2, hL2, hF2⟩ := hst.out HF.out (by have := HB.out.size; simp; omega)
        have HB2 := Lib.hid ((HB.out.alloc HB.out.size _).trans hb2)
        have HL2 := Lib.hid hL2
        have HF2 := Lib.hid hF2
        clear hst hb2 hF2 hL2 C3
        go_wp2_with fail
        go_roundw
        case rel =>
          refine ⟨i + 1, q, F2, m2, nk2, f2, by omega, by go_num, ?_, ?_, ?_, HB2.out, HF2.out⟩
          · have h := HL2.out
            rw [show (i : Int) + 1 = ((i + 1 : Nat) : Int) by omega, show ((i - 40 : Nat) : Int) + 1 = ((i + 1 - 40 : Nat) : Int) by omega] at h
            exact h
          · rw [hql]; omega
          · exact HQ2.out
        case measure => simp [intOf]; omega
    · obtain rfl : i = n := by omega
      obtain ⟨y0, y1, y2, y3, y4⟩ := head4 hL.head
      clear hL
      go_wp2_with fail
      refine (totals_calls wr p _ _ y2 y3).mono ?_
      rintro e w2 ⟨rfl, hb2, hh2⟩
      have HL2 := Lib.hid (HL.out.below hb2)
      have HB2 := Lib.hid (below_step HB.out HB.out.size hb2)
      clear hb2 hh2
      go_wp2_with fail
      refine (count_calls HL2.out 2 0 way20).mono ?_
      rw [HQ.out]
      rintro e w3 ⟨rfl, hst⟩
      obtain ⟨hb3, F3, m3, nk3, f3, hL3, hF3⟩ := hst.out HF.out HB2.out.size
      have HB3 := Lib.hid (HB2.out.trans hb3)
      have HL3 := Lib.hid hL3
      have HF3 := Lib.hid hF3
      clear hst hb3 hL3 hF3
      have C4 := Lib.hid (count_calls HL3.out 0 2 way02)
      rw [HQ2.out] at C4
      rcases (show (i < 40 ∧ ((min i 40 : Nat) : Int) = i ∧ ((i - 40 : Nat) : Int) = 0) ∨ ((i : Int) = 40 ∧ ((min i 40 : Nat) : Int) = 40 ∧ ((i - 40 : Nat) : Int) = 0) ∨ (40 < i ∧ ((min i 40 : Nat) : Int) = 40 ∧ ((i - 40 : Nat) : Int) = (i : Int) - 40) by omega) with ⟨h1, e1, e2⟩ | ⟨h1, e1, e2⟩ | ⟨h1, e1, e2⟩
      · rw [e1, e2]
        clear e1 e2
        go_wp2_with fail
        refine C4.out.mono ?_
        rintro e w4 ⟨rfl, hst⟩
        obtain ⟨hb4, _⟩ := hst.out HF3.out HB3.out.size
        have HB4 := Lib.hid (HB3.out.trans hb4)
        clear hst hb4
        simp only [List.length_nil, Int.natCast_zero]
        go_wp2_with fail
        refine (awake26_calls w4).mono ?_
        rintro e w5 ⟨rfl, hb5⟩
        have HB5 := Lib.hid (below_step HB4.out HB4.out.size hb5)
        clear hb5
        go_wp2_with fail
        go_ret
        exact ⟨rfl, HB5.out⟩
      · simp only [e1, e2, h1]
        clear e1 e2 h1 hi
        go_wp2_with fail
        refine C4.out.mono ?_
        rintro e w4 ⟨rfl, hst⟩
        obtain ⟨hb4, _⟩ := hst.out HF3.out HB3.out.size
        have HB4 := Lib.hid (HB3.out.trans hb4)
        clear hst hb4
        simp only [List.length_nil, Int.natCast_zero]
        go_wp2_with fail
        refine (awake26_calls w4).mono ?_
        rintro e w5 ⟨rfl, hb5⟩
        have HB5 := Lib.hid (below_step HB4.out HB4.out.size hb5)
        clear hb5
        go_wp2_with fail
        go_ret
        exact ⟨rfl, HB5.out⟩
      · rw [e1, e2]
        clear e1 e2
        have hw2 : IntKind.i64.wrap ((i : Int) - 40) = (i : Int) - 40 := by rw [IntKind.wrap_i64]; omega
        go_wp2_with fail
        refine C4.out.mono ?_
        rintro e w4 ⟨rfl, hst⟩
        obtain ⟨hb4, _⟩ := hst.out HF3.out HB3.out.size
        have HB4 := Lib.hid (HB3.out.trans hb4)
        clear hst hb4
        simp only [List.length_nil, Int.natCast_zero]
        go_wp2_with fail
        refine (awake26_calls w4).mono ?_
        rintro e w5 ⟨rfl, hb5⟩
        have HB5 := Lib.hid (below_step HB4.out HB4.out.size hb5)
        clear hb5
        go_wp2_with fail
        go_ret
        exact ⟨rfl, HB5.out⟩
theorem room26_law (w : World) (n : Int) (hn : 0 ≤ n ∧ n ≤ 255) :
    Calls Try.prog 7 #[.int .u8 n] w fun e w' => e = .returned (.bool true) ∧ Below w.heap.size w w' := by
  obtain ⟨k, rfl⟩ := Int.eq_ofNat_of_zero_le hn.1
  exact room26_calls w k (by omega)
end Box
end Go.Proofs.Ytdmpgoaemoiogaa
