/- Lanes: the walk of LanesNobody. -/
import Derived.Test.YtdmpgoaemoiogaaLanA
import Derived.Test.YtdmpgoaemoiogaaBytesArg
set_option linter.unusedVariables false
set_option linter.unusedSimpArgs false
set_option maxRecDepth 100000
namespace Go.Proofs.Ytdmpgoaemoiogaa
open Go.RowKit Go.Maps
namespace Box
theorem cell_same {w w' : World} (h : w'.heap = w.heap) (a : Addr) : w'.cell? a = w.cell? a := by unfold World.cell?; rw [h]
theorem map_zero (W : World) : (Instr.makeMap 77 none).run Try.prog W = .ok (.map (some W.heap.size)) (W.alloc (.map #[] 0)) := mk_map W
set_option maxHeartbeats 4000000 in
theorem nobody26_calls (w : World) (i j k : Int) (A : Option Addr) (c1 c2 : Nat) :
    Calls Try.prog 9 #[.int .i64 i, .int .i64 j, .int .i64 k, .slice A c1 c2] w fun e w' => e = .returned (.bool true) ∧ Below w.heap.size w w' := by
  go_enter Try.func9, Try.ntmps9
  go_wp2_with fail
  have hb0 : Below w.heap.size w ((w.alloc (.cells #[.int .i64 0, .map none, .int .i64 0, .int .i64 0] 79)).alloc (.cells #[.pointer none, .pointer (some ⟨w.heap.size, 0, none⟩)] 60)) := ((Below.refl _ _).alloc (Nat.le_refl _) _).alloc (by simp) _
  have h0 : ((w.alloc (.cells #[.int .i64 0, .map none, .int .i64 0, .int .i64 0] 79)).alloc (.cells #[.pointer none, .pointer (some ⟨w.heap.size, 0, none⟩)] 60)).heap[w.heap.size]? = _ := heap_old (heap_alloc_new w _)
  have h1 := heap_new2 (w := w) (.cells #[.int .i64 0, .map none, .int .i64 0, .int .i64 0] 79) (.cells #[.pointer none, .pointer (some ⟨w.heap.size, 0, none⟩)] 60)
  obtain ⟨wa, hwa⟩ : ∃ wa, (w.alloc (.cells #[.int .i64 0, .map none, .int .i64 0, .int .i64 0] 79)).alloc (.cells #[.pointer none, .pointer (some ⟨w.heap.size, 0, none⟩)] 60) = wa := ⟨_, rfl⟩
  rw [hwa] at hb0 h0 h1 ⊢
  clear hwa
  have HB0 := Lib.hid hb0
  have H0 := Lib.hid h0
  have H1 := Lib.hid h1
  clear hb0 h0 h1
  go_loopw [10, 11, 12, 13, 14, 15, 16, 21] (fun _ _ _ _ _ _ _ ix wr => ∃ (o : Nat), o ≤ 2 ∧ ix = .int .i64 o ∧ Below w.heap.size w wr ∧ wr.heap = wa.heap) (fun _ _ _ _ _ _ _ ix _ => 2 - (intOf ix).toNat)
  case atStart => exact ⟨0, by omega, rfl, HB0.out, rfl⟩
  case round =>
    obtain ⟨o, ho, rfl, hb, hh⟩ := hrel
    have HB := Lib.hid hb
    have HH := Lib.hid hh
    clear hb hh
    by_cases hlt : o < 2
    · obtain ⟨P, hP, hT, hX⟩ : ∃ P, wr.cell? ⟨w.heap.size + 1, o, none⟩ = some P ∧ Hid (Calls Try.prog 31 #[P] wr fun e w' => e = .returned (.tuple #[.int .i64 0, .int .i64 0]) ∧ Below wr.heap.size wr w' ∧ w'.heap = wr.heap) ∧
          Hid (∀ W, W.heap = wr.heap → Calls Try.prog 48 #[P, .int .i64 i, .int .i64 j] W fun e w' => e = .returned (.pointer none) ∧ w' = W) := by
        have e0 := (congrArg (·[w.heap.size]?) HH.out).trans H0.out
        have e1 := (congrArg (·[w.heap.size + 1]?) HH.out).trans H1.out
        obtain ⟨x0, x1, _⟩ := cell2 e1
        obtain ⟨y0, y1, y2, y3, _⟩ := head4 e0
        rcases (show o = 0 ∨ o = 1 by omega) with rfl | rfl
        · exact ⟨_, x0, (totalsNil_calls wr).mono fun e w' h => ⟨h.1, by rw [h.2]; exact Below.refl _ _, by rw [h.2]⟩, fun W _ => boxNil_calls W i j⟩
        · exact ⟨_, x1, totals_calls wr _ 0 0 y2 y3, fun W hW => boxZero_calls W _ ((cell_same hW _).trans y1) i j⟩
      go_wp2_with fail
      refine (takeNo_calls P i j (hX.out wr rfl) k).mono ?_
      rintro e w2 ⟨rfl, rfl⟩
      go_wp2_with fail
      refine (peekNo_calls P i j (hX.out _ rfl) k).mono ?_
      rintro e w3 ⟨rfl, rfl⟩
      go_wp2_with fail
      refine hT.out.mono ?_
      rintro e w4 ⟨rfl, hb4, hh4⟩
      have HB4 := Lib.hid (below_step HB.out HB.out.size hb4)
      have HH4 := Lib.hid hh4
      clear hb4 hh4
      go_wp2_with fail
      refine (countNo_calls P i j (hX.out w4 HH4.out)).mono ?_
      rintro e w5 ⟨rfl, rfl⟩
      go_wp2_with fail
      refine (sendNo_calls P i j (hX.out _ HH4.out) A c1 c2).mono ?_
      rintro e w6 ⟨rfl, rfl⟩
      go_wp2_with fail
      refine (loseNo_calls P i j (hX.out _ HH4.out) k).mono ?_
      rintro e w7 ⟨rfl, rfl⟩
      go_wp2_with fail
      refine (doubleNo_calls P i j (hX.out _ HH4.out) k).mono ?_
      rintro e w8 ⟨rfl, rfl⟩
      go_wp2_with fail
      refine (spoilNo_calls P i j (hX.out _ HH4.out) k k 1).mono ?_
      rintro e w9 ⟨rfl, rfl⟩
      go_wp2_with fail
      go_roundw
      case rel => exact ⟨o + 1, by omega, by go_num, HB4.out, HH4.out.trans HH.out⟩
      case measure => simp [intOf]; omega
    · obtain rfl : o = 2 := by omega
      go_wp2_with fail
      refine (awake26_calls wr).mono ?_
      rintro e w2 ⟨rfl, hb2⟩
      have HB2 := Lib.hid (below_step HB.out HB.out.size hb2)
      clear hb2
      go_wp2_with fail
      go_ret
      exact ⟨rfl, HB2.out⟩
theorem nobody26_law (w : World) (i : Int) (hi : -9223372036854775808 ≤ i ∧ i ≤ 9223372036854775807) (j : Int) (hj : -9223372036854775808 ≤ j ∧ j ≤ 9223372036854775807) (k : Int) (hk : -9223372036854775808 ≤ k ∧ k ≤ 9223372036854775807) (A : Option Addr) (c1 c2 : Nat) (l : List Int) (hl : IsBytes w A c1 c2 l) :
    Calls Try.prog 9 #[.int .i64 i, .int .i64 j, .int .i64 k, .slice A c1 c2] w fun e w' => e = .returned (.bool true) ∧ Below w.heap.size w w' := nobody26_calls w i j k A c1 c2
end Box
end Go.Proofs.Ytdmpgoaemoiogaa
