/- The walks: Pour, slices.Equal of texts. Written by boxw6.py. -/
import Derived.Test.YtdmpgoaemoiogaaBoxW5
import Derived.Test.YtdmpgoaemoiogaaBoxW4
set_option linter.unusedVariables false
set_option linter.unusedSimpArgs false
set_option maxRecDepth 100000
namespace Go.Proofs.Ytdmpgoaemoiogaa
open Go.RowKit
namespace Box
abbrev texts (l : List ByteArray) : List Value := l.map .string
theorem infoBoxS : ∃ j, Try.prog.info? 109 = some j ∧ j.size ≠ 0 := by
  have h : (Try.prog.info? 109).map (fun i => decide (i.size ≠ 0)) = some true := by kernel_rfl
  obtain ⟨i, hi, hb⟩ := Option.map_eq_some_iff.1 h
  exact ⟨i, hi, of_decide_eq_true hb⟩
theorem neq_boxes (w : World) {b c cap : Nat} {l : List Value} {b' c' cap' : Nat} {l' : List Value} (h : IsBox w b c cap l) (h' : IsBox w b' c' cap' l') (hne : b ≠ b') :
    (binOp .neq 25 (.pointer (some ⟨b, 0, none⟩)) (.pointer (some ⟨b', 0, none⟩))).run Try.prog w = .ok (.bool true) w := by
  obtain ⟨j, hj, hj0⟩ := infoBoxS
  obtain ⟨t, s, r, h1, _⟩ := h
  obtain ⟨t', s', r', h2, _⟩ := h'
  exact neq_other Try.underlying25 hj hj0 w (by simp [hne]) h1 h2
theorem eq_boxes (w : World) (b : Nat) :
    (binOp .neq 25 (.pointer (some ⟨b, 0, none⟩)) (.pointer (some ⟨b, 0, none⟩))).run Try.prog w = .ok (.bool false) w := by
  obtain ⟨j, hj, hj0⟩ := infoBoxS
  exact neq_same _ Try.underlying25 hj w

set_option maxHeartbeats 1000000 in
/-- A box poured into itself: nothing. -/
theorem pour_self (w : World) (b c cap : Nat) (l : List Value) (h : IsBox w b c cap l) :
    Calls Try.prog 25 #[.pointer (some ⟨b, 0, none⟩), .pointer (some ⟨b, 0, none⟩)] w fun e w' => e = .returned (.int .i64 0) ∧ Below w.heap.size w w' := by
  have H := Lib.hid h
  have hroom := h.room
  have hne := fun W => eq_boxes W b
  clear h
  go_enter Try.func25, Try.ntmps25
  go_wp2_with fail
  go_loopw [5] (fun n wr => n = .int .i64 0 ∧ wr = w) (fun _ _ => 0)
  case atStart => exact ⟨rfl, rfl⟩
  case round =>
    obtain ⟨rfl, rfl⟩ := hrel
    go_wp2_with fail
    refine (room_str wr b c cap l H.out).mono ?_
    rintro e w1 ⟨rfl, hb1, hh⟩
    have HB1 := Lib.hid hb1
    clear hb1 hh
    by_cases hc : l.length < cap
    · go_wp2_with fail
      go_ret
      exact ⟨rfl, HB1.out⟩
    · go_wp2_with fail
      go_ret
      exact ⟨rfl, HB1.out⟩

set_option maxHeartbeats 2000000 in
/-- What one box has goes into another one, as far as there is room. -/
theorem pour_str (w : World) (base b c cap b' c' cap' : Nat) (l l' : List Value) (h : IsBox w b c cap l) (h' : IsBox w b' c' cap' l') (hb : b ≠ b') (hc : c ≠ c') (hbase : base ≤ w.heap.size) (hcb : base ≤ c) (hcb' : base ≤ c') :
    Calls Try.prog 25 #[.pointer (some ⟨b, 0, none⟩), .pointer (some ⟨b', 0, none⟩)] w fun e w' => e = .returned (.int .i64 (min l.length (cap' - l'.length) : Nat)) ∧
      IsBox w' b c cap (l.drop (min l.length (cap' - l'.length))) ∧ IsBox w' b' c' cap' (l' ++ l.take (min l.length (cap' - l'.length))) ∧ Below base w w' := by
  have H := Lib.hid h
  have H' := Lib.hid h'
  have hroom := h.room
  have hroom' := h'.room
  generalize hq : min l.length (cap' - l'.length) = q
  have hcb2 : c ≠ b' := by
    rintro rfl
    obtain ⟨t, s, r, _, h2, _⟩ := h
    obtain ⟨t', s', r', h3, _⟩ := h'
    rw [h2] at h3; cases h3
  have hbc2 : c' ≠ b := by
    rintro rfl
    obtain ⟨t, s, r, h2, _⟩ := h
    obtain ⟨t', s', r', _, h3, _⟩ := h'
    rw [h2] at h3; cases h3
  clear h h'
  go_enter Try.func25, Try.ntmps25
  go_wp2_with fail
  go_loopw [5] (fun n wr => ∃ i : Nat, i ≤ q ∧ n = .int .i64 i ∧ IsBox wr b c cap (l.drop i) ∧ IsBox wr b' c' cap' (l' ++ l.take i) ∧ Below base w wr ∧ w.heap.size ≤ wr.heap.size) (fun n _ => q - (intOf n).toNat)
  case atStart => exact ⟨0, Nat.zero_le _, rfl, by simpa using H.out, by simpa using H'.out, Below.refl _ _, Nat.le_refl _⟩
  case round =>
    obtain ⟨i, hi, rfl, hx, hx', hbl, hsz⟩ := hrel
    have HX := Lib.hid hx
    have HX' := Lib.hid hx'
    have HB := Lib.hid hbl
    clear hx hx' hbl
    have hlen : (l' ++ l.take i).length = l'.length + i := by simp; omega
    go_wp2_with fail
    refine (room_str wr b' c' cap' _ HX'.out).mono ?_
    rw [hlen]
    rintro e w1 ⟨rfl, hb1, hh⟩
    have hne : (binOp .neq 25 (.pointer (some ⟨b, 0, none⟩)) (.pointer (some ⟨b', 0, none⟩))).run Try.prog w1 = .ok (.bool true) w1 :=
      neq_boxes w1 (HX.out.keep (grown_below hb1 none) (by simp) (by simp)) (HX'.out.keep (grown_below hb1 none) (by simp) (by simp)) hb
    have HX1 := Lib.hid (HX.out.keep (grown_below hb1 none) (by simp) (by simp))
    have HX1' := Lib.hid (HX'.out.keep (grown_below hb1 none) (by simp) (by simp))
    have HB1 := Lib.hid (HB.out.trans (hb1.mono (by omega)))
    have hs1 := hb1.size
    clear hb1 hh
    by_cases hcap : l'.length + i < cap'
    · by_cases hl : i < l.length
      · obtain ⟨x, hx1, hx2, hx3⟩ := split_at (l := l) (i := i) hl
        have HX2 : Hid (IsBox w1 b c cap (x :: l.drop (i + 1))) := by have := HX1.out; rwa [hx2] at this
        have HX3 := Lib.hid hx3
        clear hx1 hx2 hx3
        go_wp2_with fail
        refine (take_str w1 b c cap x _ HX2.out).mono ?_
        rintro e w2 ⟨rfl, hx, hg, hs2⟩
        have HY := Lib.hid hx
        have HY' := Lib.hid (HX1'.out.keep hg (by simp; exact fun e => hcb2 e.symm) (by simp; exact fun e => hc e.symm))
        have HB2 := Lib.hid (below_row HB1.out (by omega) hg hcb)
        clear hx hg
        go_wp2_with fail
        refine (put_str w2 b' c' cap' _ x HY'.out).mono ?_
        rw [hlen, if_pos hcap]
        rintro e w3 ⟨rfl, hx, hg, hs3⟩
        have HZ' := Lib.hid hx
        have HZ := Lib.hid (HY.out.keep hg (by simp; exact fun e => hbc2 e.symm) (by simp; exact hc))
        have HB3 := Lib.hid (below_row HB2.out (by omega) hg hcb')
        clear hx hg
        go_wp2_with fail
        go_roundw
        case rel => exact ⟨i + 1, by omega, by go_num, HZ.out, by rw [HX3.out, ← List.append_assoc]; exact HZ'.out, HB3.out, by omega⟩
        case measure => simp [intOf]; omega
      · have hd : l.drop i = [] := List.drop_eq_nil_of_le (by omega)
        have HX2 : Hid (IsBox w1 b c cap []) := by have := HX1.out; rwa [hd] at this
        obtain rfl : i = q := by omega
        go_wp2_with fail
        refine (takeNo_str w1 b c cap HX2.out).mono ?_
        rintro e w2 ⟨rfl, rfl⟩
        go_wp2_with fail
        go_ret
        exact ⟨rfl, HX1.out, HX1'.out, HB1.out⟩
    · obtain rfl : i = q := by omega
      go_wp2_with fail
      go_ret
      exact ⟨rfl, HX1.out, HX1'.out, HB1.out⟩
end Box
end Go.Proofs.Ytdmpgoaemoiogaa
