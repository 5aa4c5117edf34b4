/- The walk: the reference's Mark; the law TokenMarks. -/
import Derived.Test.YtonhlgidfgogiaaDoorTokM1
import Derived.Test.YtonhlgidfgogiaaDoorTokE
set_option linter.unusedVariables false
set_option linter.unusedSimpArgs false
set_option maxRecDepth 100000
namespace Go.Proofs.YtonhlgidfgogiaaDoor
open Go.RowKit Utf Fold
namespace Tok
theorem markP_cons (s : ByteArray) (ws : List ByteArray) (be bh : ByteArray) (x : Nat × Nat × Bool) (l : List (Nat × Nat × Bool)) : markP s ws be bh (x :: l) = bytesOf (partT s ws be bh x) ++ markP s ws be bh l := rfl
theorem partP_hit {s : ByteArray} {ws : List ByteArray} {be bh : ByteArray} {x : Nat × Nat × Bool} (h : (x.2.2 && hitF ws (s.extract x.1 x.2.1)) = true) : partT s ws be bh x = be ++ s.extract x.1 x.2.1 ++ bh := by unfold partT; rw [if_pos h]
theorem partP_no {s : ByteArray} {ws : List ByteArray} {be bh : ByteArray} {x : Nat × Nat × Bool} (h : (x.2.2 && hitF ws (s.extract x.1 x.2.1)) = false) : partT s ws be bh x = s.extract x.1 x.2.1 := by unfold partT; rw [if_neg (by rw [h]; simp)]

set_option maxHeartbeats 8000000 in
theorem rmark_calls (s : ByteArray) (hs : s.size ≤ 2048) (w : World) (Aw : Option Addr) (m cw : Nat) (ws : List ByteArray) (hw : IsSl w 1 Aw m cw (ws.map .string)) (be bh : ByteArray) (hbe : be.size ≤ 20) (hbh : bh.size ≤ 20) :
    Calls Tryd.prog 57 #[.string s, .slice Aw m cw, .string be, .string bh] w fun e w' => e = .returned (.string (strOfNums (markP s ws be bh (pieces s 0)))) ∧ Below w.heap.size w w' := by
  have HML := Lib.hid (markP_length s ws be bh hs hbe hbh)
  have hlen := pieces_length s _ 0 rfl
  have hwl : ws.length = m := by have := hw.1; simpa using this
  have hwc := hw.2.1
  have hwm := hw.2.2.1
  unfold maxLen at hwm
  have HW := Lib.hid hw
  clear hw
  go_enter Tryd.func57, Tryd.ntmps57
  go_wp2_with fail
  refine (pieces_calls s (by omega) _).mono ?_
  rintro e w1 ⟨v, rfl, ho, hb⟩
  obtain ⟨A, c, rfl, hsl⟩ := own_form ho
  have HB1 := Lib.hid hb
  have HS := Lib.hid hsl
  have HW1 := Lib.hid (HW.out.below hb)
  have hs1 := hb.size
  have hcc := hsl.2.1
  have hcm := hsl.2.2.1
  unfold maxLen at hcm
  clear ho hb hsl
  generalize hP : pieces s 0 = l at *
  have HP := Lib.hid hP
  clear hP
  generalize hn : l.length = n at *
  go_wp2_with fail
  go_loopw [9, 18] (fun out ix wr => ∃ (i : Nat) (t : ByteArray), i ≤ n ∧ ix = .int .i64 i ∧ out = .string t ∧ Hid (bytesOf t ++ markP s ws be bh (l.drop i) = markP s ws be bh l) ∧ Below w1.heap.size w1 wr) (fun _ ix _ => n - (intOf ix).toNat)
  case atStart => exact ⟨0, { data := #[] }, Nat.zero_le _, rfl, rfl, rfl, Below.refl _ _⟩
  case round =>
    obtain ⟨i, t, hi, rfl, rfl, HV, hb⟩ := hrel
    obtain ⟨wz, hwz⟩ : ∃ wz, wz = wr := ⟨_, rfl⟩
    subst hwz
    have HB := Lib.hid hb
    have HS1 := Lib.hid (HS.out.below hb)
    have HW2 := Lib.hid (HW1.out.below hb)
    have hbs := hb.size
    have hbl : t.size ≤ 4276224 := by
      have h := congrArg List.length HV.out
      rw [List.length_append, bytesOf_length] at h
      have := HML.out; omega
    clear hb
    by_cases hlt : i < n
    · obtain ⟨⟨f, g, v⟩, b, o, hx, hd, htk, rfl, hc0, hc1⟩ := piece_at HS1.out hn hlt
      simp only at hc0 hc1
      have HV2 : Hid (bytesOf t ++ (bytesOf (partT s ws be bh (f, g, v)) ++ markP s ws be bh (l.drop (i + 1))) = markP s ws be bh l) := by
        have h := HV.out
        rw [hd, markP_cons] at h
        exact h
      have hz2 : (s.extract f g).size ≤ 2048 := by rw [ByteArray.size_extract]; omega
      have cx := fun W => rtext_calls (s.extract f g) (by omega) W
      have HPY : Hid ((v && hitF ws (s.extract f g)) = true → partT s ws be bh (f, g, v) = be ++ s.extract f g ++ bh) := fun h => partP_hit (x := (f, g, v)) h
      have HPN : Hid ((v && hitF ws (s.extract f g)) = false → partT s ws be bh (f, g, v) = s.extract f g) := fun h => partP_no (x := (f, g, v)) h
      clear HV hd htk hx
      generalize partT s ws be bh (f, g, v) = q at *
      generalize s.extract f g = x2 at *
      obtain ⟨w0, hw0⟩ : ∃ w0, w0 = wz.alloc (.cells #[.string x2, .bool v] 38) := ⟨_, rfl⟩
      have hb0 : Below wz.heap.size wz w0 := by rw [hw0]; exact (Below.refl _ _).alloc (Nat.le_refl _) _
      have hx0 : w0.heap[wz.heap.size]? = some (.cells #[.string x2, .bool v] 38 (0, 0)) := by rw [hw0]; exact heap_alloc_new _ _
      have HX0 := Lib.hid hx0
      obtain ⟨hca, hcb⟩ := box_cells hx0
      have HB0 := Lib.hid (HB.out.trans (hb0.mono hbs))
      have HWJ0 := Lib.hid (HW2.out.below hb0)
      have hbs0 := HB0.out.size
      have hltb : wz.heap.size < w0.heap.size := (Array.getElem?_eq_some_iff.1 hx0).1
      have HW0 := Lib.hid hw0
      clear hb0 hx0 hw0
      go_wp2_with fail
      rw [← HW0.out]
      go_loopw [12, 24] (fun hit jx wq => ∃ j : Nat, j ≤ m ∧ jx = .int .i64 j ∧ hit = .bool (v && hitN ws x2 j) ∧ Below w0.heap.size w0 wq) (fun _ jx _ => m - (intOf jx).toNat)
      case atStart => exact ⟨0, Nat.zero_le _, rfl, by cases v <;> rfl, Below.refl _ _⟩
      case round =>
        obtain ⟨j, hj, rfl, rfl, hbj⟩ := hrel
        have HBJ := Lib.hid hbj
        have HWJ := Lib.hid (HWJ0.out.below hbj)
        have hbsj := hbj.size
        have HXJ : Hid (wr.heap[wz.heap.size]? = some (.cells #[.string x2, .bool v] 38 (0, 0))) := by show _ = _; rw [hbj.block _ hltb]; exact HX0.out
        obtain ⟨hcaj, hcbj⟩ := box_cells HXJ.out
        clear hbj hca hcb
        by_cases hjm : j < m
        · obtain ⟨ad, rfl, hcell⟩ := HWJ.out.at_ hjm
          obtain ⟨y, hy⟩ : ∃ y, ws[j]? = some y := ⟨ws[j]'(by omega), List.getElem?_eq_getElem (by omega)⟩
          rw [List.getD_eq_getElem?_getD, List.getElem?_map, hy] at hcell
          simp only [Option.map_some, Option.getD_some] at hcell
          have HSU := Lib.hid (hitN_succ (t := x2) hy)
          clear hy
          cases v
          · go_wp2_with fail
            go_roundw
            case rel => exact ⟨j + 1, by omega, by go_num, rfl, HBJ.out⟩
            case measure => simp [intOf]; omega
          · cases hh : hitN ws x2 j
            · rw [hh] at HSU
              have hbe2 := toList_beq (strOfNums (textF x2 0)) y
              generalize strOfNums (textF x2 0) = tx at *
              go_wp2_with fail
              refine (cx _).mono ?_
              rintro e w5 ⟨rfl, hb5⟩
              have HB5 := Lib.hid (HBJ.out.trans (hb5.mono hbsj))
              clear hb5
              go_wp2_with fail
              go_roundw
              case rel => exact ⟨j + 1, by omega, by go_num, by rw [HSU.out, Bool.false_or, ← hbe2, Bool.true_and], HB5.out⟩
              case measure => simp [intOf]; omega
            · rw [hh] at HSU
              go_wp2_with fail
              go_roundw
              case rel => exact ⟨j + 1, by omega, by go_num, by rw [HSU.out, Bool.true_or]; rfl, HBJ.out⟩
              case measure => simp [intOf]; omega
        · obtain rfl : j = m := by omega
          have HHA := Lib.hid (hitN_all (ws := ws) (t := x2) (j := j) (by omega))
          cases hh : (v && hitN ws x2 j)
          · have hqq : q = x2 := HPN.out (by rw [← HHA.out]; exact hh)
            have HN : Hid (bytesOf (t ++ x2) ++ markP s ws be bh (l.drop (i + 1)) = markP s ws be bh l) := by
              have h := HV2.out
              rw [hqq] at h
              show _ = _
              rw [bytesOf_append, List.append_assoc]; exact h
            clear hqq
            have hc1 : t.size + x2.size ≤ 140737488355327 := by omega
            go_wp2_with fail
            go_roundw
            case rel => exact ⟨i + 1, t ++ x2, by omega, by go_num, rfl, HN.out, HB0.out.trans (HBJ.out.mono hbs0)⟩
            case measure => simp [intOf]; omega
          · have hqq : q = be ++ x2 ++ bh := HPY.out (by rw [← HHA.out]; exact hh)
            have HN : Hid (bytesOf (t ++ be ++ x2 ++ bh) ++ markP s ws be bh (l.drop (i + 1)) = markP s ws be bh l) := by
              have h := HV2.out
              rw [hqq] at h
              show _ = _
              rw [← h]
              simp only [bytesOf_append, List.append_assoc]
            clear hqq
            have hc1 : t.size + be.size ≤ 140737488355327 := by omega
            have hc2 : (t ++ be).size + x2.size ≤ 140737488355327 := by rw [ByteArray.size_append]; omega
            have hc3 : (t ++ be ++ x2).size + bh.size ≤ 140737488355327 := by rw [ByteArray.size_append, ByteArray.size_append]; omega
            go_wp2_with fail
            go_roundw
            case rel => exact ⟨i + 1, t ++ be ++ x2 ++ bh, by omega, by go_num, rfl, HN.out, HB0.out.trans (HBJ.out.mono hbs0)⟩
            case measure => simp [intOf]; omega
    · obtain rfl : i = n := by omega
      have HF : Hid (strOfNums (markP s ws be bh l) = t) := by
        have h := HV.out
        rw [List.drop_eq_nil_of_le (by omega)] at h
        have h2 : bytesOf t ++ [] = markP s ws be bh l := h
        rw [List.append_nil] at h2
        show _ = _
        rw [← h2, strOfNums_bytesOf]
      clear HV
      go_wp2_with fail
      go_ret
      exact ⟨ret_string (by rw [HP.out]; exact HF.out.symm), HB1.out.trans (HB.out.mono hs1)⟩

set_option maxHeartbeats 2000000 in
theorem marks_proof (w : World) (hL : Laid w) (s : ByteArray) (hs : s.size ≤ 140737488351232) (Aw : Option Addr) (m cw : Nat) (ws : List ByteArray) (hw : IsSl w 1 Aw m cw (ws.map .string)) (be : ByteArray) (hbe : be.size ≤ 140737488351232) (bh : ByteArray) (hbh : bh.size ≤ 140737488351232) :
    Calls Tryd.prog 14 #[.string s, .slice Aw m cw, .string be, .string bh] w fun e w' => e = .returned (.bool true) ∧ Below w.heap.size w w' := by
  have HL := Lib.hid hL
  have HW := Lib.hid hw
  have hwc := hw.2.1
  have hwm := hw.2.2.1
  unfold maxLen at hwm
  clear hL hw
  have hcase : (2048 : Int) < s.size ∨ ((s.size : Int) ≤ 2048 ∧ (20 : Int) < m) ∨ ((s.size : Int) ≤ 2048 ∧ (m : Int) ≤ 20 ∧ (20 : Int) < be.size) ∨ ((s.size : Int) ≤ 2048 ∧ (m : Int) ≤ 20 ∧ (be.size : Int) ≤ 20 ∧ (20 : Int) < bh.size) ∨ ((s.size : Int) ≤ 2048 ∧ (m : Int) ≤ 20 ∧ (be.size : Int) ≤ 20 ∧ (bh.size : Int) ≤ 20) := by omega
  rcases hcase with h1 | ⟨h1, h2⟩ | ⟨h1, h2, h3⟩ | ⟨h1, h2, h3, h4⟩ | ⟨h1, h2, h3, h4⟩
  · go_enter Tryd.func14, Tryd.ntmps14
    go_wp2_with fail
    refine (awake_calls _ HL.out).mono ?_
    rintro e w1 ⟨rfl, hb1⟩
    go_wp2_with fail
    go_ret
    exact ⟨rfl, hb1⟩
  · go_enter Tryd.func14, Tryd.ntmps14
    go_wp2_with fail
    refine (awake_calls _ HL.out).mono ?_
    rintro e w1 ⟨rfl, hb1⟩
    go_wp2_with fail
    go_ret
    exact ⟨rfl, hb1⟩
  · go_enter Tryd.func14, Tryd.ntmps14
    go_wp2_with fail
    refine (awake_calls _ HL.out).mono ?_
    rintro e w1 ⟨rfl, hb1⟩
    go_wp2_with fail
    go_ret
    exact ⟨rfl, hb1⟩
  · go_enter Tryd.func14, Tryd.ntmps14
    go_wp2_with fail
    refine (awake_calls _ HL.out).mono ?_
    rintro e w1 ⟨rfl, hb1⟩
    go_wp2_with fail
    go_ret
    exact ⟨rfl, hb1⟩
  · have c1 := fun W h h' => mark_calls s (by omega) W h Aw m cw ws h' be bh (by omega) (by omega)
    have c2 := fun W h' => rmark_calls s (by omega) W Aw m cw ws h' be bh (by omega) (by omega)
    have c3 := fun W h h' => mark_calls s (by omega) W h Aw m cw ws h' { data := #[] } { data := #[] } (by decide) (by decide)
    rw [mark_self] at c3
    generalize strOfNums (markP s ws be bh (pieces s 0)) = M at *
    go_enter Tryd.func14, Tryd.ntmps14
    go_wp2_with fail
    refine (c1 _ HL.out HW.out).mono ?_
    rintro e w1 ⟨rfl, hb⟩
    have HB1 := Lib.hid hb
    clear hb
    go_wp2_with fail
    refine (c2 _ (HW.out.below HB1.out)).mono ?_
    rintro e w2 ⟨rfl, hb⟩
    have HB2 : Hid (Below w.heap.size w w2) := below_next HB1.out hb
    clear hb
    go_wp2_with fail
    refine (c3 _ (HL.out.below HB2.out) (HW.out.below HB2.out)).mono ?_
    rintro e w3 ⟨rfl, hb⟩
    have HB3 : Hid (Below w.heap.size w w3) := below_next HB2.out hb
    clear hb
    go_wp2_with fail
    refine (awake_calls _ (HL.out.below HB3.out)).mono ?_
    rintro e w4 ⟨rfl, hb⟩
    go_wp2_with fail
    go_ret
    exact ⟨rfl, below_next HB3.out hb⟩
end Tok
end Go.Proofs.YtonhlgidfgogiaaDoor
