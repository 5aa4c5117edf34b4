/- Export: unescape; a document's name. -/
import Derived.Test.YtfohollhdaedlaaDoorExp1
set_option linter.unusedVariables false
set_option linter.unusedSimpArgs false
set_option maxRecDepth 100000
namespace Go.Proofs.YtfohollhdaedlaaDoor
open Go.RowKit
namespace Exp
def ures : Option B8 → Value
  | some t => .tuple #[.string (mk8 t), .bool true]
  | none => .tuple #[.string ⟨#[]⟩, .bool false]
theorem drop_at {l : B8} {i : Nat} {c : UInt8} (h : l[i]? = some c) : l.drop i = c :: l.drop (i + 1) := by
  obtain ⟨h1, h2⟩ := List.getElem?_eq_some_iff.1 h
  rw [List.drop_eq_getElem_cons h1, h2]
theorem map_map_app (o : Option B8) (out : B8) (c : UInt8) : (o.map (c :: ·)).map (out ++ ·) = o.map ((out ++ [c]) ++ ·) := by
  cases o <;> simp
set_option maxHeartbeats 4000000 in
theorem unescape_calls (s : ByteArray) (hs : s.size ≤ 1000000) (w : World) :
    Calls Tryd.prog 81 #[.string s] w fun e w' => e = .returned (ures (unesc (by8 s))) ∧ Below w.heap.size w w' := by
  obtain ⟨n, hn⟩ : ∃ n, s.size = n := ⟨_, rfl⟩
  have HN := Lib.hid hn
  rw [hn] at hs
  have hl : (by8 s).length = n := by rw [by8_len]; exact hn
  have HLN := Lib.hid hl
  clear hn hl
  have HI := Lib.hid (IsB.new w)
  have HW : Hid (Below w.heap.size w (w.alloc (.cells #[.pointer none, .slice none 0 0] 75))) := (Below.refl _ _).alloc (Nat.le_refl _) _
  go_enter Tryd.func81, Tryd.ntmps81
  go_wp2_with fail
  go_loopw [5] (fun ix wr => ∃ (i : Nat) (out : B8), i ≤ n ∧ ix = .int .i64 i ∧ IsB w.heap.size w.heap.size out wr ∧ Below w.heap.size w wr ∧ out.length ≤ i ∧ unesc (by8 s) = (unesc ((by8 s).drop i)).map (out ++ ·)) (fun ix _ => n - (intOf ix).toNat)
  case atStart => exact ⟨0, [], Nat.zero_le _, rfl, HI.out, HW.out, Nat.zero_le _, by simp⟩
  case round =>
    clear HI HW
    obtain ⟨i, out, hi, rfl, hb, hbw, ho, hu⟩ := hrel
    have HB := Lib.hid hb
    have HW := Lib.hid hbw
    have HU := Lib.hid hu
    clear hb hbw hu
    have hn := HN.out
    by_cases hlt : i < n
    · obtain ⟨c, hc, hbc⟩ := by8_get s i (by rw [HN.out]; exact hlt)
      have hix := idx_s s i (i : Int) rfl (by rw [HN.out]; exact hlt)
      rw [hbc] at hix
      have HD := Lib.hid (drop_at hc)
      clear hc hbc
      by_cases h92 : c.toNat = 92
      · have hc92 := c92.2 h92
        subst hc92
        by_cases hl2 : i + 1 < n
        · obtain ⟨d, hd, hbd⟩ := by8_get s (i + 1) (by rw [HN.out]; exact hl2)
          have hix2 := idx_s s (i + 1) ((i : Int) + 1) (by omega) (by rw [HN.out]; exact hl2)
          rw [hbd] at hix2
          have HD2 := Lib.hid (drop_at hd)
          have hne : ((i : Int) + 1 == n) = false := by simp; omega
          clear hd hbd
          by_cases hd1 : d.toNat = 110
          · have HU2 : Hid (unesc (by8 s) = (unesc ((by8 s).drop (i + 1 + 1))).map ((out ++ [10]) ++ ·)) := by
              show _ = _
              rw [HU.out, HD.out, HD2.out, unesc_bs, if_pos (c110.2 hd1), map_map_app]
            have C := Lib.hid (wByte 10 HB.out (by omega) HW.out.size)
            rw [hd1] at hix2
            clear hd1
            go_wp2_with fail
            refine C.out.mono ?_
            rintro e w2 ⟨rfl, hb2, hw2⟩
            have HB2 := Lib.hid hb2
            have HW2 := Lib.hid (HW.out.trans hw2)
            clear hb2 hw2
            go_wp2_with fail
            go_roundw
            case rel => exact ⟨i + 1 + 1, out ++ [10], by omega, by go_num, HB2.out, HW2.out, by rw [List.length_append]; simp; omega, HU2.out⟩
            case measure => simp [intOf]; omega
          · by_cases hd2 : d.toNat = 92
            · have HU2 : Hid (unesc (by8 s) = (unesc ((by8 s).drop (i + 1 + 1))).map ((out ++ [92]) ++ ·)) := by
                show _ = _
                rw [HU.out, HD.out, HD2.out, unesc_bs, if_neg (fun h => hd1 (c110.1 h)), if_pos (c92.2 hd2), map_map_app]
              have C := Lib.hid (wByte 92 HB.out (by omega) HW.out.size)
              rw [hd2] at hix2
              clear hd1 hd2
              go_wp2_with fail
              refine C.out.mono ?_
              rintro e w2 ⟨rfl, hb2, hw2⟩
              have HB2 := Lib.hid hb2
              have HW2 := Lib.hid (HW.out.trans hw2)
              clear hb2 hw2
              go_wp2_with fail
              go_roundw
              case rel => exact ⟨i + 1 + 1, out ++ [92], by omega, by go_num, HB2.out, HW2.out, by rw [List.length_append]; simp; omega, HU2.out⟩
              case measure => simp [intOf]; omega
            · have HU2 : Hid (unesc (by8 s) = none) := by
                show _ = _
                rw [HU.out, HD.out, HD2.out, unesc_bs, if_neg (fun h => hd1 (c110.1 h)), if_neg (fun h => hd2 (c92.1 h))]; rfl
              have k1 : ((d.toNat : Int) == 110) = false := by simp; omega
              have k2 : ((d.toNat : Int) == 92) = false := by simp; omega
              clear hd1 hd2
              go_wp2_with fail
              go_ret2
              exact ⟨by rw [HU2.out]; rfl, HW.out⟩
        · have he : i + 1 = n := by omega
          have HU2 : Hid (unesc (by8 s) = none) := by
            show _ = _
            rw [HU.out, HD.out, List.drop_eq_nil_of_le (by rw [HLN.out]; omega)]; rfl
          have hne : ((i : Int) + 1 == n) = true := by simp; omega
          clear he
          go_wp2_with fail
          go_ret2
          exact ⟨by rw [HU2.out]; rfl, HW.out⟩
      · have HU2 : Hid (unesc (by8 s) = (unesc ((by8 s).drop (i + 1))).map ((out ++ [c]) ++ ·)) := by
          show _ = _
          rw [HU.out, HD.out, unesc_other c _ (fun h => h92 (c92.1 h)), map_map_app]
        have C := Lib.hid (wByte c HB.out (by omega) HW.out.size)
        have k2 : ((c.toNat : Int) == 92) = false := by simp; omega
        clear h92
        go_wp2_with fail
        refine C.out.mono ?_
        rintro e w2 ⟨rfl, hb2, hw2⟩
        have HB2 := Lib.hid hb2
        have HW2 := Lib.hid (HW.out.trans hw2)
        clear hb2 hw2
        go_wp2_with fail
        go_roundw
        case rel => exact ⟨i + 1, out ++ [c], by omega, by go_num, HB2.out, HW2.out, by rw [List.length_append]; simp; omega, HU2.out⟩
        case measure => simp [intOf]; omega
    · have HU2 : Hid (unesc (by8 s) = some out) := by
        show _ = _
        rw [HU.out, List.drop_eq_nil_of_le (by rw [HLN.out]; omega)]; simp [unesc]
      have C := Lib.hid (bStr HB.out HW.out.size)
      go_wp2_with fail
      refine C.out.mono ?_
      rintro e w2 ⟨rfl, hw2⟩
      have HW2 := Lib.hid (HW.out.trans hw2)
      clear hw2
      go_wp2_with fail
      go_ret2
      exact ⟨by rw [HU2.out]; rfl, HW2.out⟩
end Exp
end Go.Proofs.YtfohollhdaedlaaDoor
