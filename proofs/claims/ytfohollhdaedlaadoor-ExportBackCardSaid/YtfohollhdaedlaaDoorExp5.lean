/- Export: the reference's Escape, plain. -/
import Derived.Test.YtfohollhdaedlaaDoorExp4
set_option linter.unusedVariables false
set_option linter.unusedSimpArgs false
set_option maxRecDepth 100000
namespace Go.Proofs.YtfohollhdaedlaaDoor
open Go.RowKit
namespace Exp
theorem mk8_app (a b : B8) : mk8 a ++ mk8 b = mk8 (a ++ b) := by
  apply ByteArray.ext
  apply Array.ext'
  simp [mk8]
theorem mk8_size (l : B8) : (mk8 l).size = l.length := by rw [← by8_len]; rfl
theorem mk8_ext (s : ByteArray) (i : Nat) (c : UInt8) (h : (by8 s)[i]? = some c) : s.extract i (i + 1) = mk8 [c] := by
  apply ByteArray.ext
  apply Array.ext'
  have hi := (List.getElem?_eq_some_iff.1 h).1
  have e := (List.getElem?_eq_some_iff.1 h).2
  rw [ByteArray.data_extract, Array.toList_extract, List.extract_eq_take_drop, drop_at h, show i + 1 - i = 1 by omega]
  rfl
theorem mk8_eq (a b : B8) : ((mk8 a).toList == (mk8 b).toList) = decide (a = b) := by
  rw [toList_beq, Bool.eq_iff_iff, decide_eq_true_iff, decide_eq_true_iff]
  exact ⟨fun h => by have := congrArg by8 h; simpa [by8_mk] using this, fun h => by rw [h]⟩
theorem one_eq (c d : UInt8) : ((mk8 [c]).toList == [d]) = decide (c = d) := by
  have e : (mk8 [c]).toList = [c] := by rw [ByteArray.toList_eq]; rfl
  rw [e, Bool.eq_iff_iff, beq_iff_eq, decide_eq_true_iff]; simp
/-- A sign of a text, as a text. -/
theorem sl_one (s : ByteArray) (i : Nat) (x y : Int) (hx : x = i) (hy : y = ((i + 1 : Nat) : Int)) (c : UInt8) (h : (by8 s)[i]? = some c) (W : World) :
    (Instr.slice 9 (.string s) (some (.int .i64 x)) (some (.int .i64 y)) none).run Tryd.prog W = .ok (.string (mk8 [c])) W := by
  have hi : i < s.data.toList.length := (List.getElem?_eq_some_iff.1 h).1
  have hl : s.data.toList.length = s.size := by8_len s
  rw [← mk8_ext s i c h]
  exact slice_str Tryd.underlying9 s .i64 .i64 x y i (i + 1) hx hy (by omega) (by omega) W
set_option maxHeartbeats 4000000 in
theorem rescape_calls (s : ByteArray) (hs : s.size ≤ 1000000) (w : World) :
    Calls Tryd.prog 88 #[.string s] w fun e w' => e = .returned (.string (mk8 (esc (by8 s)))) ∧ Below w.heap.size w w' := by
  obtain ⟨n, hn⟩ : ∃ n, s.size = n := ⟨_, rfl⟩
  have HN := Lib.hid hn
  rw [hn] at hs
  go_enter Tryd.func88, Tryd.ntmps88
  go_wp2_with fail
  clear hn
  go_loopw [3, 8] (fun ot ix wr => ∃ i : Nat, i ≤ n ∧ ix = .int .i64 i ∧ ot = .string (mk8 (esc ((by8 s).take i))) ∧ Below w.heap.size w wr) (fun _ ix _ => n - (intOf ix).toNat)
  case atStart => exact ⟨0, Nat.zero_le _, rfl, rfl, Below.refl _ _⟩
  case round =>
    obtain ⟨i, hi, rfl, rfl, hb⟩ := hrel
    have HB := Lib.hid hb
    have HE := Lib.hid (esc_len ((by8 s).take i))
    clear hb
    by_cases hlt : i < n
    · obtain ⟨c, hc, _⟩ := by8_get s i (by rw [HN.out]; exact hlt)
      have hsl := sl_one s i (i : Int) ((i : Int) + 1) rfl (by omega) c hc
      have HT := Lib.hid (esc_take (by8 s) hc)
      obtain ⟨A, hA⟩ : ∃ A, mk8 (esc ((by8 s).take i)) = A := ⟨_, rfl⟩
      have HA := Lib.hid hA
      have hAs : A.size ≤ 2000000 := by
        rw [← hA, mk8_size]
        have h := HE.out
        rw [List.length_take] at h
        omega
      rw [hA]
      have e10 := one_eq c 10
      have e92 := one_eq c 92
      clear hA hc
      by_cases h10 : c = 10
      · subst h10
        rw [decide_eq_true rfl] at e10
        have HO : Hid (esc1 10 = [92, 110]) := by show _ = _; rfl
        clear e92
        go_wp2_with fail
        go_roundw
        case rel => exact ⟨i + 1, by omega, by go_num, by rw [HT.out, HO.out, ← HA.out]; exact congrArg Value.string (mk8_app _ _), HB.out⟩
        case measure => simp [intOf]; omega
      · rw [decide_eq_false h10] at e10
        by_cases h92 : c = 92
        · subst h92
          rw [decide_eq_true rfl] at e92
          have HO : Hid (esc1 92 = [92, 92]) := by show _ = _; rfl
          go_wp2_with fail
          go_roundw
          case rel => exact ⟨i + 1, by omega, by go_num, by rw [HT.out, HO.out, ← HA.out]; exact congrArg Value.string (mk8_app _ _), HB.out⟩
          case measure => simp [intOf]; omega
        · rw [decide_eq_false h92] at e92
          have HO : Hid (esc1 c = [c]) := by show _ = _; unfold esc1; rw [if_neg h10, if_neg h92]
          have hsz : (mk8 [c]).size = 1 := by rw [mk8_size]; rfl
          clear h10 h92
          go_wp2_with fail
          go_roundw
          case rel => exact ⟨i + 1, by omega, by go_num, by rw [HT.out, HO.out, ← HA.out]; exact congrArg Value.string (mk8_app _ _), HB.out⟩
          case measure => simp [intOf]; omega
    · have ht : (by8 s).take i = by8 s := List.take_of_length_le (by rw [by8_len, HN.out]; omega)
      rw [ht]
      clear ht
      go_wp2_with fail
      go_ret
      exact ⟨rfl, HB.out⟩
/-- What the reference says of a line. -/
def Plain (s : ByteArray) (e : Ending) : Prop := ∃ t, e = .returned (.tuple #[.string t, .bool (unesc (by8 s)).isSome]) ∧ ∀ t', unesc (by8 s) = some t' → t = mk8 t'
theorem plain_none {s : ByteArray} {t : ByteArray} (h : unesc (by8 s) = none) : Plain s (.returned (.tuple #[.string t, .bool false])) := ⟨t, by rw [h]; rfl, fun t' h' => by rw [h] at h'; cases h'⟩
theorem plain_some {s : ByteArray} {o : B8} (h : unesc (by8 s) = some o) : Plain s (.returned (.tuple #[.string (mk8 o), .bool true])) := ⟨_, by rw [h]; rfl, fun t' h' => by rw [h] at h'; cases h'; rfl⟩
set_option maxHeartbeats 4000000 in
theorem rplain_calls (s : ByteArray) (hs : s.size ≤ 1000000) (w : World) :
    Calls Tryd.prog 87 #[.string s] w fun e w' => Plain s e ∧ Below w.heap.size w w' := by
  obtain ⟨n, hn⟩ : ∃ n, s.size = n := ⟨_, rfl⟩
  have HN := Lib.hid hn
  rw [hn] at hs
  have hl : (by8 s).length = n := by rw [by8_len]; exact hn
  have HLN := Lib.hid hl
  clear hl
  go_enter Tryd.func87, Tryd.ntmps87
  go_wp2_with fail
  clear hn
  go_loopw [4, 5, 10] (fun ot pt ix wr => ∃ (i : Nat) (o : B8) (op : Bool), i ≤ n ∧ ix = .int .i64 i ∧ ot = .string (mk8 o) ∧ pt = .bool op ∧ o.length ≤ i ∧ unesc (by8 s) = (unesc ((if op then [92] else []) ++ (by8 s).drop i)).map (o ++ ·) ∧ Below w.heap.size w wr) (fun _ _ ix _ => n - (intOf ix).toNat)
  case atStart => exact ⟨0, [], false, Nat.zero_le _, rfl, rfl, rfl, Nat.le_refl _, by simp, Below.refl _ _⟩
  case round =>
    obtain ⟨i, o, op, hi, rfl, rfl, rfl, ho, hu, hb⟩ := hrel
    have HB := Lib.hid hb
    have HU := Lib.hid hu
    clear hb hu
    by_cases hlt : i < n
    · obtain ⟨c, hc, _⟩ := by8_get s i (by rw [HN.out]; exact hlt)
      have hsl := sl_one s i (i : Int) ((i : Int) + 1) rfl (by omega) c hc
      have HD := Lib.hid (drop_at hc)
      obtain ⟨A, hA⟩ : ∃ A, mk8 o = A := ⟨_, rfl⟩
      have HA := Lib.hid hA
      have hAs : A.size ≤ 2000000 := by
        rw [← hA, mk8_size]
        omega
      rw [hA]
      have e110 := one_eq c 110
      have e92 := one_eq c 92
      clear hA hc
      cases op
      · by_cases h92 : c = 92
        · subst h92
          rw [decide_eq_true rfl] at e92
          have HU2 : Hid (unesc (by8 s) = (unesc ((if true then [92] else []) ++ (by8 s).drop (i + 1))).map (o ++ ·)) := by
            show _ = _
            rw [HU.out, HD.out]; rfl
          clear e110
          go_wp2_with fail
          go_roundw
          case rel => exact ⟨i + 1, o, true, by omega, by go_num, by rw [HA.out], rfl, by omega, HU2.out, HB.out⟩
          case measure => simp [intOf]; omega
        · rw [decide_eq_false h92] at e92
          have HU2 : Hid (unesc (by8 s) = (unesc ((if false then [92] else []) ++ (by8 s).drop (i + 1))).map ((o ++ [c]) ++ ·)) := by
            show _ = _
            rw [HU.out, HD.out]
            show (unesc (c :: _)).map _ = _
            rw [unesc_other c _ h92, map_map_app]; rfl
          have hsz : (mk8 [c]).size = 1 := by rw [mk8_size]; rfl
          clear h92 e110
          go_wp2_with fail
          go_roundw
          case rel => exact ⟨i + 1, o ++ [c], false, by omega, by go_num, by rw [← HA.out]; exact congrArg Value.string (mk8_app _ _), rfl, by rw [List.length_append]; simp; omega, HU2.out, HB.out⟩
          case measure => simp [intOf]; omega
      · by_cases h110 : c = 110
        · subst h110
          rw [decide_eq_true rfl] at e110
          have HU2 : Hid (unesc (by8 s) = (unesc ((if false then [92] else []) ++ (by8 s).drop (i + 1))).map ((o ++ [10]) ++ ·)) := by
            show _ = _
            rw [HU.out, HD.out]
            show (unesc (92 :: 110 :: _)).map _ = _
            rw [unesc_bs, if_pos rfl, map_map_app]; rfl
          clear e92
          go_wp2_with fail
          go_roundw
          case rel => exact ⟨i + 1, o ++ [10], false, by omega, by go_num, by rw [← HA.out]; exact congrArg Value.string (mk8_app _ [10]), rfl, by rw [List.length_append]; simp; omega, HU2.out, HB.out⟩
          case measure => simp [intOf]; omega
        · rw [decide_eq_false h110] at e110
          by_cases h92 : c = 92
          · subst h92
            rw [decide_eq_true rfl] at e92
            have HU2 : Hid (unesc (by8 s) = (unesc ((if false then [92] else []) ++ (by8 s).drop (i + 1))).map ((o ++ [92]) ++ ·)) := by
              show _ = _
              rw [HU.out, HD.out]
              show (unesc (92 :: 92 :: _)).map _ = _
              rw [unesc_bs, if_neg (by decide), if_pos rfl, map_map_app]; rfl
            have n110 : ((mk8 [92]).toList != [110]) = true := by rw [bne, e110]; rfl
            have n92 : ((mk8 [92]).toList != [92]) = false := by rw [bne, e92]; rfl
            have hsz : (mk8 [92]).size = 1 := by rw [mk8_size]; rfl
            go_wp2_with fail
            go_roundw
            case rel => exact ⟨i + 1, o ++ [92], false, by omega, by go_num, by rw [← HA.out]; exact congrArg Value.string (mk8_app _ [92]), rfl, by rw [List.length_append]; simp; omega, HU2.out, HB.out⟩
            case measure => simp [intOf]; omega
          · rw [decide_eq_false h92] at e92
            have HU2 : Hid (unesc (by8 s) = none) := by
              show _ = _
              rw [HU.out, HD.out]
              show (unesc (92 :: c :: _)).map _ = _
              rw [unesc_bs, if_neg h110, if_neg h92]; rfl
            have n110 : ((mk8 [c]).toList != [110]) = true := by rw [bne, e110]; rfl
            have n92 : ((mk8 [c]).toList != [92]) = true := by rw [bne, e92]; rfl
            clear h92 h110
            go_wp2_with fail
            go_ret2
            exact ⟨plain_none HU2.out, HB.out⟩
    · have hd : (by8 s).drop i = [] := List.drop_eq_nil_of_le (by rw [HLN.out]; omega)
      rw [hd] at HU
      clear hd
      cases op
      · have HU2 : Hid (unesc (by8 s) = some o) := by
          show _ = _
          rw [HU.out]; simp [unesc]
        go_wp2_with fail
        go_ret2
        exact ⟨plain_some HU2.out, HB.out⟩
      · have HU2 : Hid (unesc (by8 s) = none) := by
          show _ = _
          rw [HU.out]; rfl
        go_wp2_with fail
        go_ret2
        exact ⟨plain_none HU2.out, HB.out⟩
end Exp
end Go.Proofs.YtfohollhdaedlaaDoor
