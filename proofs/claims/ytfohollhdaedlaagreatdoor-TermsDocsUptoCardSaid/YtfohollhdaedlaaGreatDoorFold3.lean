/- The walks: fold.Text, the reference's Text, the example of layer 4. -/
import Derived.Test.YtfohollhdaedlaaGreatDoorFold2
import Derived.Test.YtfohollhdaedlaaGreatDoorFoldText
import Derived.Test.YtfohollhdaedlaaGreatDoorUtfP2
import Derived.Lib.AppendStr
set_option linter.unusedVariables false
set_option linter.unusedSimpArgs false
namespace Go.Proofs.YtfohollhdaedlaaGreatDoor
open Go.RowKit Utf
namespace Fold

set_option maxHeartbeats 2000000 in
set_option maxRecDepth 100000 in
theorem text_calls (s : ByteArray) (hs : s.size ≤ 16777216) (w : World) (hL : Laid w) :
    Calls Tryz.prog 39 #[.string s] w fun e w' => e = .returned (.string (strOfNums (textF s 0))) ∧ Below w.heap.size w w' := by
  have HL := Lib.hid hL
  have HT := Lib.hid (textF_byt s _ 0 rfl)
  clear hL
  go_enter Tryz.func39, Tryz.ntmps39
  go_wp2_with fail
  go_loopw [3, 4] (fun out ix wr => ∃ (a : Nat) (L : List Int), a ≤ s.size ∧ L.length ≤ 4 * a ∧ ix = .int .i64 a ∧ Hid (L ++ textF s a = textF s 0) ∧ wr.ownsRow w.heap.size 5 1 out L.length (L.map (.int .u8)) ∧ Below w.heap.size w wr) (fun _ i _ => s.size - (intOf i).toNat)
  case atStart => exact ⟨0, [], Nat.zero_le _, Nat.zero_le _, rfl, rfl, World.ownsRow_nil _ _ _ _, Below.refl _ _⟩
  case round =>
    obtain ⟨a, L, ha, hLa, rfl, HV, ho, hb⟩ := hrel
    obtain ⟨A, c, rfl, hsl⟩ := own_form ho
    have HO := Lib.hid ho
    have HS := Lib.hid hsl
    have HB := Lib.hid hb
    have hbs := hb.size
    clear ho hsl hb
    by_cases hlt : a < s.size
    · have hst := nx_step s a hlt
      have HX := Lib.hid (textF_go hlt)
      have HA := Lib.hid (adv_range s a hlt)
      have ea := byt_at s a hlt
      go_wp2_with fail
      refine (nx_calls s a hlt (by omega) _).mono ?_
      rintro e w1 ⟨rfl, hb1⟩
      have hbs1 := hb1.size
      have HB1 : Hid (Below w.heap.size w w1) := below_next HB.out hb1
      have HO1 := Lib.hid (own_below HO.out hb1)
      have HS1 := Lib.hid (HS.out.below hb1)
      clear HO HS HB hb1
      by_cases hneg : (nx s a).1 < 0
      · have HP := Lib.hid (piece_bad hneg)
        go_wp2_with (at_builtin; refine wpList_app_own _ rfl (.tmp 19) (.tmp 23) 102 rfl w.heap.size 5 (.int .u8 0) 1 1 Tryz.underlying102 infoU8 rfl (by decide) _ L.length (L.map (.int .u8)) rfl (HO1.out.alloc _) _ 1 1 _ rfl (sl_lit _ _ _ 1 rfl (by decide)) (by simp [Value.oneCell']) (by unfold maxLen; omega) (by omega) (by simp; omega) ?_)
        intro v' w2 ho2 hg2 hb2
        have HO2 := Lib.hid ho2
        clear ho2 hg2
        go_wp2_with fail
        go_roundw
        case rel =>
          refine ⟨adv s a, L ++ [byt s a], HA.out.2.1, by have := HA.out; simp; omega, by rw [HA.out.2.2], ?_, ?_, (HB1.out.alloc (by omega) _).trans hb2⟩
          · have h1 := HV.out
            rw [HX.out, HP.out] at h1
            show _ ++ _ = _
            rw [← h1, List.append_assoc]
          · rw [List.length_append, List.map_append]
            exact HO2.out
        case measure => simp [intOf]; omega
      · have HP := Lib.hid (piece_good hneg)
        have hlr := low_range (nx s a).1 (by omega)
        go_wp2_with fail
        refine (lower_calls _ (by omega) _ (HL.out.below HB1.out)).mono ?_
        rintro e w2 ⟨rfl, hb2⟩
        have HB2 : Hid (Below w.heap.size w w2) := below_next HB1.out hb2
        have HS2 := Lib.hid (HS1.out.below hb2)
        have hbs2 := hb2.size
        clear hb2
        go_wp2_with fail
        refine (put_calls A L.length c L _ hlr _ HS2.out (by omega)).mono ?_
        rintro e w3 ⟨v3, rfl, ho3, hb3⟩
        have HO3 := Lib.hid (own_base ho3 (show w.heap.size ≤ w2.heap.size by omega))
        clear ho3
        go_wp2_with fail
        go_roundw
        case rel =>
          refine ⟨adv s a, L ++ enc (low (nx s a).1), HA.out.2.1, by have := HA.out; have := enc_length (low (nx s a).1); rw [List.length_append]; omega, by rw [HA.out.2.2], ?_, HO3.out, below_next HB2.out hb3⟩
          have h1 := HV.out
          rw [HX.out, HP.out] at h1
          show _ ++ _ = _
          rw [← h1, List.append_assoc]
        case measure => simp [intOf]; omega
    · have HX := Lib.hid (textF_end hlt)
      have hLe : L = textF s 0 := by have := HV.out; rw [HX.out, List.append_nil] at this; exact this
      have hcv := run_str_of (P := Tryz.prog) wr 102 9 5 Tryz.underlying102 Tryz.underlying5 Tryz.underlying9 A _ c _ HS.out
      have HE := Lib.hid hLe
      clear hLe
      go_wp2_with fail
      go_ret
      exact ⟨ret_string (by rw [HE.out]), HB.out⟩

set_option maxHeartbeats 2000000 in
set_option maxRecDepth 100000 in
theorem rtext_calls (s : ByteArray) (hs : s.size ≤ 16777216) (w : World) :
    Calls Tryz.prog 69 #[.string s] w fun e w' => e = .returned (.string (strOfNums (textF s 0))) ∧ Below w.heap.size w w' := by
  have HT := Lib.hid (textF_byt s _ 0 rfl)
  go_enter Tryz.func69, Tryz.ntmps69
  go_wp2_with fail
  refine (rends_calls s hs _).mono ?_
  rintro e w0 ⟨v, rfl, ho, hb0⟩
  obtain ⟨E, d, rfl, hsl0⟩ := own_form ho
  have HE := Lib.hid hsl0
  have HB0 := Lib.hid hb0
  have hlen : (endsF s 0).length ≤ 16777216 := by rw [endsF_length s _ 0 rfl]; have := countF_le s _ 0 rfl; omega
  have hbs0 := hb0.size
  clear ho hsl0 hb0
  go_wp2_with fail
  go_loopw [3, 4, 12] (fun out at_ ix wr => ∃ (a k : Nat) (L : List Int), a ≤ s.size ∧ L.length ≤ 4 * a ∧ k ≤ (endsF s 0).length ∧ at_ = .int .i64 a ∧ ix = .int .i64 k ∧ Hid ((endsF s 0).drop k = endsF s a) ∧ Hid (L ++ textF s a = textF s 0) ∧ wr.ownsRow w0.heap.size 5 1 out L.length (L.map (.int .u8)) ∧ Below w0.heap.size w0 wr) (fun _ _ i _ => (endsF s 0).length - (intOf i).toNat)
  case atStart => exact ⟨0, 0, [], Nat.zero_le _, Nat.zero_le _, Nat.zero_le _, rfl, rfl, rfl, rfl, World.ownsRow_nil _ _ _ _, Below.refl _ _⟩
  case round =>
    obtain ⟨a, k, L, ha, hLa, hk, rfl, rfl, HD, HV, ho, hb'⟩ := hrel
    obtain ⟨A, c, rfl, hsl⟩ := own_form ho
    have HO := Lib.hid ho
    have HS := Lib.hid hsl
    have HBB := Lib.hid hb'
    have hbs := hb'.size
    clear ho hsl hb'
    by_cases hlt : a < s.size
    · have hst := nx_step s a hlt
      have HX := Lib.hid (textF_go hlt)
      have HA := Lib.hid (adv_range s a hlt)
      have hkl : k < (endsF s 0).length := by
        have h1 := congrArg List.length HD.out
        rw [endsF_go hlt, List.length_drop, List.length_cons] at h1
        omega
      obtain ⟨ad, rfl, hcell⟩ := (HE.out.below HBB.out).at_ hkl
      have hgd : (List.map (Value.int IntKind.i64) (endsF s 0)).getD k undef = .int .i64 (adv s a : Nat) := by
        have h1 : (endsF s 0)[k]? = some ((adv s a : Nat) : Int) := by
          have := congrArg (fun l => l[0]?) HD.out
          simp only [List.getElem?_drop, Nat.add_zero] at this
          rw [this, endsF_go hlt]; rfl
        rw [List.getD_eq_getElem?_getD, List.getElem?_map, h1]; rfl
      rw [hgd] at hcell
      have HK := Lib.hid (show (endsF s 0).drop (k + 1) = endsF s (adv s a) by rw [← List.tail_drop, HD.out, endsF_go hlt]; rfl)
      clear hgd
      generalize hn : (endsF s 0).length = N at *
      have HN := Lib.hid hn
      clear hn
      generalize hj : adv s a = j at *
      have HJ := Lib.hid hj
      clear hj
      have hja : a < j := HA.out.1
      have hjs : j ≤ s.size := HA.out.2.1
      go_wp2_with fail
      refine (rnx_calls s a hlt (by omega) _).mono ?_
      rintro e w1 ⟨rfl, hb1⟩
      have hbs1 := hb1.size
      have HBB1 : Hid (Below w0.heap.size w0 w1) := HBB.out.trans (hb1.mono HBB.out.size)
      have HO1 := Lib.hid (own_below HO.out hb1)
      have HS1 := Lib.hid (HS.out.below hb1)
      have hbbs := HBB.out.size
      clear HO HS hb1 hcell HBB
      by_cases hneg : (nx s a).1 < 0
      · have HP := Lib.hid (piece_bad hneg)
        have hn1 : (nx s a).2 = 1 := by rcases nx_forms s a with e | ⟨_, _, _, _, h5, e⟩; rw [e]; rw [sgn_iff] at h5; rw [e] at hneg; simp only at hneg; omega
        have hj1 : j = a + 1 := by have := HA.out; omega
        have hsl := slice_str Tryz.underlying9 s .i64 .i64 a j a j rfl rfl (by omega) hjs
        have hcs : Lib.strCells (s.extract a j) = [Value.int .u8 (byt s a)] := by
          have h1 : bytesOf (s.extract a j) = [byt s a] := by
            rw [bytesOf_extract, hj1, show a + 1 - a = 1 by omega]
            apply List.ext_getElem?
            intro i
            rw [List.getElem?_take]
            split
            · obtain rfl : i = 0 := by omega
              rw [List.getElem?_drop, Nat.add_zero, bytesOf_get s a hlt]; rfl
            · rw [List.getElem?_eq_none (by simp; omega)]
          have h2 : Lib.strCells (s.extract a j) = (bytesOf (s.extract a j)).map (Value.int .u8) := by
            unfold Lib.strCells bytesOf; rw [List.map_map]; rfl
          rw [h2, h1]; rfl
        have hes : (s.extract a j).size = 1 := by rw [ByteArray.size_extract]; omega
        have HES := Lib.hid hes
        have HCS := Lib.hid hcs
        have HJ1 := Lib.hid hj1
        have HN1 := Lib.hid hn1
        generalize s.extract a j = q at *
        clear hes hcs hj1 hn1
        obtain ⟨i8, hi8, hz8, hs8, hb8⟩ := info_parts infoU8
        go_wp2_with (at_builtin; refine Lib.wpList_append_own_string _ rfl (.tmp 24) (.tmp 28) 102 9 rfl w0.heap.size 5 i8 Tryz.underlying102 Tryz.underlying9 hi8 hz8 hs8 hb8 _ L.length (L.map (.int .u8)) rfl HO1.out q rfl (by rw [HES.out]; unfold maxLen; omega) (by rw [HES.out]; omega) (by omega) ?_)
        intro v' w2 ho2 hg2 _
        have hb2 : Below w0.heap.size w1 w2 := (Below.refl _ _).grown hg2 (by omega) fun k hk => (HO1.out.lt k hk).1
        have HO2 := Lib.hid ho2
        clear ho2 hg2
        go_wp2_with fail
        go_roundw
        case rel =>
          refine ⟨j, k + 1, L ++ [byt s a], hjs, by simp; omega, by omega, rfl, by go_num, HK.out, ?_, ?_, HBB1.out.trans hb2⟩
          · have h1 := HV.out
            rw [HX.out, HP.out] at h1
            show _ ++ _ = _
            rw [← h1, List.append_assoc]
          · have := HO2.out
            rw [HES.out, HCS.out] at this
            rw [List.length_append, List.map_append]
            exact this
        case measure => simp [intOf]; omega
      · have HP := Lib.hid (piece_good hneg)
        have hlr := low_range (nx s a).1 (by omega)
        go_wp2_with fail
        refine (rlower_calls _ _).mono ?_
        rintro e w2 ⟨rfl, rfl⟩
        go_wp2_with fail
        refine (rput_calls A L.length c L _ hlr _ HS1.out (by omega)).mono ?_
        rintro e w3 ⟨v3, rfl, ho3, hb3⟩
        have HO3 := Lib.hid (own_base ho3 (show w0.heap.size ≤ _ by omega))
        clear ho3
        go_wp2_with fail
        go_roundw
        case rel =>
          refine ⟨j, k + 1, L ++ enc (low (nx s a).1), hjs, by have := HA.out; have := enc_length (low (nx s a).1); rw [List.length_append]; omega, by omega, rfl, by go_num, HK.out, ?_, HO3.out, HBB1.out.trans (hb3.mono (by omega))⟩
          have h1 := HV.out
          rw [HX.out, HP.out] at h1
          show _ ++ _ = _
          rw [← h1, List.append_assoc]
        case measure => simp [intOf]; omega
    · have hke : ¬ k < (endsF s 0).length := by
        have h1 := congrArg List.length HD.out
        rw [endsF_end hlt, List.length_drop, List.length_nil] at h1
        omega
      have HX := Lib.hid (textF_end hlt)
      have hLe : L = textF s 0 := by have := HV.out; rw [HX.out, List.append_nil] at this; exact this
      have hcv := run_str_of (P := Tryz.prog) wr 102 9 5 Tryz.underlying102 Tryz.underlying5 Tryz.underlying9 A _ c _ HS.out
      have HEE := Lib.hid hLe
      clear hLe
      go_wp2_with fail
      go_ret
      exact ⟨ret_string (by rw [HEE.out]), below_next HB0.out HBB.out⟩
end Fold
end Go.Proofs.YtfohollhdaedlaaGreatDoor
