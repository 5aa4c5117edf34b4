/- Export: the reference takes a field's line in. -/
import Derived.Test.YtfohollhdaedlaaDoorExp17
set_option linter.unusedVariables false
set_option linter.unusedSimpArgs false
set_option maxRecDepth 100000
namespace Go.Proofs.YtfohollhdaedlaaDoor
open Go.RowKit
namespace Exp
theorem sl_front {w : World} {A : Option Addr} {n c : Nat} {m : List DocM} {d : DocM} (h : IsSl w 5 A n c (dCells (m ++ [d]))) : IsSl w 5 A m.length c (dCells m) := by
  obtain ⟨h1, h2, h3, h4, h5⟩ := h
  rw [dCells_length, List.length_append] at h1
  have h1' : m.length + 1 = n := by simp at h1; omega
  refine ⟨dCells_length m, by omega, h3, fun ha => ⟨by have := h4 ha; omega, (h4 ha).2⟩, fun ad ha j u hu => h5 ad ha j u ?_⟩
  rw [dCells_append, List.getElem?_append_left (List.getElem?_eq_some_iff.1 hu).1]
  exact hu
theorem doc_get {w : World} {p i : Nat} {d : DocM} {t : TypeId} (hi : i < 4) (h : w.heap[p]? = some (.cells (docC d) t (0, 0))) : w.cell? ⟨p, 1 + i, none⟩ = some (.string (d.get i)) := by
  obtain ⟨h0, h1, h2, h3, h4, _⟩ := head_doc h
  rcases (show i = 0 ∨ i = 1 ∨ i = 2 ∨ i = 3 by omega) with rfl | rfl | rfl | rfl
  · exact h1
  · exact h2
  · exact h3
  · exact h4
set_option maxHeartbeats 16000000 in
theorem rline_field (w : World) (A : Option Addr) (n c : Nat) (m : List DocM) (d : DocM) (hsl : IsSl w 5 A n c (dCells (m ++ [d]))) (s : ByteArray) (hs : s.size ≤ 65536) (hn : n ≤ 100000) (hp : docHead.isPrefixOf (by8 s) = false) :
    Calls Tryd.prog 45 #[.slice A n c, .string s] w (RLineP (m ++ [d]) (by8 s) w) := by
  have hnc := hsl.2.1
  have hcm := hsl.2.2.1
  unfold maxLen at hcm
  have hmn : m.length + 1 = n := by have := hsl.1; rw [dCells_length, List.length_append] at this; simp at this; omega
  obtain ⟨p, hpm⟩ : ∃ p, m.length = p := ⟨_, rfl⟩
  rw [hpm] at hmn
  have HPM := Lib.hid hpm
  have HMN := Lib.hid hmn
  have HSL := Lib.hid hsl
  have CB := Lib.hid (begins_calls s { data := #[100, 111, 99, 32] } w)
  rw [show by8 { data := #[100, 111, 99, 32] } = docHead from rfl, hp] at CB
  have HPD := Lib.hid hp
  have hwn : IntKind.i64.wrap ((n : Int) - 1) = (p : Int) := by rw [IntKind.wrap_i64]; omega
  have hpn : (p : Int) < n := by omega
  have hpn' : p < n := by omega
  have hn0 : ((n : Int) == 0) = false := by simp; omega
  have HIX := Lib.hid (idx_arr d)
  clear hp hsl hmn hpm
  go_enter Tryd.func45, Tryd.ntmps45
  go_wp2_with fail
  refine CB.out.mono ?_
  rintro e w1 ⟨rfl, rfl⟩
  clear CB
  go_wp2_with fail
  go_loopw [28] (fun ix wr => ∃ i : Nat, i ≤ 4 ∧ ix = .int .i64 i ∧ Below w1.heap.size w1 wr ∧ Hid (∀ j, j < i → (head j).isPrefixOf (by8 s) = false)) (fun ix _ => 4 - (intOf ix).toNat)
  case atStart => exact ⟨0, Nat.zero_le _, rfl, Below.refl _ _, fun j hj => absurd hj (Nat.not_lt_zero j)⟩
  case round =>
    obtain ⟨i, hi, rfl, hb, HV⟩ := hrel
    have HB := Lib.hid hb
    clear hb
    by_cases hlt : i < 4
    · have HWH : Hid ((head i).isPrefixOf (by8 s) = true → which (by8 s) = some i) := fun h => which_at hlt HV.out h
      have CH := Lib.hid (head_calls i hlt)
      obtain ⟨hd, hhd⟩ : ∃ hd, mk8 (head i) = hd := ⟨_, rfl⟩
      have CB2 := Lib.hid (begins_calls s hd)
      have HHD : Hid (by8 hd = head i) := by show _ = _; rw [← hhd]; rfl
      rw [hhd] at CH
      rw [HHD.out] at CB2
      have HHS : Hid (hd.size = (head i).length) := by show _ = _; rw [← hhd]; exact mk8_size _
      clear hhd
      cases hpi : (head i).isPrefixOf (by8 s)
      · rw [hpi] at CB2
        have HN : Hid (∀ j, j < i + 1 → (head j).isPrefixOf (by8 s) = false) := fun j hj => by
          by_cases e : j = i
          · rw [e]; exact hpi
          · exact HV.out j (by omega)
        clear hpi
        go_wp2_with fail
        refine (CH.out _).mono ?_
        rintro e w2 ⟨rfl, hb2⟩
        have HB2 := Lib.hid (below_next HB.out hb2)
        clear hb2
        go_wp2_with fail
        refine (CB2.out _).mono ?_
        rintro e w3 ⟨rfl, rfl⟩
        go_wp2_with fail
        go_roundw
        case rel => exact ⟨i + 1, by omega, by go_num, HB2.out, HN⟩
        case measure => simp [intOf]; omega
      · have HW := Lib.hid (HWH.out hpi)
        have hle : hd.size ≤ s.size := by
          have := (List.isPrefixOf_iff_prefix.1 hpi).length_le
          rw [by8_len] at this
          rw [HHS.out]; exact this
        rw [hpi] at CB2
        have hx := slice_str_from (P := Tryd.prog) Tryd.underlying9 s .i64 (hd.size : Int) hd.size rfl hle
        obtain ⟨rs, hrs⟩ : ∃ rs, s.extract hd.size s.size = rs := ⟨_, rfl⟩
        have HRS : Hid (by8 rs = (by8 s).drop (head i).length) := by show _ = _; rw [← hrs, ← HHS.out]; exact Lib.extract_to_end s _
        rw [hrs] at hx
        have hrl : rs.size ≤ 65536 := by rw [← by8_len, HRS.out, List.length_drop, by8_len]; omega
        clear hpi hrs HWH hle
        have CP := Lib.hid (rplain_calls rs (by omega))
        go_wp2_with fail
        refine (CH.out _).mono ?_
        rintro e w2 ⟨rfl, hb2⟩
        have HB2 := Lib.hid (below_next HB.out hb2)
        clear hb2
        go_wp2_with fail
        refine (CB2.out _).mono ?_
        rintro e w3 ⟨rfl, rfl⟩
        go_wp2_with fail
        refine (CH.out _).mono ?_
        rintro e w4 ⟨rfl, hb4⟩
        have HB4 := Lib.hid (below_next HB2.out hb4)
        clear hb4
        go_wp2_with fail
        refine (CP.out _).mono ?_
        rintro e w5 ⟨⟨ts, rfl, hts⟩, hb5⟩
        have HB5 := Lib.hid (below_next HB4.out hb5)
        have HTS := Lib.hid hts
        clear hb5 hts
        obtain ⟨b0, hb0⟩ : ∃ b0, (unesc (by8 rs)).isSome = b0 := ⟨_, rfl⟩
        rw [hb0]
        have HBB := Lib.hid hb0
        clear hb0
        obtain ⟨ab, ao, rfl, z0, z1, z2, z3, z4⟩ := d_at (i := p) (d := d) (HSL.out.below HB5.out) (by rw [← HPM.out]; simp)
        dsimp only
        go_wp2_with fail
        clear z0 z1 z2 z3 z4 hx
        have h60 := heap_alloc_new w5 (.cells (docC d) 33)
        have hb6 : Below w5.heap.size w5 (w5.alloc (.cells (docC d) 33)) := (Below.refl _ _).alloc (Nat.le_refl _) _
        simp only [docC] at h60 hb6
        generalize w5.alloc (.cells #[.string d.id, .string d.t0, .string d.t1, .string d.t2, .string d.t3] 33) = w6 at *
        have HB6 := Lib.hid (below_next HB5.out hb6)
        obtain ⟨q, hq⟩ : ∃ q, w5.heap.size = q := ⟨_, rfl⟩
        rw [hq] at h60 ⊢
        have H60 : Hid (w6.heap[q]? = some (.cells (docC d) 33 (0, 0))) := h60
        have HQ : Hid (w1.heap.size ≤ q) := by rw [← hq]; exact HB5.out.size
        clear h60 hb6 hq
        obtain ⟨wz, hwz⟩ : ∃ wz, wz = wr := ⟨_, rfl⟩
        subst hwz
        go_loopw [9, 58] (fun v kx wr => ∃ k : Nat, k ≤ 4 ∧ kx = .int .i64 k ∧ v = .bool (okK d i b0 k) ∧ w6 = wr) (fun _ kx _ => 4 - (intOf kx).toNat)
        case atStart => exact ⟨0, Nat.zero_le _, rfl, rfl, rfl⟩
        case round =>
          obtain ⟨k, hk, rfl, rfl, rfl⟩ := hrel
          by_cases hlt4 : k < 4
          · have hix := fun W => HIX.out k hlt4 W
            obtain ⟨x, hx⟩ : ∃ x, d.get k = x := ⟨_, rfl⟩
            rw [hx] at hix
            obtain ⟨b1, hb1⟩ : ∃ b1, okK d i b0 k = b1 := ⟨_, rfl⟩
            have HS : Hid (okK d i b0 (k + 1) = (b1 && (decide (k < i) || (by8 x).isEmpty))) := by
              show _ = _
              rw [← hb1, ← hx]; rfl
            rw [hb1]
            clear hx hb1
            cases b1
            · have HE : Hid (Value.bool false = .bool (okK d i b0 (k + 1))) := by show _ = _; rw [HS.out, Bool.false_and]
              clear HS
              go_wp2_with fail
              go_roundw
              case rel => exact ⟨k + 1, by omega, by go_num, HE.out, trivial⟩
              case measure => simp [intOf]; omega
            · by_cases hki : k < i
              · have hd1 : decide (k < i) = true := by simpa using hki
                have HE : Hid (Value.bool true = .bool (okK d i b0 (k + 1))) := by show _ = _; rw [HS.out, hd1]; rfl
                clear HS
                go_wp2_with fail
                go_roundw
                case rel => exact ⟨k + 1, by omega, by go_num, HE.out, trivial⟩
                case measure => simp [intOf]; omega
              · have hd1 : decide (k < i) = false := by simpa using hki
                by_cases hx0 : by8 x = []
                · have e1 : x.toList.isEmpty = true := by rw [ByteArray.toList_eq]; exact List.isEmpty_iff.2 hx0
                  have e2 : (x.toList == []) = true := by rw [ByteArray.toList_eq]; exact beq_iff_eq.2 hx0
                  have HE : Hid (Value.bool true = .bool (okK d i b0 (k + 1))) := by show _ = _; rw [HS.out, hd1, hx0]; rfl
                  clear HS hx0
                  go_wp2_with fail
                  go_roundw
                  case rel => exact ⟨k + 1, by omega, by go_num, HE.out, trivial⟩
                  case measure => simp [intOf]; omega
                · have e1 : x.toList.isEmpty = false := by rw [ByteArray.toList_eq, Bool.eq_false_iff]; intro h; exact hx0 (List.isEmpty_iff.1 h)
                  have e2 : (x.toList == []) = false := by rw [ByteArray.toList_eq, Bool.eq_false_iff]; intro h; exact hx0 (beq_iff_eq.1 h)
                  have HE : Hid (Value.bool false = .bool (okK d i b0 (k + 1))) := by
                    show _ = _
                    rw [HS.out, hd1, show (by8 x).isEmpty = false by rw [Bool.eq_false_iff]; intro h; exact hx0 (List.isEmpty_iff.1 h)]; rfl
                  clear HS hx0
                  go_wp2_with fail
                  go_roundw
                  case rel => exact ⟨k + 1, by omega, by go_num, HE.out, trivial⟩
                  case measure => simp [intOf]; omega
          · obtain rfl : k = 4 := by omega
            rw [okK_all]
            obtain ⟨bf, hbf⟩ : ∃ bf, (b0 && decide (fld d ≤ i)) = bf := ⟨_, rfl⟩
            rw [hbf]
            have HBF := Lib.hid hbf
            clear hbf
            cases bf
            · have HF : Hid (lineF (m ++ [d]) (by8 s) = none) := by
                show _ = _
                have h := HBF.out
                cases hu : unesc (by8 rs) with
                | none => exact lineF_bad HPD.out HW.out (by rw [← HRS.out]; exact hu)
                | some tt =>
                  rw [lineF_last HPD.out HW.out (by rw [← HRS.out]; exact hu), if_neg]
                  rw [← HBB.out, hu, Option.isSome_some, Bool.true_and, decide_eq_false_iff_not] at h
                  exact fun h2 => h h2.1
              go_wp2_with fail
              go_ret2
              exact ⟨HB6.out, .inr ⟨HF.out, _, _, _, rfl⟩⟩
            · obtain ⟨tt, htt⟩ : ∃ tt, unesc (by8 rs) = some tt := by
                have h := HBF.out
                rw [Bool.and_eq_true] at h
                rw [← HBB.out] at h
                exact Option.isSome_iff_exists.1 h.1
              have hfi : fld d ≤ i := by
                have h := HBF.out
                rw [Bool.and_eq_true] at h
                exact of_decide_eq_true h.2
              have HTT : Hid (ts = mk8 tt) := HTS.out tt htt
              have HL := Lib.hid (lineF_last (m := m) (d := d) HPD.out HW.out (by rw [← HRS.out]; exact htt))
              rw [← HTT.out] at HL
              have htl : ts.size ≤ 65536 := by
                have h1 := unesc_len _ _ _ (Nat.le_refl _) htt
                rw [by8_len] at h1
                rw [HTT.out, mk8_size]; omega
              have HTB : Hid (by8 ts = tt) := by show _ = _; rw [HTT.out]; rfl
              have HFI := Lib.hid hfi
              clear htt hfi
              by_cases hte : by8 ts = []
              · have HF : Hid (lineF (m ++ [d]) (by8 s) = none) := by
                  show _ = _
                  rw [HL.out, if_neg (by rw [← HTB.out, hte]; simp)]
                have e1 : ts.toList.isEmpty = true := by rw [ByteArray.toList_eq]; exact List.isEmpty_iff.2 hte
                have e2 : (ts.toList == []) = true := by rw [ByteArray.toList_eq]; exact beq_iff_eq.2 hte
                clear hte
                go_wp2_with fail
                go_ret2
                exact ⟨HB6.out, .inr ⟨HF.out, _, _, _, rfl⟩⟩
              · have e1 : ts.toList.isEmpty = false := by rw [ByteArray.toList_eq, Bool.eq_false_iff]; intro h; exact hte (List.isEmpty_iff.1 h)
                have e2 : (ts.toList == []) = false := by rw [ByteArray.toList_eq, Bool.eq_false_iff]; intro h; exact hte (beq_iff_eq.1 h)
                have HTE := Lib.hid hte
                have hw1 : IntKind.i64.wrap ((i : Int) + 1) = (i : Int) + 1 := by rw [IntKind.wrap_i64]; omega
                have CT := Lib.hid (rtext_calls i hlt ts)
                clear hte
                rcases textC_eq ts with ⟨h, hk⟩ | ⟨h, hk⟩ | ⟨h, hk⟩
                · rw [h] at CT
                  have HK := Lib.hid hk
                  clear h hk
                  go_wp2_with fail
                  refine (CT.out _).mono ?_
                  rintro e w7 ⟨rfl, hb7⟩
                  have HB7 := Lib.hid (below_next HB6.out hb7)
                  have H70 := Lib.hid ((hb7.block q (Array.getElem?_eq_some_iff.1 H60.out).1).trans H60.out)
                  have r1 := doc_get hlt H70.out
                  have r2 : w7.frozen? ⟨q, 1 + i, none⟩ = false := (head_doc H70.out).2.2.2.2.2 _
                  obtain ⟨d', hd'⟩ : ∃ d', d.put i ts = d' := ⟨_, rfl⟩
                  have H80 := heap_doc (x := ts) hlt H70.out
                  have HB8 := HB7.out.setCell (p := ⟨q, 1 + i, none⟩) HQ.out (.string ts)
                  rw [hd'] at H80
                  have HRES : Hid (lineF (m ++ [d]) (by8 s) = some (m ++ [d'])) := by
                    show _ = _
                    rw [HL.out, if_pos ⟨HFI.out, by rw [← HTB.out]; exact HTE.out, HK.out⟩, hd']
                  have H81 := Lib.hid H80
                  have HB9 := Lib.hid HB8
                  have HSF : Hid (IsSl (w7.setCell ⟨q, 1 + i, none⟩ (.string ts)) 5 (some ⟨ab, ao, none⟩) p c (dCells m)) := by
                    have h := sl_front (HSL.out.below HB8)
                    rw [HPM.out] at h
                    exact h
                  have HN0 : Hid ((w7.setCell ⟨q, 1 + i, none⟩ (.string ts)).ownsRow w1.heap.size 33 5 (.slice none 0 0) 0 []) := ⟨rfl, .inl ⟨rfl, rfl⟩⟩
                  have HSZ := Lib.hid HB8.size
                  have hp1 : (p : Int) ≤ c := by omega
                  have hp2 : p ≤ c := by omega
                  clear hb7 hd' H80 HB8
                  have HONE := Lib.hid (dCells_one m)
                  go_wp2_with (at_builtin; go_loud (refine wpList_app_own _ rfl (.tmp 90) (.tmp 95) 23 rfl w1.heap.size 33 (.agg #[.string { data := #[] }, .string { data := #[] }, .string { data := #[] }, .string { data := #[] }, .string { data := #[] }]) 5 80 Tryd.underlying23 inf_doc rfl (by decide) (.slice none 0 0) 0 [] rfl HN0.out (some ⟨ab, ao, none⟩) p c (dCells m) rfl HSF.out HONE.out (by unfold maxLen; omega) (by omega) HSZ.out ?_))
                  intro v9 w9 ho9 hg9 hb9
                  have h9 := (hg9.block q (Array.getElem?_eq_some_iff.1 H81.out).1 (by simp [Value.ownBlock])).trans H81.out
                  obtain ⟨q0, q1, q2, q3, q4, q5⟩ := head_doc h9
                  obtain ⟨A9, c9, rfl, hsl9⟩ := own_form ho9
                  have HO9 := Lib.hid ho9
                  have HB10 := Lib.hid (HB9.out.trans hb9)
                  have HZ9 := Lib.hid (HB9.out.trans hb9).size
                  have HAL : Hid (Below w9.heap.size w9 (w9.alloc (.cells #[.string d'.id, .string d'.t0, .string d'.t1, .string d'.t2, .string d'.t3] 33))) := (Below.refl _ _).alloc (Nat.le_refl _) _
                  clear r1 r2 ho9 hg9 hb9 h9 hsl9 q5
                  go_wp2_with (at_builtin; go_loud (refine wpList_app_own _ rfl (.tmp 97) (.tmp 99) 23 rfl w1.heap.size 33 (.agg #[.string { data := #[] }, .string { data := #[] }, .string { data := #[] }, .string { data := #[] }, .string { data := #[] }]) 5 80 Tryd.underlying23 inf_doc rfl (by decide) (.slice A9 p c9) p (dCells m) rfl (own_below HO9.out HAL.out) _ 1 1 [.string d'.id, .string d'.t0, .string d'.t1, .string d'.t2, .string d'.t3] rfl (sl_lit2 _ #[.string d'.id, .string d'.t0, .string d'.t1, .string d'.t2, .string d'.t3] 33 5 1 rfl (by decide)) (by simp [Value.oneCell']) (by unfold maxLen; omega) (by omega) (by have := HZ9.out; simp; omega) ?_))
                  intro v10 w10 ho10 hg10 hb10
                  obtain ⟨A10, c10, rfl, hsl10⟩ := own_form ho10
                  have HSL10 := Lib.hid hsl10
                  have HB11 := Lib.hid ((HB10.out.alloc HZ9.out _).trans hb10)
                  clear ho10 hg10 hb10 hsl10
                  go_wp2_with fail
                  go_ret2
                  refine ⟨HB11.out, .inl ⟨m ++ [d'], A10, c10, HRES.out, ?_, ?_⟩⟩
                  · rw [List.length_append, HPM.out]; rfl
                  · rw [List.length_append, HPM.out, dCells_append]; exact HSL10.out
                · rw [h] at CT
                  have HF : Hid (lineF (m ++ [d]) (by8 s) = none) := by
                    show _ = _
                    rw [HL.out, if_neg (by rw [hk]; simp)]
                  clear h hk
                  go_wp2_with fail
                  refine (CT.out _).mono ?_
                  rintro e w7 ⟨rfl, hb7⟩
                  have HB7 := Lib.hid (below_next HB6.out hb7)
                  clear hb7
                  go_wp2_with fail
                  go_ret2
                  exact ⟨HB7.out, .inr ⟨HF.out, _, _, _, rfl⟩⟩
                · rw [h] at CT
                  have HF : Hid (lineF (m ++ [d]) (by8 s) = none) := by
                    show _ = _
                    rw [HL.out, if_neg (by rw [hk]; simp)]
                  clear h hk
                  go_wp2_with fail
                  refine (CT.out _).mono ?_
                  rintro e w7 ⟨rfl, hb7⟩
                  have HB7 := Lib.hid (below_next HB6.out hb7)
                  clear hb7
                  go_wp2_with fail
                  go_ret2
                  exact ⟨HB7.out, .inr ⟨HF.out, _, _, _, rfl⟩⟩
    · have HF := Lib.hid (lineF_which (l := m ++ [d]) HPD.out (.inr fun j hj => HV.out j (by omega)))
      go_wp2_with fail
      go_ret2
      exact ⟨HB.out, .inr ⟨HF.out, _, _, _, rfl⟩⟩
end Exp
end Go.Proofs.YtfohollhdaedlaaDoor
