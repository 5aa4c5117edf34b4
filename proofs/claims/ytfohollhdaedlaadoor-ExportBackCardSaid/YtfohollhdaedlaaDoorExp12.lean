/- Export: the reader takes a field's line in. -/
import Derived.Test.YtfohollhdaedlaaDoorExp11
import Derived.BigRegion
import Derived.Laws.OwnMore
set_option linter.unusedVariables false
set_option linter.unusedSimpArgs false
set_option maxRecDepth 100000
namespace Go.Proofs.YtfohollhdaedlaaDoor
open Go.RowKit
namespace Exp
theorem which_at {s : B8} {i : Nat} (hi : i < 4) (hb : ∀ j, j < i → (head j).isPrefixOf s = false) (h : (head i).isPrefixOf s = true) : which s = some i := by
  unfold which
  rcases (show i = 0 ∨ i = 1 ∨ i = 2 ∨ i = 3 by omega) with rfl | rfl | rfl | rfl
  · rw [if_pos h]
  · rw [if_neg (by rw [hb 0 (by omega)]; decide), if_pos h]
  · rw [if_neg (by rw [hb 0 (by omega)]; decide), if_neg (by rw [hb 1 (by omega)]; decide), if_pos h]
  · rw [if_neg (by rw [hb 0 (by omega)]; decide), if_neg (by rw [hb 1 (by omega)]; decide), if_neg (by rw [hb 2 (by omega)]; decide), if_pos h]
theorem which_none {s : B8} (hb : ∀ j, j < 4 → (head j).isPrefixOf s = false) : which s = none := by
  unfold which
  rw [if_neg (by rw [hb 0 (by omega)]; decide), if_neg (by rw [hb 1 (by omega)]; decide), if_neg (by rw [hb 2 (by omega)]; decide), if_neg (by rw [hb 3 (by omega)]; decide)]
theorem lineF_none {l : List DocM} {s : B8} (hp : docHead.isPrefixOf s = false) (hb : ∀ j, j < 4 → (head j).isPrefixOf s = false) : lineF l s = none := by
  unfold lineF
  rw [if_neg (by rw [hp]; decide), which_none hb]
theorem lineF_bad {l : List DocM} {s : B8} {i : Nat} (hp : docHead.isPrefixOf s = false) (hw : which s = some i) (hu : unesc (s.drop (head i).length) = none) : lineF l s = none := by
  unfold lineF
  rw [if_neg (by rw [hp]; decide), hw]
  cases l.getLast? with
  | none => rfl
  | some d => simp only [hu]
theorem lineF_nodoc {s : B8} {i : Nat} (hp : docHead.isPrefixOf s = false) (hw : which s = some i) : lineF [] s = none := by
  unfold lineF
  rw [if_neg (by rw [hp]; decide), hw]; rfl
theorem lineF_last {m : List DocM} {d : DocM} {s t : B8} {i : Nat} (hp : docHead.isPrefixOf s = false) (hw : which s = some i) (hu : unesc (s.drop (head i).length) = some t) :
    lineF (m ++ [d]) s = if fld d ≤ i ∧ t ≠ [] ∧ okT (mk8 t) = true then some (m ++ [d.put i (mk8 t)]) else none := by
  unfold lineF
  rw [if_neg (by rw [hp]; decide), hw, List.getLast?_concat]
  simp only [hu, List.dropLast_concat]
theorem idx_heads (i : Nat) (hi : i < 4) (W : World) : (Instr.index 31 (.agg headCells) (.int .i64 (i : Int))).run Tryd.prog W = .ok (.string (mk8 (head i))) W := by
  rcases (show i = 0 ∨ i = 1 ∨ i = 2 ∨ i = 3 by omega) with rfl | rfl | rfl | rfl <;> kernel_rfl
theorem info_heads : (Tryd.prog.info? 31).map (·.size) = some 4 := by kernel_rfl
theorem head_size : headCells.size = 4 := by decide
theorem unesc_len : ∀ (n : Nat) (s t : B8), s.length ≤ n → unesc s = some t → t.length ≤ s.length
  | _, [], t, _, h => by
    obtain rfl : [] = t := by simpa [unesc] using h
    simp
  | 0, c :: s, t, hn, _ => by simp at hn
  | n + 1, c :: s, t, hn, h => by
    by_cases hc : c = 92
    · subst hc
      cases s with
      | nil => simp [unesc] at h
      | cons d s =>
        rw [unesc_bs] at h
        have hl : s.length ≤ n := by simp at hn; omega
        split at h
        · rw [Option.map_eq_some_iff] at h
          obtain ⟨t', h1, rfl⟩ := h
          have := unesc_len n s t' hl h1
          simp; omega
        · split at h
          · rw [Option.map_eq_some_iff] at h
            obtain ⟨t', h1, rfl⟩ := h
            have := unesc_len n s t' hl h1
            simp; omega
          · cases h
    · rw [unesc_other c s hc, Option.map_eq_some_iff] at h
      obtain ⟨t', h1, rfl⟩ := h
      have := unesc_len n s t' (by simp at hn; omega) h1
      simp; omega
theorem dCells_get {l : List DocM} {k : Nat} {d : DocM} (h : l[k]? = some d) (i : Nat) (hi : i < 4) : (dCells l)[k * 5 + 1 + i]? = some (.string (d.get i)) := by
  obtain ⟨_, e1, e2, e3, e4⟩ := dCells_at l k d h
  rcases (show i = 0 ∨ i = 1 ∨ i = 2 ∨ i = 3 by omega) with rfl | rfl | rfl | rfl
  · exact e1
  · exact e2
  · exact e3
  · exact e4
theorem dCells_set (m : List DocM) (d : DocM) (i : Nat) (hi : i < 4) (t : ByteArray) : (dCells (m ++ [d])).set (m.length * 5 + 1 + i) (.string t) = dCells (m ++ [d.put i t]) := by
  rw [dCells_append, dCells_append, List.set_append_right _ _ (by rw [dCells_length]; omega), dCells_length]
  congr 1
  rw [show m.length * 5 + 1 + i - m.length * 5 = i + 1 by omega]
  rcases (show i = 0 ∨ i = 1 ∨ i = 2 ∨ i = 3 by omega) with rfl | rfl | rfl | rfl <;> rfl
theorem step_put {B b g c f q : Nat} {m : List DocM} {d : DocM} {w : World} {i : Nat} {t : ByteArray} (hB : B ≤ b) (hx : w.heap[b]? = some (.cells #[.slice (some ⟨g, 0, none⟩) q c, .int .i64 f] 67 (0, 0)))
    (ho : w.ownsRow B 33 5 (.slice (some ⟨g, 0, none⟩) q c) q (dCells (m ++ [d]))) (hq : m.length + 1 = q) (hi : i < 4) (hf : fld d ≤ i) (ht : by8 t ≠ []) :
    (w.setCell ⟨g, m.length * 5 + 1 + i, none⟩ (.string t)).heap[b]? = some (.cells #[.slice (some ⟨g, 0, none⟩) q c, .int .i64 f] 67 (0, 0)) ∧ StepR B b w (m ++ [d.put i t]) ((w.setCell ⟨g, m.length * 5 + 1 + i, none⟩ (.string t)).setCell ⟨b, 1, none⟩ (.int .i64 ((i : Int) + 1))) := by
  have hne : some b ≠ some g := own_ne ho hx (by decide)
  have hgb : B ≤ g := (ho.lt g rfl).1
  have hs := ho.stored (m.length * 5 + 1 + i) (.string t)
  rw [dCells_set m d i hi t] at hs
  have h1 := (hs.2.block b (Array.getElem?_eq_some_iff.1 hx).1 hne).trans hx
  refine ⟨h1, ⟨hB, .slice (some ⟨g, 0, none⟩) q c, ?_, ?_⟩, ?_, ?_⟩
  · rw [fldL_put m d i hi t hf ht]
    exact heap_set2 h1 _ (by show #[_, _] = #[_, _]; simp)
  · rw [List.length_append, show m.length + [d.put i t].length = q by simpa using hq]
    exact hs.1.kept (grown_cell (n := b) (i := 1) _) (.inr fun e => hne e.symm)
  · exact ((Below.refl B w).setCell (p := ⟨g, m.length * 5 + 1 + i, none⟩) hgb _).setCell (p := ⟨b, 1, none⟩) hB _
  · exact (KeptR.row ho (show w.grownBy _ _ from hs.2)).trans (KeptR.set b 1 _ _)
theorem StepR.drew {B b : Nat} {w w1 : World} {l : List DocM} (h : StepR B b w l w1) : StepR B b w l w1.drew := by
  obtain ⟨⟨hB, v, h1, h2⟩, h3, h4⟩ := h
  exact ⟨⟨hB, v, h1, h2⟩, h3.drew, h4⟩
/-- What a line's call says. -/
def LineP (B b : Nat) (l : List DocM) (s : B8) (w : World) (e : Ending) (w' : World) : Prop :=
  (∃ l', lineF l s = some l' ∧ e = .returned (.bool true) ∧ StepR B b w l' w') ∨ (lineF l s = none ∧ e = .returned (.bool false) ∧ Below B w w' ∧ KeptR b w w')
theorem LineP.no {B b : Nat} {l : List DocM} {s : B8} {w w' : World} (h : lineF l s = none) (hb : Below w.heap.size w w') (hB : B ≤ w.heap.size) : LineP B b l s w (.returned (.bool false)) w' :=
  .inr ⟨h, rfl, hb.mono hB, KeptR.of_below b hb⟩
theorem LineP.yes {B b : Nat} {l l' : List DocM} {s : B8} {w w1 w2 : World} (h : lineF l s = some l') (hb : Below w.heap.size w w1) (hB : B ≤ w.heap.size) (hs : StepR B b w1 l' w2) : LineP B b l s w (.returned (.bool true)) w2 :=
  .inl ⟨l', h, rfl, hs.1, (hb.mono hB).trans hs.2.1, (KeptR.of_below b hb).trans hs.2.2⟩
set_option maxHeartbeats 8000000 in
theorem line_field (w : World) (B b : Nat) (l : List DocM) (hR : IsR B b l w) (hH : LaidH w) (s : ByteArray) (hs : s.size ≤ 65536) (hl : l.length ≤ 100000) (hp : docHead.isPrefixOf (by8 s) = false) :
    Calls Tryd.prog 39 #[.pointer (some ⟨b, 0, none⟩), .string s] w (LineP B b l (by8 s) w) := by
  have HBS := Lib.hid hR.size
  have HR := Lib.hid hR
  obtain ⟨t, ht⟩ := hH
  have HT := Lib.hid ht
  obtain ⟨hB, v, hb, ho⟩ := hR
  have HO := Lib.hid ho
  have HX := Lib.hid hb
  have CP := Lib.hid (cutPre s { data := #[100, 111, 99, 32] } w)
  have HP : Hid ((by8 { data := #[100, 111, 99, 32] }).isPrefixOf (by8 s) = false) := hp
  have HPD := Lib.hid hp
  rw [HP.out] at CP
  clear ho hb hp ht
  go_enter Tryd.func39, Tryd.ntmps39
  go_wp2_with fail
  refine CP.out.mono ?_
  rintro e w1 ⟨rfl, rfl⟩
  clear CP
  go_wp2_with (with_reducible refine wpList_load_row rfl 31 (.global 0) rfl 0 rfl t headCells (0, 0) _ HT.out Tryd.underlying31 rfl (by rw [info_heads, head_size]) ?_)
  go_loopw [36] (fun ix wr => ∃ i : Nat, i ≤ 4 ∧ ix = .int .i64 i ∧ Hid (∀ j, j < i → (head j).isPrefixOf (by8 s) = false) ∧ w1 = wr) (fun ix _ => 4 - (intOf ix).toNat)
  case atStart => exact ⟨0, Nat.zero_le _, rfl, fun j hj => absurd hj (Nat.not_lt_zero j), rfl⟩
  case round =>
    obtain ⟨i, hi, rfl, HV, rfl⟩ := hrel
    by_cases hlt : i < 4
    · have hidx := idx_heads i hlt
      have HWH : Hid ((head i).isPrefixOf (by8 s) = true → which (by8 s) = some i) := fun h => which_at hlt HV.out h
      obtain ⟨hd, hhd⟩ : ∃ hd, mk8 (head i) = hd := ⟨_, rfl⟩
      have C := Lib.hid (cutPre s hd w1)
      have HHD : Hid (by8 hd = head i) := by show _ = _; rw [← hhd]; rfl
      rw [hhd] at hidx
      rw [HHD.out] at C
      clear hhd
      cases hpi : (head i).isPrefixOf (by8 s)
      · rw [hpi] at C
        have HN : Hid (∀ j, j < i + 1 → (head j).isPrefixOf (by8 s) = false) := fun j hj => by
          by_cases e : j = i
          · rw [e]; exact hpi
          · exact HV.out j (by omega)
        clear hpi
        go_wp2_with fail
        refine C.out.mono ?_
        rintro e w2 ⟨rfl, rfl⟩
        clear C
        go_wp2_with fail
        go_roundw
        case rel => exact ⟨i + 1, by omega, by go_num, HN, trivial⟩
        case measure => simp [intOf]; omega
      · have HW := Lib.hid (HWH.out hpi)
        obtain ⟨rs, hrs⟩ : ∃ rs, mk8 (Lib.trimPrefix (by8 s) (head i)) = rs := ⟨_, rfl⟩
        rw [hpi, hrs] at C
        have HRS : Hid (by8 rs = (by8 s).drop (head i).length) := by
          show _ = _
          rw [← hrs, by8_mk8]; unfold Lib.trimPrefix; rw [if_pos (show Lib.hasPrefix (by8 s) (head i) = true from hpi)]
        have hrl : rs.size ≤ 65536 := by
          rw [← by8_len, HRS.out, List.length_drop, by8_len]; omega
        clear hpi hrs HWH
        have CU := Lib.hid (unescape_calls rs (by omega) w1)
        cases hu : unesc (by8 rs) with
        | none =>
          rw [hu] at CU
          have HF : Hid (lineF l (by8 s) = none) := lineF_bad HPD.out HW.out (by rw [← HRS.out]; exact hu)
          simp only [ures] at CU
          clear hu
          go_wp2_with fail
          refine C.out.mono ?_
          rintro e w2 ⟨rfl, rfl⟩
          clear C
          go_wp2_with fail
          refine CU.out.mono ?_
          rintro e w3 ⟨rfl, hb3⟩
          have HB3 := Lib.hid hb3
          clear CU hb3
          go_wp2_with fail
          go_ret
          exact LineP.no HF.out HB3.out HBS.out
        | some tt =>
          rw [hu] at CU
          have HU : Hid (unesc ((by8 s).drop (head i).length) = some tt) := by show _ = _; rw [← HRS.out]; exact hu
          have htl : (mk8 tt).size ≤ 65536 := by
            have h1 := unesc_len _ _ _ (Nat.le_refl _) hu
            rw [by8_len] at h1
            rw [mk8_size]; omega
          simp only [ures] at CU
          obtain ⟨ts, hts⟩ : ∃ ts, mk8 tt = ts := ⟨_, rfl⟩
          rw [hts] at CU htl
          have HTS : Hid (by8 ts = tt) := by show _ = _; rw [← hts]; rfl
          clear hu
          obtain ⟨A, c, rfl, hsl⟩ := own_form HO.out
          clear hsl
          obtain ⟨f, hf⟩ : ∃ f, fldL l = f := ⟨_, rfl⟩
          have HFL := Lib.hid hf
          rw [hf] at HX
          clear hf
          obtain ⟨q, hq⟩ : ∃ q, l.length = q := ⟨_, rfl⟩
          have HQ := Lib.hid hq
          rw [hq] at HO hl HX
          rcases List.eq_nil_or_concat l with hnil | ⟨m, d, hmd⟩
          · have HF : Hid (lineF l (by8 s) = none) := by rw [hnil]; exact lineF_nodoc HPD.out HW.out
            have hq0 : ((q : Int) == 0) = true := by rw [← hq, hnil]; rfl
            clear hq hnil hts
            go_wp2_with fail
            refine C.out.mono ?_
            rintro e w2 ⟨rfl, rfl⟩
            clear C
            go_wp2_with fail
            refine CU.out.mono ?_
            rintro e w3 ⟨rfl, hb3⟩
            have HB3 := Lib.hid hb3
            have hx3 := (hb3.block b (Array.getElem?_eq_some_iff.1 HX.out).1).trans HX.out
            obtain ⟨z0, z1, z2⟩ := head2 hx3
            clear CU hb3 hx3 z2
            go_wp2_with fail
            go_ret
            exact LineP.no HF.out HB3.out HBS.out
          · rw [List.concat_eq_append] at hmd
            have HL := Lib.hid (lineF_last (m := m) (d := d) HPD.out HW.out HU.out)
            rw [hts, ← hmd] at HL
            have hq1 : m.length + 1 = q := by rw [← hq, hmd]; simp
            have hq0 : ((q : Int) == 0) = false := by simp; omega
            have HFD : Hid (fld d = f) := by
              show _ = _
              rw [← HFL.out, hmd]; unfold fldL; rw [List.getLast?_concat]
            have HMD := Lib.hid hmd
            have HQ1 := Lib.hid hq1
            clear hq hmd hq1 hts
            by_cases hif : i < f
            · have HF : Hid (lineF l (by8 s) = none) := by
                show _ = _
                rw [HL.out, if_neg (by rw [HFD.out]; omega)]
              have hd1 : decide (i < f) = true := by simpa using hif
              go_wp2_with fail
              refine C.out.mono ?_
              rintro e w2 ⟨rfl, rfl⟩
              clear C
              go_wp2_with fail
              refine CU.out.mono ?_
              rintro e w3 ⟨rfl, hb3⟩
              have HB3 := Lib.hid hb3
              have hx3 := (hb3.block b (Array.getElem?_eq_some_iff.1 HX.out).1).trans HX.out
              obtain ⟨z0, z1, z2⟩ := head2 hx3
              clear CU hb3 hx3 z2
              go_wp2_with fail
              go_ret
              exact LineP.no HF.out HB3.out HBS.out
            · have hd1 : decide (i < f) = false := by simpa using hif
              by_cases hte : by8 ts = []
              · have HF : Hid (lineF l (by8 s) = none) := by
                  show _ = _
                  rw [HL.out, if_neg (by rw [← HTS.out, hte]; simp)]
                have e1 : ts.toList.isEmpty = true := by rw [ByteArray.toList_eq]; exact List.isEmpty_iff.2 hte
                have e2 : (ts.toList == []) = true := by rw [ByteArray.toList_eq]; exact beq_iff_eq.2 hte
                clear hte
                go_wp2_with fail
                refine C.out.mono ?_
                rintro e w2 ⟨rfl, rfl⟩
                clear C
                go_wp2_with fail
                refine CU.out.mono ?_
                rintro e w3 ⟨rfl, hb3⟩
                have HB3 := Lib.hid hb3
                have hx3 := (hb3.block b (Array.getElem?_eq_some_iff.1 HX.out).1).trans HX.out
                obtain ⟨z0, z1, z2⟩ := head2 hx3
                clear CU hb3 hx3 z2
                go_wp2_with fail
                go_ret
                exact LineP.no HF.out HB3.out HBS.out
              · have e1 : ts.toList.isEmpty = false := by rw [ByteArray.toList_eq, Bool.eq_false_iff]; intro h; exact hte (List.isEmpty_iff.1 h)
                have e2 : (ts.toList == []) = false := by rw [ByteArray.toList_eq, Bool.eq_false_iff]; intro h; exact hte (beq_iff_eq.1 h)
                have HTE := Lib.hid hte
                have hw1 : IntKind.i64.wrap ((i : Int) + 1) = (i : Int) + 1 := by rw [IntKind.wrap_i64]; omega
                have CT := Lib.hid (text_calls i hlt ts)
                clear hte
                rcases textC_eq ts with ⟨h, hk⟩ | ⟨h, hk⟩ | ⟨h, hk⟩
                · rw [h] at CT
                  have HK := Lib.hid hk
                  clear h hk
                  go_wp2_with fail
                  refine C.out.mono ?_
                  rintro e w2 ⟨rfl, rfl⟩
                  clear C
                  go_wp2_with fail
                  refine CU.out.mono ?_
                  rintro e w3 ⟨rfl, hb3⟩
                  have HB3 := Lib.hid hb3
                  have hx3 := (hb3.block b (Array.getElem?_eq_some_iff.1 HX.out).1).trans HX.out
                  obtain ⟨z0, z1, z2⟩ := head2 hx3
                  clear CU hb3 hx3 z2
                  go_wp2_with fail
                  refine (CT.out _).mono ?_
                  rintro e w4 ⟨rfl, hb4⟩
                  have HB4 := Lib.hid hb4
                  clear hb4 CT z0 z1
                  have hx4 := ((below_next HB3.out HB4.out).block b (Array.getElem?_eq_some_iff.1 HX.out).1).trans HX.out
                  have HO4 := Lib.hid (own_below HO.out (below_next HB3.out HB4.out))
                  have HX4 := Lib.hid hx4
                  obtain ⟨y0, y1, y2⟩ := head2 hx4
                  obtain ⟨g, rfl⟩ : ∃ g, A = some ⟨g, 0, none⟩ := by
                    rcases HO4.out.2 with ⟨_, h0⟩ | ⟨g, _, _, hv, _⟩
                    · have := HQ1.out; omega
                    · exact ⟨g, by injection hv⟩
                  obtain ⟨p, hp⟩ : ∃ p, m.length = p := ⟨_, rfl⟩
                  have hq1 := HQ1.out
                  rw [hp] at hq1
                  have hwq : IntKind.i64.wrap ((q : Int) - 1) = (p : Int) := by rw [IntKind.wrap_i64]; omega
                  have HP0 := Lib.hid hp
                  have HQP := Lib.hid hq1
                  have hpq : (p : Int) < q := by omega
                  have hpq' : p < q := by omega
                  have HC := Lib.hid (HO4.out.cellAt (p * 5 + 1 + i) (by omega))
                  have y5 := HO4.out.frozenAt (p * 5 + 1 + i)
                  have HML : Hid (l[p]? = some d) := by show _ = _; rw [HMD.out, ← hp]; simp
                  have y4 := HC.out
                  rw [dCells_get HML.out i hlt] at y4
                  have HRES : Hid (lineF l (by8 s) = some (m ++ [d.put i ts])) := by
                    show _ = _
                    rw [HL.out, if_pos ⟨by rw [HFD.out]; omega, by rw [← HTS.out]; exact HTE.out, HK.out⟩]
                  have hst := HO4.out
                  rw [HMD.out] at hst
                  have HST := Lib.hid (step_put (t := ts) hB HX4.out hst HQ1.out hlt (by rw [HFD.out]; omega) HTE.out)
                  rw [hp] at HST
                  obtain ⟨x0, y6, x2⟩ := head2 HST.out.1
                  clear hst x0 x2
                  have y3 := y2 1
                  clear hp hq1 hx4 y2
                  go_wp2_with fail
                  go_region
                  clear y0 y1 y3 y4 y5 y6
                  go_wp2_with fail
                  go_ret
                  exact LineP.yes HRES.out (below_next HB3.out HB4.out) HBS.out HST.out.2.drew
                · rw [h] at CT
                  have HF : Hid (lineF l (by8 s) = none) := by
                    show _ = _
                    rw [HL.out, if_neg (by rw [hk]; simp)]
                  clear h hk
                  go_wp2_with fail
                  refine C.out.mono ?_
                  rintro e w2 ⟨rfl, rfl⟩
                  clear C
                  go_wp2_with fail
                  refine CU.out.mono ?_
                  rintro e w3 ⟨rfl, hb3⟩
                  have HB3 := Lib.hid hb3
                  have hx3 := (hb3.block b (Array.getElem?_eq_some_iff.1 HX.out).1).trans HX.out
                  obtain ⟨z0, z1, z2⟩ := head2 hx3
                  clear CU hb3 hx3 z2
                  go_wp2_with fail
                  refine (CT.out _).mono ?_
                  rintro e w4 ⟨rfl, hb4⟩
                  have HB4 := Lib.hid hb4
                  clear hb4 CT
                  go_wp2_with fail
                  go_ret
                  exact LineP.no HF.out (below_next HB3.out HB4.out) HBS.out
                · rw [h] at CT
                  have HF : Hid (lineF l (by8 s) = none) := by
                    show _ = _
                    rw [HL.out, if_neg (by rw [hk]; simp)]
                  clear h hk
                  go_wp2_with fail
                  refine C.out.mono ?_
                  rintro e w2 ⟨rfl, rfl⟩
                  clear C
                  go_wp2_with fail
                  refine CU.out.mono ?_
                  rintro e w3 ⟨rfl, hb3⟩
                  have HB3 := Lib.hid hb3
                  have hx3 := (hb3.block b (Array.getElem?_eq_some_iff.1 HX.out).1).trans HX.out
                  obtain ⟨z0, z1, z2⟩ := head2 hx3
                  clear CU hb3 hx3 z2
                  go_wp2_with fail
                  refine (CT.out _).mono ?_
                  rintro e w4 ⟨rfl, hb4⟩
                  have HB4 := Lib.hid hb4
                  clear hb4 CT
                  go_wp2_with fail
                  go_ret
                  exact LineP.no HF.out (below_next HB3.out HB4.out) HBS.out
    · have HF : Hid (lineF l (by8 s) = none) := lineF_none HPD.out (fun j hj => HV.out j (by omega))
      go_wp2_with fail
      go_ret
      exact LineP.no HF.out (Below.refl _ _) HBS.out
/-- A line is taken in. -/
theorem line_calls (w : World) (B b : Nat) (l : List DocM) (hR : IsR B b l w) (hH : LaidH w) (s : ByteArray) (hs : s.size ≤ 65536) (hl : l.length ≤ 100000) :
    Calls Tryd.prog 39 #[.pointer (some ⟨b, 0, none⟩), .string s] w (LineP B b l (by8 s) w) := by
  cases hp : docHead.isPrefixOf (by8 s)
  · exact line_field w B b l hR hH s hs hl hp
  · refine (line_doc w B b l hR s hs hl hp).mono ?_
    rintro e w' ⟨rfl, h⟩
    unfold LineP lineF
    rw [if_pos hp]
    cases hn : nameOk ((by8 s).drop 4)
    · exact .inr ⟨by rw [if_neg (by decide)], rfl, h.2⟩
    · exact .inl ⟨_, by rw [if_pos rfl], rfl, h⟩
end Exp
end Go.Proofs.YtfohollhdaedlaaDoor
