/- The walk of the law TokenAll. -/
import Derived.Test.YtonhlgidfgogiaaDoorTokAll
import Derived.Test.YtonhlgidfgogiaaDoorTokM1
import Derived.Test.YtonhlgidfgogiaaDoorTokE
import Derived.Deep.RegionWith
import Derived.BigRegion
set_option linter.unusedVariables false
set_option linter.unusedSimpArgs false
set_option maxRecDepth 100000
namespace Go.Proofs.YtonhlgidfgogiaaDoor
open Go.RowKit Utf Fold
namespace Tok
theorem tok_at {w : World} {A : Option Addr} {n c : Nat} {l : List (ByteArray × Nat)} (h : IsSl w 2 A n c (tCells l)) (hn : l.length = n) {i : Nat} (hi : i < n) : ∃ (x : ByteArray × Nat) (b o : Nat), l[i]? = some x ∧ A = some ⟨b, o, none⟩ ∧ w.cell? ⟨b, o + i * 2, none⟩ = some (.string x.1) ∧ w.cell? ⟨b, o + i * 2 + 1, none⟩ = some (.int .i64 (x.2 : Int)) := by
  subst hn
  obtain ⟨b, o, h1, h2, h3⟩ := pair_at h hi
  have := tCells_at l i hi
  exact ⟨l[i], b, o, List.getElem?_eq_getElem hi, h1, by rw [h2, this.1], by rw [h3, this.2]⟩
theorem box_below {w w' : World} {b : Nat} {x y : Value} {e : TypeId} (h : w.heap[b]? = some (.cells #[x, y] e (0, 0))) (hb : Below w.heap.size w w') : w'.heap[b]? = some (.cells #[x, y] e (0, 0)) := by
  rw [hb.block _ (Array.getElem?_eq_some_iff.1 h).1]; exact h

set_option maxHeartbeats 8000000 in
theorem all_proof (w : World) (hL : Laid w) (s : ByteArray) (hs : s.size ≤ 140737488351232) :
    Calls Tryd.prog 11 #[.string s] w fun e w' => e = .returned (.bool true) ∧ Below w.heap.size w w' := by
  have HL := Lib.hid hL
  clear hL
  by_cases hl : 2048 < s.size
  · have hl' : (2048 : Int) < s.size := by omega
    go_enter Tryd.func11, Tryd.ntmps11
    go_wp2_with fail
    refine (awake_calls _ HL.out).mono ?_
    rintro e w1 ⟨rfl, hb1⟩
    go_wp2_with fail
    go_ret
    exact ⟨rfl, hb1⟩
  · have hl' : (s.size : Int) ≤ 2048 := by omega
    have hsz : s.size ≤ 16777216 := by omega
    have c1 := fun W h => words_calls s hsz W h
    have c2 := fun W => pieces_calls s hsz W
    have c3 := fun W => count_calls s hsz W
    have HTM := Lib.hid (toks_mem s (spans s 0) 0)
    have HTR := Lib.hid (toks_rise s (spans s 0) 0)
    have HTA := Lib.hid (fun h => toks_all s (spans s 0) 0 h)
    have HTL := toks_length s (spans s 0) 0
    have HSL := spans_length s 0
    have HPL := pieces_length s _ 0 rfl
    have HTS : Hid (∀ z ∈ toks s 0 (spans s 0), single z.1 = true ∧ strOfNums (textF z.1 0) = z.1 ∧ z.2 < 60 ∧ z.1.size ≤ 20) := fun z hz => by
      obtain ⟨x, hx, h1, h2, h3, _⟩ := HTM.out z hz
      obtain ⟨h4, h5⟩ := term_single hx
      rw [h1]
      exact ⟨h4, h5, h2, by rw [← h1]; exact h3⟩
    have HSP : Hid (spansOf (pieces s 0) = spans s 0) := rfl
    clear HTM
    generalize toks s 0 (spans s 0) = T at *
    generalize spans s 0 = S at *
    generalize pieces s 0 = PP at *
    generalize hT : T.length = nT at *
    generalize hS : S.length = nS at *
    generalize hP : PP.length = nP at *
    go_enter Tryd.func11, Tryd.ntmps11
    go_wp2_with fail
    refine (c1 _ HL.out).mono ?_
    rintro e w1 ⟨v, rfl, ho, hb⟩
    obtain ⟨A1, d1, rfl, hsl1⟩ := own_form ho
    have HB1 := Lib.hid hb
    have HS1 := Lib.hid hsl1
    have HL1 := Lib.hid (HL.out.below hb)
    have hs1 := hb.size
    have hcc := hsl1.2.1
    have hcm := hsl1.2.2.1
    unfold maxLen at hcm
    clear ho hb hsl1
    go_wp2_with fail
    go_loopw [3, 17] (fun last ix wr => ∃ (q : Nat) (L : Int), q ≤ nT ∧ ix = .int .i64 q ∧ last = .int .i64 L ∧ Hid (∀ z, T[q]? = some z → L < z.2) ∧ Below w1.heap.size w1 wr) (fun _ ix _ => nT - (intOf ix).toNat)
    case atStart => exact ⟨0, -1, Nat.zero_le _, rfl, rfl, fun z _ => by omega, Below.refl _ _⟩
    case round =>
      obtain ⟨q, L, hq, rfl, rfl, HV, hb⟩ := hrel
      have HB := Lib.hid hb
      have HSq := Lib.hid (HS1.out.below hb)
      have HLq := Lib.hid (HL1.out.below hb)
      have hbs := hb.size
      clear hb
      by_cases hlt : q < nT
      · obtain ⟨⟨x, k⟩, b, o, hx, rfl, hc0, hc1⟩ := tok_at HSq.out hT hlt
        simp only at hc0 hc1
        obtain ⟨t1, t2, t3, t4⟩ := HTS.out _ (List.mem_of_getElem? hx)
        have t5 := HV.out _ hx
        have HN : Hid (∀ z, T[q + 1]? = some z → (k : Int) < z.2) := fun z hz => by
          have := HTR.out q _ z hx hz
          simp only at this; omega
        simp only at t1 t2 t3 t4 t5
        have cs := fun W => single_calls x (by omega) W
        have ct := fun W h => text_calls x (by omega) W h
        rw [t1] at cs
        rw [t2] at ct
        have hd1 : decide ((k : Int) ≤ L) = false := by simp; omega
        have hd2 : decide ((60 : Int) ≤ (k : Int)) = false := by simp; omega
        have hd3 : decide ((20 : Int) < (x.size : Int)) = false := by simp; omega
        have hne : (x.toList != x.toList) = false := by simp
        clear hx HV t1 t2
        obtain ⟨w0, hw0⟩ : ∃ w0, w0 = wr.alloc (.cells #[.string x, .int .i64 (k : Int)] 34) := ⟨_, rfl⟩
        have hb0 : Below wr.heap.size wr w0 := by rw [hw0]; exact (Below.refl _ _).alloc (Nat.le_refl _) _
        have hx0 : w0.heap[wr.heap.size]? = some (.cells #[.string x, .int .i64 (k : Int)] 34 (0, 0)) := by rw [hw0]; exact heap_alloc_new _ _
        have HX0 := Lib.hid hx0
        have HB0 := Lib.hid (HB.out.trans (hb0.mono hbs))
        have HL0 := Lib.hid (HLq.out.below hb0)
        have hbs0 := HB0.out.size
        have HW0 := Lib.hid hw0
        clear hb0 hx0 hw0
        go_wp2_with fail
        rw [← HW0.out]
        obtain ⟨hca, hcb⟩ := box_cells HX0.out
        generalize wr.heap.size = bx at *
        have HD := Lib.hid (show Laid w0.drew from HL0.out)
        go_cut [17, 49] from 17 to 52 (fun v17 v49 wx => v17 = .int .i64 q ∧ v49 = .bool false ∧ Hid (Below w0.heap.size w0 wx))
        case first =>
          go_region_with (first
            | (go_at_call 46; refine (cs _).mono ?_; rintro e w5 ⟨rfl, hb5⟩; have HX5 := Lib.hid (box_below (w := w0) HX0.out (below_drew1 hb5)); have hca5 := (box_cells HX5.out).1; have hcb5 := (box_cells HX5.out).2; have HL5 := Lib.hid (HL0.out.below (below_drew1 hb5)); have HB5 := Lib.hid (below_drew1 hb5); clear hb5)
            | (go_at_call 31; refine (ct _ HL5.out).mono ?_; rintro e w6 ⟨rfl, hb6⟩; have HX6 := Lib.hid (box_below HX5.out hb6); have hca6 := (box_cells HX6.out).1; have hcb6 := (box_cells HX6.out).2; have HB6 := Lib.hid (below_next HB5.out hb6); clear hb6))
          all_goals (go_wp2_with fail; go_meet; exact ⟨rfl, rfl, HB6.out⟩)
        case rest =>
          obtain ⟨rfl, rfl, HBC⟩ := hcut
          have HXC := Lib.hid (box_below HX0.out HBC.out)
          have hcac := (box_cells HXC.out).1
          have hcbc := (box_cells HXC.out).2
          have HBN := Lib.hid (HB0.out.trans (HBC.out.mono hbs0))
          clear hca hcb
          go_wp2_with fail
          go_roundw
          case rel => exact ⟨q + 1, (k : Int), by omega, by go_num, rfl, HN.out, HBN.out⟩
          case measure => simp [intOf]; omega
      · obtain rfl : q = nT := by omega
        have HB2 := Lib.hid (HB1.out.trans (HB.out.mono hs1))
        have HL2 := Lib.hid (HL.out.below HB2.out)
        clear HV
        go_wp2_with fail
        refine (c2 _).mono ?_
        rintro e w2 ⟨v, rfl, ho, hb⟩
        obtain ⟨A2, d2, rfl, hsl2⟩ := own_form ho
        have HB3 : Hid (Below w.heap.size w w2) := below_next HB2.out hb
        have HS2 := Lib.hid hsl2
        have HL3 := Lib.hid (HL.out.below HB3.out)
        have hs3 := HB3.out.size
        have hcc2 := hsl2.2.1
        have hcm2 := hsl2.2.2.1
        unfold maxLen at hcm2
        clear ho hb hsl2
        go_wp2_with fail
        go_loopw [4, 56] (fun long ix wr => ∃ (i k : Nat), i ≤ nP ∧ ix = .int .i64 i ∧ long = .int .i64 k ∧ k ≤ i ∧ Hid (longs s (spansOf (PP.take i)) = k) ∧ Below w2.heap.size w2 wr) (fun _ ix _ => nP - (intOf ix).toNat)
        case atStart => exact ⟨0, 0, Nat.zero_le _, rfl, rfl, Nat.le_refl _, rfl, Below.refl _ _⟩
        case round =>
          obtain ⟨i, k, hi, rfl, rfl, hki, HV, hb⟩ := hrel
          obtain ⟨wz, hwz⟩ : ∃ wz, wz = wr := ⟨_, rfl⟩
          subst hwz
          have HBi := Lib.hid hb
          have HSi := Lib.hid (HS2.out.below hb)
          have HLi := Lib.hid (HL3.out.below hb)
          have hbsi := hb.size
          clear hb
          by_cases hlti : i < nP
          · obtain ⟨⟨f, t, v⟩, b, o, hx, hd, htk, rfl, hc0, hc1⟩ := piece_at HSi.out hP hlti
            simp only at hc0 hc1
            have HTK := Lib.hid htk
            have hzx : (s.extract f t).size ≤ 2048 := by rw [ByteArray.size_extract]; omega
            have ct := fun W h => text_calls (s.extract f t) (by omega) W h
            rw [show strOfNums (textF (s.extract f t) 0) = term s (f, t) from rfl] at ct
            clear hx hd htk
            generalize s.extract f t = y at hc0 ct
            cases v
            · have HN : Hid (longs s (spansOf (PP.take (i + 1))) = k) := by
                show _ = _
                rw [HTK.out, spansOf_append, longs_append, HV.out]; rfl
              go_wp2_with fail
              go_roundw
              case rel => exact ⟨i + 1, k, by omega, by go_num, rfl, by omega, HN.out, HBi.out.alloc hbsi _⟩
              case measure => simp [intOf]; omega
            · have HST : Hid (longs s (spansOf (PP.take (i + 1))) = k + if 20 < (term s (f, t)).size then 1 else 0) := by
                show _ = _
                rw [HTK.out, spansOf_append, longs_append, HV.out]
                congr 1
                show longs s [(f, t)] = _
                unfold longs
                by_cases h20 : 20 < (term s (f, t)).size
                · rw [if_pos h20, List.filter_cons_of_pos (by simpa using h20)]; rfl
                · rw [if_neg h20, List.filter_cons_of_neg (by simpa using h20)]; rfl
              generalize term s (f, t) = z at *
              generalize hw0 : wz.alloc (.cells #[.string y, .bool true] 38) = w0 at *
              have hb0 : Below wz.heap.size wz w0 := by rw [← hw0]; exact (Below.refl _ _).alloc (Nat.le_refl _) _
              have hca : w0.cell? ⟨wz.heap.size, 0, none⟩ = some (.string y) := by rw [← hw0]; exact cell_new _ _ _ _ 0
              have hcb : w0.cell? ⟨wz.heap.size, 1, none⟩ = some (.bool true) := by rw [← hw0]; exact cell_new _ _ _ _ 1
              have HB0 := Lib.hid (HBi.out.trans (hb0.mono hbsi))
              have HL0 := Lib.hid (HLi.out.below hb0)
              have hbs0 := HB0.out.size
              clear hb0
              by_cases h20 : 20 < z.size
              · have HN : Hid (longs s (spansOf (PP.take (i + 1))) = k + 1) := by
                  have h := HST.out
                  rwa [if_pos h20] at h
                have h20' : (20 : Int) < z.size := by omega
                clear HST
                go_wp2_with fail
                refine (ct _ HL0.out).mono ?_
                rintro e w5 ⟨rfl, hb5⟩
                have HB5 := Lib.hid (HB0.out.trans (hb5.mono hbs0))
                clear hb5
                go_wp2_with fail
                go_roundw
                case rel => exact ⟨i + 1, k + 1, by omega, by go_num, by go_num, by omega, HN.out, HB5.out⟩
                case measure => simp [intOf]; omega
              · have HN : Hid (longs s (spansOf (PP.take (i + 1))) = k) := by
                  have h := HST.out
                  rwa [if_neg h20] at h
                have h20' : (z.size : Int) ≤ 20 := by omega
                clear HST
                go_wp2_with fail
                refine (ct _ HL0.out).mono ?_
                rintro e w5 ⟨rfl, hb5⟩
                have HB5 := Lib.hid (HB0.out.trans (hb5.mono hbs0))
                clear hb5
                go_wp2_with fail
                go_roundw
                case rel => exact ⟨i + 1, k, by omega, by go_num, rfl, by omega, HN.out, HB5.out⟩
                case measure => simp [intOf]; omega
          · obtain rfl : i = nP := by omega
            have HLG : Hid (longs s S = k) := by
              have h := HV.out
              rw [List.take_of_length_le (by omega), HSP.out] at h
              exact h
            have HB4 : Hid (Below w.heap.size w wz) := HB3.out.trans (HBi.out.mono hs3)
            have hs4 := HB4.out.size
            clear HV
            by_cases hk0 : 0 < k
            · have hk0' : (0 : Int) < k := by omega
              go_wp2_with fail
              refine (c3 _).mono ?_
              rintro e w5 ⟨rfl, hb5⟩
              have HB5 : Hid (Below w.heap.size w w5) := below_next HB4.out hb5
              clear hb5
              go_wp2_with fail
              refine (awake_calls _ (HL.out.below HB5.out)).mono ?_
              rintro e w6 ⟨rfl, hb6⟩
              go_wp2_with fail
              go_ret
              exact ⟨rfl, below_next HB5.out hb6⟩
            · obtain rfl : k = 0 := by omega
              have hmin : (if (60 : Int) < nS then 60 else (nS : Int)) = q := by
                have h := HTA.out (longs_none HLG.out)
                split <;> omega
              go_wp2_with fail
              refine (c3 _).mono ?_
              rintro e w5 ⟨rfl, hb5⟩
              have HB5 : Hid (Below w.heap.size w w5) := below_next HB4.out hb5
              clear hb5
              go_wp2_with fail
              refine (c1 _ (HL.out.below HB5.out)).mono ?_
              rintro e w6 ⟨v, rfl, ho, hb6⟩
              obtain ⟨A6, d6, rfl, _⟩ := own_form ho
              have HB6 : Hid (Below w.heap.size w w6) := below_next HB5.out hb6
              clear ho hb6
              go_wp2_with fail
              refine (awake_calls _ (HL.out.below HB6.out)).mono ?_
              rintro e w7 ⟨rfl, hb7⟩
              go_wp2_with fail
              go_ret
              exact ⟨rfl, below_next HB6.out hb7⟩
end Tok
end Go.Proofs.YtonhlgidfgogiaaDoor
