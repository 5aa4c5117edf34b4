/- The walks: the reference's Words, Spans, Count, Single. Written by tokr2.py. -/
import Derived.Test.YtfohollhdaedlaaGreatDoorTokR1
set_option linter.unusedVariables false
set_option linter.unusedSimpArgs false
set_option maxRecDepth 100000
namespace Go.Proofs.YtfohollhdaedlaaGreatDoor
open Go.RowKit Utf Fold
namespace Tok
theorem piece_at {w : World} {A : Option Addr} {n c : Nat} {s : ByteArray} {l : List (Nat × Nat × Bool)} (h : IsSl w 2 A n c (pCells s l)) (hn : l.length = n) {i : Nat} (hi : i < n) : ∃ (x : Nat × Nat × Bool) (b o : Nat), l[i]? = some x ∧ l.drop i = x :: l.drop (i + 1) ∧ l.take (i + 1) = l.take i ++ [x] ∧ A = some ⟨b, o, none⟩ ∧ w.cell? ⟨b, o + i * 2, none⟩ = some (.string (s.extract x.1 x.2.1)) ∧ w.cell? ⟨b, o + i * 2 + 1, none⟩ = some (.bool x.2.2) := by
  subst hn
  obtain ⟨b, o, h1, h2, h3⟩ := pair_at h hi
  have := pCells_at s l i hi
  exact ⟨l[i], b, o, List.getElem?_eq_getElem hi, List.drop_eq_getElem_cons hi, by rw [List.take_add_one, List.getElem?_eq_getElem hi]; rfl, h1, by rw [h2, this.1], by rw [h3, this.2]⟩
theorem spansOf_word (x : Nat × Nat × Bool) (l : List (Nat × Nat × Bool)) (h : x.2.2 = true) : spansOf (x :: l) = (x.1, x.2.1) :: spansOf l := by
  obtain ⟨f, t, v⟩ := x
  simp only at h
  subst h; rfl
theorem spansOf_not (x : Nat × Nat × Bool) (l : List (Nat × Nat × Bool)) (h : x.2.2 = false) : spansOf (x :: l) = spansOf l := by
  obtain ⟨f, t, v⟩ := x
  simp only at h
  subst h; rfl
theorem spansOf_append (l m : List (Nat × Nat × Bool)) : spansOf (l ++ m) = spansOf l ++ spansOf m := by simp [spansOf]

set_option maxHeartbeats 4000000 in
theorem rwords_calls (s : ByteArray) (hs : s.size ≤ 16777216) (w : World) :
    Calls Tryz.prog 48 #[.string s] w fun e w' => ∃ v, e = .returned v ∧ w'.ownsRow w.heap.size 51 2 v (toks s 0 (spans s 0)).length (tCells (toks s 0 (spans s 0))) ∧ Below w.heap.size w w' := by
  have hlen := pieces_length s _ 0 rfl
  go_enter Tryz.func48, Tryz.ntmps48
  go_wp2_with fail
  refine (pieces_calls s hs _).mono ?_
  rintro e w1 ⟨v, rfl, ho, hb⟩
  obtain ⟨A, c, rfl, hsl⟩ := own_form ho
  have HB1 := Lib.hid hb
  have HS := Lib.hid hsl
  have hs1 := hb.size
  have hcc := hsl.2.1
  have hcm := hsl.2.2.1
  unfold maxLen at hcm
  clear ho hb hsl
  generalize hL : pieces s 0 = L at *
  have HL := Lib.hid hL
  clear hL
  generalize hn : L.length = n at *
  go_wp2_with fail
  go_loopw [3, 4, 11] (fun out k ix wr => ∃ (i q : Nat) (tl : List (ByteArray × Nat)), i ≤ n ∧ ix = .int .i64 i ∧ k = .int .i64 q ∧ q ≤ i ∧ tl.length ≤ q ∧ wr.ownsRow w1.heap.size 51 2 out tl.length (tCells tl) ∧ Hid (tl ++ toks s q (spansOf (L.drop i)) = toks s 0 (spansOf L)) ∧ Below w1.heap.size w1 wr) (fun _ _ ix _ => n - (intOf ix).toNat)
  case atStart => exact ⟨0, 0, [], Nat.zero_le _, rfl, rfl, Nat.le_refl _, Nat.le_refl _, World.ownsRow_nil _ _ _ _, rfl, Below.refl _ _⟩
  case round =>
    obtain ⟨i, q, tl, hi, rfl, rfl, hqi, htl, ho, HV, hb⟩ := hrel
    obtain ⟨A3, c3, rfl, hsl3⟩ := own_form ho
    have HO := Lib.hid ho
    clear ho hsl3
    have HB := Lib.hid hb
    have HS1 := Lib.hid (HS.out.below hb)
    have hbs := hb.size
    clear hb
    by_cases hlt : i < n
    · obtain ⟨⟨f, t, v⟩, b, o, hx, hd, htk, rfl, hc0, hc1⟩ := piece_at HS1.out hn hlt
      simp only at hc0 hc1
      have HD := Lib.hid hd
      clear hx hd htk
      have cx := fun W => rtext_calls (s.extract f t) (by rw [ByteArray.size_extract]; omega) W
      have hts := term_size s (f, t)
      rw [show strOfNums (textF (s.extract f t) 0) = term s (f, t) from rfl] at cx
      generalize s.extract f t = y at hc0 cx
      cases v
      · have HN : Hid (tl ++ toks s q (spansOf (L.drop (i + 1))) = toks s 0 (spansOf L)) := by
          have h := HV.out
          rw [HD.out, spansOf_not _ _ rfl] at h
          exact h
        clear cx hts
        go_wp2_with fail
        go_roundw
        case rel => exact ⟨i + 1, q, tl, by omega, by go_num, rfl, by omega, htl, own_below HO.out ((Below.refl _ _).alloc (Nat.le_refl _) _), HN.out, HB.out.alloc hbs _⟩
        case measure => simp [intOf]; omega
      · have HST : Hid (toks s q (spansOf (L.drop i)) = (if keepT q (term s (f, t)) then [(term s (f, t), q)] else []) ++ toks s (q + 1) (spansOf (L.drop (i + 1)))) := by
          show _ = _
          rw [HD.out, spansOf_word _ _ rfl]; rfl
        generalize hw0 : wr.alloc (.cells #[.string y, .bool true] 118) = w0 at *
        have hb0 : Below wr.heap.size wr w0 := by rw [← hw0]; exact (Below.refl _ _).alloc (Nat.le_refl _) _
        have hca : w0.cell? ⟨wr.heap.size, 0, none⟩ = some (.string y) := by rw [← hw0]; exact cell_new _ _ _ _ 0
        have hcb : w0.cell? ⟨wr.heap.size, 1, none⟩ = some (.bool true) := by rw [← hw0]; exact cell_new _ _ _ _ 1
        have HB0 := Lib.hid (HB.out.trans (hb0.mono hbs))
        have hbs0 := HB0.out.size
        have HO0 := Lib.hid (own_below HO.out hb0)
        clear hb0
        generalize term s (f, t) = z at *
        cases hk : keepT q z
        · have HN : Hid (tl ++ toks s (q + 1) (spansOf (L.drop (i + 1))) = toks s 0 (spansOf L)) := by
            have h := HV.out
            rw [HST.out, hk] at h
            exact h
          have hcase : (60 : Int) ≤ q ∨ ((q : Int) < 60 ∧ (20 : Int) < z.size) := by
            simp only [keepT, Bool.and_eq_false_iff, decide_eq_false_iff_not] at hk
            omega
          clear hk
          rcases hcase with hk1 | ⟨hk1, hk2⟩
          · go_wp2_with fail
            refine (cx _).mono ?_
            rintro e w2 ⟨rfl, hb2⟩
            have HB2 := Lib.hid (HB0.out.trans (hb2.mono hbs0))
            have HO2 := Lib.hid (own_below HO0.out hb2)
            clear hb2
            go_wp2_with fail
            go_roundw
            case rel => exact ⟨i + 1, q + 1, tl, by omega, by go_num, by go_num, by omega, by omega, HO2.out, HN.out, HB2.out⟩
            case measure => simp [intOf]; omega
          · go_wp2_with fail
            refine (cx _).mono ?_
            rintro e w2 ⟨rfl, hb2⟩
            have HB2 := Lib.hid (HB0.out.trans (hb2.mono hbs0))
            have HO2 := Lib.hid (own_below HO0.out hb2)
            clear hb2
            go_wp2_with fail
            go_roundw
            case rel => exact ⟨i + 1, q + 1, tl, by omega, by go_num, by go_num, by omega, by omega, HO2.out, HN.out, HB2.out⟩
            case measure => simp [intOf]; omega
        · have HN : Hid ((tl ++ [(z, q)]) ++ toks s (q + 1) (spansOf (L.drop (i + 1))) = toks s 0 (spansOf L)) := by
            have h := HV.out
            rw [HST.out, hk, ← List.append_assoc] at h
            exact h
          obtain ⟨hk1, hk2⟩ : (q : Int) < 60 ∧ (z.size : Int) ≤ 20 := by
            simp only [keepT, Bool.and_eq_true, decide_eq_true_eq] at hk
            omega
          clear hk
          go_wp2_with fail
          refine (cx _).mono ?_
          rintro e w2 ⟨rfl, hb2⟩
          have HB2 := Lib.hid (HB0.out.trans (hb2.mono hbs0))
          have HO2 := Lib.hid (own_below HO0.out hb2)
          have hbs2 := HB2.out.size
          clear hb2
          go_wp2_with (at_builtin; refine wpList_app_own _ rfl (.tmp 28) (.tmp 32) 48 rfl w1.heap.size 51 (.agg #[.string { data := #[] }, .int .i64 0]) 2 24 Tryz.underlying48 infoTok rfl (by decide) _ tl.length (tCells tl) rfl (own_below HO2.out ((Below.refl _ _).alloc (Nat.le_refl _) _)) _ 1 1 [.string z, .int .i64 (q : Int)] rfl (sl_lit2 _ #[.string z, .int .i64 (q : Int)] 51 2 1 rfl (by decide)) (tpair_one _ _) (by unfold maxLen; omega) (by omega) (by simp; omega) ?_)
          intro v' w3 ho3 hg3 hb3
          have HO3 := Lib.hid ho3
          have HB3 := Lib.hid ((HB2.out.alloc hbs2 _).trans hb3)
          obtain ⟨A4, c4, rfl, _⟩ := own_form ho3
          clear ho3 hg3 hb3
          go_wp2_with fail
          go_roundw
          case rel =>
            refine ⟨i + 1, q + 1, tl ++ [(z, q)], by omega, by go_num, by go_num, by omega, by simp; omega, ?_, HN.out, HB3.out⟩
            rw [tCells_append, List.length_append]
            exact HO3.out
          case measure => simp [intOf]; omega
    · obtain rfl : i = n := by omega
      have HT : Hid (tl = toks s 0 (spans s 0)) := by
        have h := HV.out
        rw [List.drop_eq_nil_of_le (by omega)] at h
        have h2 : tl ++ [] = toks s 0 (spansOf L) := h
        rw [List.append_nil, ← HL.out] at h2
        exact h2
      clear HV
      go_wp2_with fail
      go_ret
      exact ⟨_, rfl, by rw [← HT.out]; exact own_base HO.out hs1, HB1.out.trans (HB.out.mono hs1)⟩

end Tok
end Go.Proofs.YtfohollhdaedlaaGreatDoor
