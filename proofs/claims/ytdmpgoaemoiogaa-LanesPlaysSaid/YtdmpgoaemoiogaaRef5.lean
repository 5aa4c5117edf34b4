/- Lanes' reference: Take, Lose. -/
import Derived.Test.YtdmpgoaemoiogaaRef4
set_option linter.unusedVariables false
set_option linter.unusedSimpArgs false
set_option maxRecDepth 100000
namespace Go.Proofs.Ytdmpgoaemoiogaa
open Go.RowKit Go.Maps
namespace Ref
open Box
variable {w : World} {B r n : Nat} {v : Value} {s t : Int} {L : List Msg}
theorem rtakeNo_calls (h : RfS w B r v n s t L) (i j : Int) (hk : ¬ Box.Way n (i, j)) (k : Int) :
    Calls Try.prog 55 #[.pointer (some ⟨r, 0, none⟩), .int .i64 i, .int .i64 j, .int .i64 k] w fun e w' => e = .returned (.tuple #[.slice none 0 0, .int .i64 15]) ∧ w' = w := by
  have C := Lib.hid (rpeekNo_calls h i j hk k)
  clear h hk
  go_enter Try.func55, Try.ntmps55
  go_wp2_with fail
  refine C.out.mono ?_
  rintro e w' ⟨rfl, rfl⟩
  go_wp2_with fail
  go_ret2
  exact ⟨rfl, rfl⟩
theorem rtakeOut_calls (h : RfS w B r v n s t L) (i j : Int) (hk : Box.Way n (i, j)) (k : Int) (ho : Out (rq L (i, j)) k) :
    Calls Try.prog 55 #[.pointer (some ⟨r, 0, none⟩), .int .i64 i, .int .i64 j, .int .i64 k] w fun e w' => e = .returned (.tuple #[.slice none 0 0, .int .i64 10]) ∧ Below w.heap.size w w' := by
  have C := Lib.hid (rpeekOut_calls h i j hk k ho)
  clear h hk ho
  go_enter Try.func55, Try.ntmps55
  go_wp2_with fail
  refine C.out.mono ?_
  rintro e w' ⟨rfl, hb⟩
  have HB := Lib.hid hb
  clear hb
  go_wp2_with fail
  go_ret2
  exact ⟨rfl, HB.out⟩
/-- A part of a slice of messages. -/
theorem ms_take {A : Option Addr} {c ln : Nat} (h : IsSl w 5 A ln c (mCells L)) (hl : L.length = ln) {i : Nat} (hi : i ≤ ln) : IsSl w 5 A i c (mCells (L.take i)) := by
  obtain ⟨h1, h2, h3, h4, h5⟩ := h
  refine ⟨by rw [mCells_length, List.length_take]; omega, by omega, h3, fun ha => ⟨by have := h4 ha; omega, (h4 ha).2⟩, fun ad ha j u hu => h5 ad ha j u ?_⟩
  rw [← mCells_take] at hu
  have hj := (List.getElem?_eq_some_iff.1 hu).1
  rw [List.length_take] at hj
  rwa [List.getElem?_take, if_pos (by omega)] at hu
theorem ms_drop {ab ao c ln : Nat} (h : IsSl w 5 (some ⟨ab, ao, none⟩) ln c (mCells L)) (hl : L.length = ln) {i : Nat} (hi : i ≤ ln) {ad : Addr} (hadd : i < ln → ad = ⟨ab, ao + i * 5, none⟩) : IsSl w 5 (some ad) (ln - i) (c - i) (mCells (L.drop i)) := by
  obtain ⟨h1, h2, h3, h4, h5⟩ := h
  refine ⟨by rw [mCells_length, List.length_drop]; omega, by omega, by omega, fun ha => (by cases ha), fun ad' ha j u hu => ?_⟩
  obtain rfl := Option.some.inj ha
  rw [← mCells_drop, List.getElem?_drop] at hu
  have hj := (List.getElem?_eq_some_iff.1 hu).1
  rw [mCells_length, hl] at hj
  rw [hadd (by omega), Addr.add_lit]
  have := h5 _ rfl _ u hu
  rw [Addr.add_lit] at this
  rwa [Nat.add_assoc]
theorem erase_eq (L : List Msg) (i : Nat) : L.eraseIdx i = L.take i ++ L.drop (i + 1) := List.eraseIdx_eq_take_drop_succ L i
theorem own_other {v : Value} {r : Nat} (h : v.ownBlock ≠ some r) : v.ownBlock = none ∨ v.ownBlock ≠ some r := .inr h
/-- Bytes apart from what is written stay as they are. -/
theorem sl_cell {w : World} {A : Option Addr} {n c r i : Nat} {l : List Value} {x : Value} (h : IsSl w 1 A n c l) (hA : ∀ ad, A = some ad → r < ad.block) : IsSl (w.setCell ⟨r, i, none⟩ x) 1 A n c l :=
  IsSl.foot (F := fun y => y = r) h (fun ad ha _ => by have := hA ad ha; omega) (Foot.of_grown (grown_cell x) rfl)
set_option maxHeartbeats 4000000 in
theorem rtake_calls (h : RfS w B r v n s t L) (i j : Int) (hk : Box.Way n (i, j)) (k : Nat) (x : Par) (hx : (rq L (i, j))[k]? = some x) (hok : OkP x) (hL : L.length ≤ 1000000) (hB : B ≤ w.heap.size) (idx : Nat) (hf1 : rfind L (i, j) k = some idx) (hLx : L[idx]? = some ((i, j), x)) :
    Calls Try.prog 55 #[.pointer (some ⟨r, 0, none⟩), .int .i64 i, .int .i64 j, .int .i64 k] w fun e w' => Box.Came w e w' x ∧ RStep w B r n v s t (L.eraseIdx idx) w' := by
  have C := Lib.hid (rpeek_calls h i j hk k x hx hok)
  have hil : idx < L.length := (List.getElem?_eq_some_iff.1 hLx).1
  have H := Lib.hid h
  obtain ⟨ln, hln⟩ : ∃ ln, L.length = ln := ⟨_, rfl⟩
  have HLN := Lib.hid hln
  have HR1 := Lib.hid (rf_at hf1)
  obtain ⟨A, c, rfl, hsl⟩ := own_form h.row
  have hc := hsl.2.1
  have hcm := hsl.2.2.1
  unfold maxLen at hcm
  obtain ⟨ab, ao, rfl, _⟩ := m_at hsl hLx
  have HSL := Lib.hid hsl
  rw [hln] at hil hL HSL hc
  have hii : (idx : Int) ≤ ln := by omega
  have hii2 : (idx : Int) < ln := by omega
  obtain ⟨xs, xa, xb⟩ := x
  clear h hk hx hf1 hLx hln hsl hok
  go_enter Try.func55, Try.ntmps55
  go_wp2_with fail
  refine C.out.mono ?_
  rintro e w1 ⟨⟨pa, pc, rfl, hps, hpf⟩, hb1⟩
  have HPF := Lib.hid hpf
  have H1 := Lib.hid (H.out.below hb1)
  have HP1 := Lib.hid hps
  have HB1 := Lib.hid hb1
  have hf2 := rfind_calls (H.out.below hb1) i j k
  rw [HR1.out] at hf2
  have C2 := Lib.hid hf2
  clear hb1 hps hf2 hpf
  dsimp only
  go_wp2_with fail
  refine C2.out.mono ?_
  rintro e w2 ⟨rfl, hb2⟩
  have H2 := Lib.hid (H1.out.below hb2)
  have HP2 := Lib.hid (HP1.out.below hb2)
  have HB2 := Lib.hid (below_next HB1.out hb2)
  have HSL2 := Lib.hid (HSL.out.below HB2.out)
  have hhd := H2.out.head
  rw [HLN.out] at hhd
  obtain ⟨z0, z1, z2, z3, z4⟩ := head4 hhd
  have HHD := Lib.hid hhd
  clear hb2 hhd
  go_wp2_with (at_builtin; go_loud (refine wpList_app_own _ rfl (.tmp 30) (.tmp 36) 83 rfl w2.heap.size 106 (.agg #[.int .i64 0, .int .i64 0, .string { data := #[] }, .int .i64 0, .int .u8 0]) 5 48 Try.underlying83 inf_msg rfl (by decide) _ 0 [] rfl (World.ownsRow_nil _ _ _ _) (some ⟨ab, ao, none⟩) idx c (mCells (L.take idx)) rfl (ms_take HSL2.out HLN.out (Nat.le_of_lt hil)) (mCells_one _) (by unfold maxLen; omega) (by omega) (Nat.le_refl _) ?_))
  intro v1 w3 ho1 _ hb3
  have HO1 := Lib.hid ho1
  have HB3 := Lib.hid hb3
  have HHD3 := Lib.hid ((hb3.block r (Array.getElem?_eq_some_iff.1 HHD.out).1).trans HHD.out)
  have HSL3 := Lib.hid (HSL2.out.below hb3)
  clear ho1 hb3 z0 z1 z2 z3 z4
  obtain ⟨z0, z1, z2, z3, z4⟩ := head4 HHD3.out
  by_cases hce : c = idx + 1
  · subst hce
    obtain rfl : ln = idx + 1 := by omega
    have hdn : L.drop (idx + 1) = [] := List.drop_eq_nil_of_le (by rw [HLN.out]; exact Nat.le_refl _)
    have HDN := Lib.hid hdn
    clear hdn
    go_wp2_with (at_builtin; go_loud (refine wpList_app_own _ rfl (.tmp 39) (.tmp 46) 83 rfl w2.heap.size 106 (.agg #[.int .i64 0, .int .i64 0, .string { data := #[] }, .int .i64 0, .int .u8 0]) 5 48 Try.underlying83 inf_msg rfl (by decide) _ idx (mCells (L.take idx)) rfl HO1.out (some ⟨ab, ao, none⟩) 0 0 [] rfl ⟨rfl, Nat.le_refl _, by decide, fun ha => (by cases ha), fun ad _ j u hu => by simp at hu⟩ (fun u hu => by cases hu) (by unfold maxLen; omega) (by omega) HB3.out.size ?_))
    intro v2 w4 ho2 _ hb4
    obtain ⟨A2, cap2, hv2, _⟩ := own_form ho2
    subst hv2
    have hel : (L.eraseIdx idx).length = idx + 0 := by rw [List.length_eraseIdx, if_pos (by rw [HLN.out]; exact hil), HLN.out]; omega
    have HO2 : Hid (w4.ownsRow w2.heap.size 106 5 (.slice A2 idx cap2) (L.eraseIdx idx).length (mCells (L.eraseIdx idx))) := by
      show w4.ownsRow _ _ _ _ _ _
      rw [hel, erase_eq, HDN.out, List.append_nil]; exact ho2
    have hb24 : Below w2.heap.size w2 w4 := HB3.out.trans hb4
    have HB4 := Lib.hid hb24
    have hhd4 := (hb24.block r (Array.getElem?_eq_some_iff.1 HHD.out).1).trans HHD.out
    clear ho2 hb4 hb24 hel z0 z1 z2 z3 z4
    obtain ⟨z0, z1, z2, z3, z4⟩ := head4 hhd4
    have HHD4 := Lib.hid hhd4
    clear hhd4
    go_wp2_with fail
    go_ret2
    have hr2 : r < w2.heap.size := (Array.getElem?_eq_some_iff.1 HHD.out).1
    have hne : (Value.slice A2 idx cap2).ownBlock ≠ some r := fun e => by have := (HO2.out.lt r e).1; omega
    have hB4 : Below w.heap.size w w4 := below_next HB2.out HB4.out
    exact ⟨⟨pa, pc, rfl, sl_cell (HP2.out.below HB4.out) (fun ad ha => Nat.lt_of_lt_of_le H.out.lt (HPF.out ad ha)), HPF.out⟩, _, ⟨heap_set4 HHD4.out _ rfl, (own_base HO2.out (Nat.le_trans hB HB2.out.size)).kept (grown_cell (n := r) (i := 1) _) (own_other hne), hne⟩, Foot.tr (Foot.of_below _ hB4) (foot_cell w4 1 _), fun x hx => by
      rcases hx with rfl | hx
      · exact .inl (.inl rfl)
      · exact .inr (Nat.le_trans HB2.out.size (HO2.out.lt x hx).1)⟩
  · have hce1 : idx + 1 < c := by omega
    go_wp2_with (at_builtin; go_loud (refine wpList_app_own _ rfl (.tmp 39) (.tmp 46) 83 rfl w2.heap.size 106 (.agg #[.int .i64 0, .int .i64 0, .string { data := #[] }, .int .i64 0, .int .u8 0]) 5 48 Try.underlying83 inf_msg rfl (by decide) _ idx (mCells (L.take idx)) rfl HO1.out (some ⟨ab, ao + (idx + 1) * 5, none⟩) (ln - (idx + 1)) (c - (idx + 1)) (mCells (L.drop (idx + 1))) rfl (ms_drop HSL3.out HLN.out (by omega) (fun h => by rfl)) (mCells_one _) (by unfold maxLen; omega) (by omega) HB3.out.size ?_))
    intro v2 w4 ho2 _ hb4
    obtain ⟨A2, cap2, hv2, _⟩ := own_form ho2
    subst hv2
    have hel : (L.eraseIdx idx).length = idx + (ln - (idx + 1)) := by rw [List.length_eraseIdx, if_pos (by rw [HLN.out]; exact hil), HLN.out]; omega
    have HO2 : Hid (w4.ownsRow w2.heap.size 106 5 (.slice A2 (idx + (ln - (idx + 1))) cap2) (L.eraseIdx idx).length (mCells (L.eraseIdx idx))) := by
      show w4.ownsRow _ _ _ _ _ _
      rw [hel, erase_eq, mCells_append]; exact ho2
    have hb24 : Below w2.heap.size w2 w4 := HB3.out.trans hb4
    have HB4 := Lib.hid hb24
    have hhd4 := (hb24.block r (Array.getElem?_eq_some_iff.1 HHD.out).1).trans HHD.out
    clear ho2 hb4 hb24 hel z0 z1 z2 z3 z4
    obtain ⟨z0, z1, z2, z3, z4⟩ := head4 hhd4
    have HHD4 := Lib.hid hhd4
    clear hhd4
    go_wp2_with fail
    go_ret2
    have hr2 : r < w2.heap.size := (Array.getElem?_eq_some_iff.1 HHD.out).1
    have hne : (Value.slice A2 (idx + (ln - (idx + 1))) cap2).ownBlock ≠ some r := fun e => by have := (HO2.out.lt r e).1; omega
    have hB4 : Below w.heap.size w w4 := below_next HB2.out HB4.out
    exact ⟨⟨pa, pc, rfl, sl_cell (HP2.out.below HB4.out) (fun ad ha => Nat.lt_of_lt_of_le H.out.lt (HPF.out ad ha)), HPF.out⟩, _, ⟨heap_set4 HHD4.out _ rfl, (own_base HO2.out (Nat.le_trans hB HB2.out.size)).kept (grown_cell (n := r) (i := 1) _) (own_other hne), hne⟩, Foot.tr (Foot.of_below _ hB4) (foot_cell w4 1 _), fun x hx => by
      rcases hx with rfl | hx
      · exact .inl (.inl rfl)
      · exact .inr (Nat.le_trans HB2.out.size (HO2.out.lt x hx).1)⟩
end Ref
end Go.Proofs.Ytdmpgoaemoiogaa
