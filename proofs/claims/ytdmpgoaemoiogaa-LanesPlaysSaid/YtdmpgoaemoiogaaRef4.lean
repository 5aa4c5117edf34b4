/- Lanes' reference: Peek. -/
import Derived.Test.YtdmpgoaemoiogaaRef3
set_option linter.unusedVariables false
set_option linter.unusedSimpArgs false
set_option maxRecDepth 100000
namespace Go.Proofs.Ytdmpgoaemoiogaa
open Go.RowKit Go.Maps
namespace Ref
open Box
variable {w : World} {B r n : Nat} {v : Value} {s t : Int} {L : List Msg}
/-- A row of bytes of the call's own, which may be written. -/
def OwnB (w : World) (g n cap : Nat) (l : List Int) : Prop := l.length = n ∧ n ≤ cap ∧ cap ≤ maxLen ∧ ∀ j, j < n → w.cell? ⟨g, j, none⟩ = some (.int .u8 (l.getD j 0)) ∧ w.frozen? ⟨g, j, none⟩ = false
theorem OwnB.sl {g n cap : Nat} {l : List Int} (h : OwnB w g n cap l) : IsSl w 1 (some ⟨g, 0, none⟩) n cap (l.map (.int .u8)) := by
  obtain ⟨h1, h2, h3, h4⟩ := h
  refine ⟨by simpa using h1, h2, h3, fun ha => (by cases ha), fun ad ha j u hu => ?_⟩
  obtain rfl := Option.some.inj ha
  rw [Addr.add_lit, Nat.zero_add]
  have hj := (List.getElem?_eq_some_iff.1 hu).1
  simp at hj
  rw [(h4 j (by omega)).1, ← hu, List.getElem?_map, List.getD_eq_getElem?_getD, List.getElem?_eq_getElem hj]; rfl
theorem OwnB.set {g n cap : Nat} {l : List Int} (h : OwnB w g n cap l) {i : Nat} (hi : i < n) (c : Int) : OwnB (w.setCell ⟨g, i, none⟩ (.int .u8 c)) g n cap (l.set i c) := by
  obtain ⟨h1, h2, h3, h4⟩ := h
  refine ⟨by rw [List.length_set]; exact h1, h2, h3, fun j hj => ⟨?_, by rw [World.frozen?_setCell]; exact (h4 j hj).2⟩⟩
  by_cases hij : i = j
  · subst hij
    rw [World.cell?_setCell_same _ _ _ (h4 i hi).1, List.getD_eq_getElem?_getD, List.getElem?_set_self (by omega)]; rfl
  · rw [World.cell?_setCell_other _ _ _ _ (by simp), (h4 j hj).1, List.getD_eq_getElem?_getD, List.getD_eq_getElem?_getD, List.getElem?_set_ne hij]
theorem OwnB.same {w' : World} {g n cap : Nat} {l : List Int} (h : OwnB w g n cap l) (hs : w'.heap = w.heap) : OwnB w' g n cap l := by
  obtain ⟨h1, h2, h3, h4⟩ := h
  exact ⟨h1, h2, h3, fun j hj => ⟨by rw [← (h4 j hj).1]; unfold World.cell?; rw [hs], by rw [← (h4 j hj).2]; unfold World.frozen?; rw [hs]⟩⟩
theorem rpeekNo_calls (h : RfS w B r v n s t L) (i j : Int) (hk : ¬ Box.Way n (i, j)) (k : Int) :
    Calls Try.prog 60 #[.pointer (some ⟨r, 0, none⟩), .int .i64 i, .int .i64 j, .int .i64 k] w fun e w' => e = .returned (.tuple #[.slice none 0 0, .int .i64 15]) ∧ w' = w := by
  have C := Lib.hid (rwayNo_calls h i j hk)
  clear h hk
  go_enter Try.func60, Try.ntmps60
  go_wp2_with fail
  refine C.out.mono ?_
  rintro e w' ⟨rfl, rfl⟩
  go_wp2_with fail
  go_ret2
  exact ⟨rfl, rfl⟩
theorem rpeekOut_calls (h : RfS w B r v n s t L) (i j : Int) (hk : Box.Way n (i, j)) (k : Int) (ho : Out (rq L (i, j)) k) :
    Calls Try.prog 60 #[.pointer (some ⟨r, 0, none⟩), .int .i64 i, .int .i64 j, .int .i64 k] w fun e w' => e = .returned (.tuple #[.slice none 0 0, .int .i64 10]) ∧ Below w.heap.size w w' := by
  have C := Lib.hid (rwayYes_calls h i j hk)
  have hf := rfind_calls h i j k
  rw [rf_neg ho] at hf
  have C2 := Lib.hid hf
  clear h hk hf ho
  go_enter Try.func60, Try.ntmps60
  go_wp2_with fail
  refine C.out.mono ?_
  rintro e w' ⟨rfl, rfl⟩
  go_wp2_with fail
  refine C2.out.mono ?_
  rintro e w3 ⟨rfl, hb3⟩
  have HB3 := Lib.hid hb3
  clear hb3
  go_wp2_with fail
  go_ret2
  exact ⟨rfl, HB3.out⟩
set_option maxHeartbeats 4000000 in
theorem rpeek_calls (h : RfS w B r v n s t L) (i j : Int) (hk : Box.Way n (i, j)) (k : Nat) (x : Par) (hx : (rq L (i, j))[k]? = some x) (hok : OkP x) :
    Calls Try.prog 60 #[.pointer (some ⟨r, 0, none⟩), .int .i64 i, .int .i64 j, .int .i64 k] w fun e w' => Box.Came w e w' x ∧ Below w.heap.size w w' := by
  have C := Lib.hid (rwayYes_calls h i j hk)
  obtain ⟨idx, hf1, hLx, _⟩ := rfind_some L (i, j) k x hx
  have hf := rfind_calls h i j k
  rw [rf_at hf1] at hf
  have C2 := Lib.hid hf
  have hil : idx < L.length := (List.getElem?_eq_some_iff.1 hLx).1
  have HLX := Lib.hid hLx
  have H := Lib.hid h
  obtain ⟨xs, xa, xb⟩ := x
  obtain ⟨hs1, ⟨ha0, ha1⟩, hb0, hb1⟩ := hok
  obtain ⟨a, rfl⟩ := Int.eq_ofNat_of_zero_le ha0
  have hop : Hid (opened (xs, (a : Int), xb) = if xs.size = 0 then [] else (bytesOf xs).set (a % xs.size) (bits .xor .u8 (byt xs (a % xs.size)) xb)) := by
    show opened _ = _; simp [opened]
  have HBO := Lib.hid (bytesOf_length xs)
  simp only at hs1 ha1 hb0 hb1 ⊢
  obtain ⟨m, hm⟩ : ∃ m, xs.size = m := ⟨_, rfl⟩
  have HM := Lib.hid hm
  have HHD := Lib.hid h.head
  obtain ⟨ln, hln⟩ : ∃ ln, L.length = ln := ⟨_, rfl⟩
  obtain ⟨A, c, rfl, hsl⟩ := own_form h.row
  rw [hln] at hsl hil HHD
  have hc := hsl.2.1
  have hcm := hsl.2.2.1
  unfold maxLen at hcm
  obtain ⟨ab, ao, rfl, _⟩ := m_at hsl hLx
  have HSL := Lib.hid hsl
  have HMX : Hid (xs.size ≤ maxLen) := by show xs.size ≤ maxLen; unfold maxLen; omega
  have hii : (idx : Int) < ln := by omega
  clear h hk hx hf hf1 hLx hln hsl hm
  go_enter Try.func60, Try.ntmps60
  go_wp2_with fail
  refine C.out.mono ?_
  rintro e w' ⟨rfl, rfl⟩
  go_wp2_with fail
  refine C2.out.mono ?_
  rintro e w3 ⟨rfl, hb3⟩
  have HB3 := Lib.hid hb3
  have HH3 := Lib.hid ((hb3.block r (Array.getElem?_eq_some_iff.1 HHD.out).1).trans HHD.out)
  have HSL3 := Lib.hid (HSL.out.below hb3)
  obtain ⟨z0, z1, z2, z3, z4⟩ := head4 HH3.out
  obtain ⟨_, _, hA, c0, c1, c2, c3, c4⟩ := m_at HSL3.out HLX.out
  cases hA
  simp only at c0 c1 c2 c3 c4
  clear hb3
  go_wp2_with (refine wpList_conv_bytes_free _ rfl 9 64 5 (.tmp 32) rfl xs rfl Try.underlying9 Try.underlying64 Try.underlying5 HMX.out ?_)
  intro w4 cap hb4 hsz4 hcell hcap hcm4
  rw [HM.out] at hcell hcap ⊢
  have hown : OwnB w4 w3.heap.size m cap (bytesOf xs) := ⟨by rw [HBO.out, HM.out], hcap, hcm4, fun j hj => ⟨by rw [(hcell j hj).1, List.getD_eq_getElem?_getD, bytesOf_get xs j (by rw [HM.out]; exact hj)]; rfl, (hcell j hj).2⟩⟩
  have HOWN := Lib.hid hown
  have HB4 := Lib.hid (below_next HB3.out hb4)
  have HB34 := Lib.hid hb4
  clear hb4 hsz4 hcell hown z0 z1 z2 z3 z4 c0 c1 c2 c3 c4
  unfold maxLen at hcm4
  go_wp2_with fail
  go_loopw [36] (fun ix wr => ∃ o : Nat, o ≤ m ∧ ix = .int .i64 o ∧ OwnB wr w3.heap.size m cap (if a % m < o then (bytesOf xs).set (a % m) (bits .xor .u8 (byt xs (a % m)) xb) else bytesOf xs) ∧ Below w3.heap.size w3 wr) (fun ix _ => m - (intOf ix).toNat)
  case atStart => exact ⟨0, Nat.zero_le _, rfl, by rw [if_neg (Nat.not_lt_zero _)]; exact HOWN.out, HB34.out⟩
  case round =>
    obtain ⟨o, ho, rfl, hw, hb⟩ := hrel
    have HW := Lib.hid hw
    have HB := Lib.hid hb
    clear hw hb
    by_cases hlt : o < m
    · obtain ⟨z0, z1, z2, z3, z4⟩ := head4 ((HB.out.block r (Array.getElem?_eq_some_iff.1 HH3.out).1).trans HH3.out)
      obtain ⟨_, _, hA, c0, c1, c2, c3, c4⟩ := m_at (HSL3.out.below HB.out) HLX.out
      cases hA
      simp only at c0 c1 c2 c3 c4
      have hr := run_rem a m (by omega) ha1
      obtain ⟨pos, hpos⟩ : ∃ pos, a % m = pos := ⟨_, rfl⟩
      have HPOS := Lib.hid hpos
      have hpm : pos < m := by rw [← hpos]; exact Nat.mod_lt _ (by omega)
      rw [hpos] at hr HW
      have hlt' : (o : Int) < m := by omega
      clear hpos
      by_cases hpo : o = pos
      · subst hpo
        have HW2 : Hid (OwnB wr w3.heap.size m cap (bytesOf xs)) := by have := HW.out; rwa [if_neg (Nat.lt_irrefl _)] at this
        obtain ⟨q0, q1⟩ := HW2.out.2.2.2 o hlt
        have hbx : (bytesOf xs).getD o 0 = byt xs o := by rw [List.getD_eq_getElem?_getD, bytesOf_get xs o (by rw [HM.out]; exact hlt)]; rfl
        rw [hbx] at q0
        have HS2 := Lib.hid (HW2.out.set hlt (bits .xor .u8 (byt xs o) xb))
        have HB2 : Hid (Below w3.heap.size w3 (wr.setCell ⟨w3.heap.size, o, none⟩ (.int .u8 (bits .xor .u8 (byt xs o) xb)))) := HB.out.setCell (Nat.le_refl _) _
        obtain ⟨z, hz⟩ : ∃ z, byt xs o = z := ⟨_, rfl⟩
        have HZ := Lib.hid hz
        rw [hz] at q0 HS2 HB2
        have heq : ((o : Int) == (a : Int) % (m : Int)) = true := by rw [beq_iff_eq]; have := HPOS.out; omega
        clear hbx hz
        go_wp2_with fail
        go_region
        go_wp2_with fail
        go_roundw
        case rel => exact ⟨o + 1, by omega, by go_num, by rw [HPOS.out, if_pos (Nat.lt_succ_self _), HZ.out]; exact HS2.out.same rfl, HB2.out.trans ⟨rfl, rfl, rfl, Nat.le_refl _, fun _ _ => rfl⟩⟩
        case measure => simp [intOf]; omega
      · have hne : ((o : Int) == (a : Int) % (m : Int)) = false := by rw [beq_eq_false_iff_ne]; have := HPOS.out; omega
        go_wp2_with fail
        go_roundw
        case rel => exact ⟨o + 1, by omega, by go_num, by have h := HW.out; rw [HPOS.out]; split at h <;> split <;> first | exact h | omega, HB.out⟩
        case measure => simp [intOf]; omega
    · obtain rfl : o = m := by omega
      go_wp2_with fail
      go_ret2
      refine ⟨?_, below_next HB3.out HB.out⟩
      unfold Box.Came
      dsimp only
      rw [HM.out]
      refine ⟨some ⟨w3.heap.size, 0, none⟩, cap, rfl, ?_, fun ad ha => by cases ha; exact HB3.out.size⟩
      have h := HW.out
      rw [hop.out, HM.out]
      rcases Nat.eq_zero_or_pos o with h0 | h0
      · subst h0
        rw [if_pos rfl]
        exact ⟨rfl, Nat.zero_le _, h.2.2.1, fun ha => (by cases ha), fun ad _ j u hu => by simp at hu⟩
      · rw [if_pos (Nat.mod_lt _ h0)] at h
        rw [if_neg (by omega)]
        exact h.sl
end Ref
end Go.Proofs.Ytdmpgoaemoiogaa
