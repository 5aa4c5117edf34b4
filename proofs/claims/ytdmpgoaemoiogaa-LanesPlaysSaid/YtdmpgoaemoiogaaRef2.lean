/- Lanes' reference: way, find, Count. -/
import Derived.Test.YtdmpgoaemoiogaaRef1
set_option linter.unusedVariables false
set_option linter.unusedSimpArgs false
set_option maxRecDepth 100000
namespace Go.Proofs.Ytdmpgoaemoiogaa
open Go.RowKit Go.Maps
namespace Ref
open Box
variable {w : World} {B r n : Nat} {v : Value} {s t : Int} {L : List Msg}
theorem rwayNo_calls (h : RfS w B r v n s t L) (i j : Int) (hk : ¬ Box.Way n (i, j)) :
    Calls Try.prog 66 #[.pointer (some ⟨r, 0, none⟩), .int .i64 i, .int .i64 j] w fun e w' => e = .returned (.bool false) ∧ w' = w := by
  obtain ⟨y0, y1, y2, y3, y4⟩ := head4 h.head
  clear h
  simp only [Box.Way] at hk
  by_cases h1 : i < 0
  · clear hk
    go_enter Try.func66, Try.ntmps66
    go_wp2_with fail
    go_ret
    exact ⟨rfl, rfl⟩
  by_cases h2 : (n : Int) ≤ i
  · clear hk
    go_enter Try.func66, Try.ntmps66
    go_wp2_with fail
    go_ret
    exact ⟨rfl, rfl⟩
  by_cases h3 : j < 0
  · clear hk
    go_enter Try.func66, Try.ntmps66
    go_wp2_with fail
    go_ret
    exact ⟨rfl, rfl⟩
  by_cases h4 : (n : Int) ≤ j
  · clear hk
    go_enter Try.func66, Try.ntmps66
    go_wp2_with fail
    go_ret
    exact ⟨rfl, rfl⟩
  have h5 : i = j := by omega
  subst h5
  clear hk
  go_enter Try.func66, Try.ntmps66
  go_wp2_with fail
  go_ret
  exact ⟨rfl, rfl⟩
theorem rwayYes_calls (h : RfS w B r v n s t L) (i j : Int) (hk : Box.Way n (i, j)) :
    Calls Try.prog 66 #[.pointer (some ⟨r, 0, none⟩), .int .i64 i, .int .i64 j] w fun e w' => e = .returned (.bool true) ∧ w' = w := by
  obtain ⟨y0, y1, y2, y3, y4⟩ := head4 h.head
  clear h
  obtain ⟨h1, h2, h3, h4, h5⟩ := hk
  simp only at h1 h2 h3 h4 h5
  have h6 : (i == j) = false := by simpa using h5
  go_enter Try.func66, Try.ntmps66
  go_wp2_with fail
  go_ret
  exact ⟨ret_bool (by simpa using h5), rfl⟩
theorem count_take {L : List Msg} {i j : Int} {a : Nat} {x : Msg} (hx : L[a]? = some x) : (rq (L.take (a + 1)) (i, j)).length = (rq (L.take a) (i, j)).length + (if x.1 = (i, j) then 1 else 0) := by
  have ha := (List.getElem?_eq_some_iff.1 hx).1
  have e := (List.getElem?_eq_some_iff.1 hx).2
  rw [rq_take_succ L _ ha, e]
set_option maxHeartbeats 2000000 in
theorem rfind_calls (h : RfS w B r v n s t L) (i j k : Int) :
    Calls Try.prog 65 #[.pointer (some ⟨r, 0, none⟩), .int .i64 i, .int .i64 j, .int .i64 k] w fun e w' => e = .returned (.int .i64 (rf L (i, j) k)) ∧ Below w.heap.size w w' := by
  obtain ⟨y0, y1, y2, y3, y4⟩ := head4 h.head
  obtain ⟨A, c, rfl, hsl⟩ := own_form h.row
  have hc := hsl.2.1
  have hcm := hsl.2.2.1
  unfold maxLen at hcm
  have HSL := Lib.hid hsl
  have H := Lib.hid h
  obtain ⟨ln, hln⟩ : ∃ ln, L.length = ln := ⟨_, rfl⟩
  have HLN := Lib.hid hln
  rw [hln] at y1 HSL hc
  clear h hsl hln
  go_enter Try.func65, Try.ntmps65
  go_wp2_with fail
  go_loopw [9, 17] (fun vn ix wr => ∃ a : Nat, a ≤ ln ∧ ix = .int .i64 a ∧ vn = .int .i64 (rq (L.take a) (i, j)).length ∧ (k < 0 ∨ ((rq (L.take a) (i, j)).length : Int) ≤ k) ∧ Below w.heap.size w wr) (fun _ ix _ => ln - (intOf ix).toNat)
  case atStart => exact ⟨0, Nat.zero_le _, rfl, rfl, by simp [rq]; omega, Below.refl _ _⟩
  case round =>
    obtain ⟨a, ha, rfl, rfl, hk, hb⟩ := hrel
    have HB := Lib.hid hb
    have HK := Lib.hid hk
    have hcl := rq_length_le (L.take a) (i, j)
    rw [List.length_take] at hcl
    obtain ⟨cn, hcn⟩ : ∃ cn, (rq (L.take a) (i, j)).length = cn := ⟨_, rfl⟩
    have HCN := Lib.hid hcn
    rw [hcn] at hcl ⊢ HK
    have hcl2 : cn ≤ a := by omega
    clear hb hk hcl hcn
    by_cases hlt : a < ln
    · obtain ⟨x, hx⟩ : ∃ x, L[a]? = some x := ⟨_, List.getElem?_eq_getElem (by rw [HLN.out]; exact hlt)⟩
      obtain ⟨ab, ao, rfl, z0, z1, z2, z3, z4⟩ := m_at (HSL.out.below HB.out) hx
      have HT := Lib.hid (count_take (i := i) (j := j) hx)
      have HX := Lib.hid hx
      obtain ⟨⟨fr, tw⟩, ⟨ms, ma, my⟩⟩ := x
      simp only at z0 z1 z2 z3 z4
      have HB2 := Lib.hid (HB.out.alloc HB.out.size (.cells #[.int .i64 fr, .int .i64 tw, .string ms, .int .i64 ma, .int .u8 my] 106))
      clear hx
      by_cases h1 : fr = i
      · by_cases h2 : tw = j
        · have he : (L[a]'(by rw [HLN.out]; exact hlt)).1 = (i, j) := by rw [(List.getElem?_eq_some_iff.1 HX.out).2, h1, h2]
          have HE := Lib.hid he
          have HT2 : Hid ((rq (L.take (a + 1)) (i, j)).length = cn + 1) := by have := HT.out; rwa [HCN.out, if_pos (by rw [h1, h2])] at this
          clear he
          by_cases hkc : (cn : Int) = k
          · have e1 : (fr == i) = true := by simpa using h1
            have e2 : (tw == j) = true := by simpa using h2
            have e3 : ((cn : Int) == k) = true := by simpa using hkc
            have HR : Hid (rf L (i, j) k = a) := by
              have h0 := rfind_at L (i, j) a (by rw [HLN.out]; exact hlt) HE.out
              rw [HCN.out] at h0
              show rf L (i, j) k = a
              rw [← hkc]
              exact rf_at h0
            clear h1 h2 hkc
            go_wp2_with fail
            go_ret
            exact ⟨ret_int HR.out.symm, HB2.out⟩
          · have e1 : (fr == i) = true := by simpa using h1
            have e2 : (tw == j) = true := by simpa using h2
            have e3 : ((cn : Int) == k) = false := by simpa using hkc
            have HK2 : Hid (k < 0 ∨ ((cn + 1 : Nat) : Int) ≤ k) := by rcases HK.out with h | h; exact .inl h; exact .inr (by omega)
            clear h1 h2 hkc
            go_wp2_with fail
            go_roundw
            case rel => exact ⟨a + 1, by omega, by go_num, by rw [HT2.out]; go_num, by rw [HT2.out]; exact HK2.out, HB2.out⟩
            case measure => simp [intOf]; omega
        · have e1 : (fr == i) = true := by simpa using h1
          have e2 : (tw == j) = false := by simpa using h2
          have HT2 : Hid ((rq (L.take (a + 1)) (i, j)).length = cn) := by have := HT.out; rwa [HCN.out, if_neg (by intro h; cases h; exact h2 rfl)] at this
          clear h1 h2
          go_wp2_with fail
          go_roundw
          case rel => exact ⟨a + 1, by omega, by go_num, by rw [HT2.out], by rw [HT2.out]; exact HK.out, HB2.out⟩
          case measure => simp [intOf]; omega
      · have e1 : (fr == i) = false := by simpa using h1
        have HT2 : Hid ((rq (L.take (a + 1)) (i, j)).length = cn) := by have := HT.out; rwa [HCN.out, if_neg (by intro h; cases h; exact h1 rfl)] at this
        clear h1
        go_wp2_with fail
        go_roundw
        case rel => exact ⟨a + 1, by omega, by go_num, by rw [HT2.out], by rw [HT2.out]; exact HK.out, HB2.out⟩
        case measure => simp [intOf]; omega
    · have HR : Hid (rf L (i, j) k = -1) := by
        have h0 := HCN.out
        rw [List.take_of_length_le (by rw [HLN.out]; omega)] at h0
        have h1 := HK.out
        exact rf_neg (by rw [h0]; exact h1)
      go_wp2_with fail
      go_ret
      exact ⟨ret_int HR.out.symm, HB.out⟩
set_option maxHeartbeats 2000000 in
theorem rcount_calls (h : RfS w B r v n s t L) (i j : Int) :
    Calls Try.prog 40 #[.pointer (some ⟨r, 0, none⟩), .int .i64 i, .int .i64 j] w fun e w' => e = .returned (.int .i64 (rq L (i, j)).length) ∧ Below w.heap.size w w' := by
  obtain ⟨y0, y1, y2, y3, y4⟩ := head4 h.head
  obtain ⟨A, c, rfl, hsl⟩ := own_form h.row
  have hc := hsl.2.1
  have hcm := hsl.2.2.1
  unfold maxLen at hcm
  have HSL := Lib.hid hsl
  have H := Lib.hid h
  obtain ⟨ln, hln⟩ : ∃ ln, L.length = ln := ⟨_, rfl⟩
  have HLN := Lib.hid hln
  rw [hln] at y1 HSL hc
  clear h hsl hln
  go_enter Try.func40, Try.ntmps40
  go_wp2_with fail
  go_loopw [7, 15] (fun vn ix wr => ∃ a : Nat, a ≤ ln ∧ ix = .int .i64 a ∧ vn = .int .i64 (rq (L.take a) (i, j)).length ∧ Below w.heap.size w wr) (fun _ ix _ => ln - (intOf ix).toNat)
  case atStart => exact ⟨0, Nat.zero_le _, rfl, rfl, Below.refl _ _⟩
  case round =>
    obtain ⟨a, ha, rfl, rfl, hb⟩ := hrel
    have HB := Lib.hid hb
    have hcl := rq_length_le (L.take a) (i, j)
    rw [List.length_take] at hcl
    obtain ⟨cn, hcn⟩ : ∃ cn, (rq (L.take a) (i, j)).length = cn := ⟨_, rfl⟩
    have HCN := Lib.hid hcn
    rw [hcn] at hcl ⊢
    have hcl2 : cn ≤ a := by omega
    clear hb hcl hcn
    by_cases hlt : a < ln
    · obtain ⟨x, hx⟩ : ∃ x, L[a]? = some x := ⟨_, List.getElem?_eq_getElem (by rw [HLN.out]; exact hlt)⟩
      obtain ⟨ab, ao, rfl, z0, z1, z2, z3, z4⟩ := m_at (HSL.out.below HB.out) hx
      have HT := Lib.hid (count_take (i := i) (j := j) hx)
      obtain ⟨⟨fr, tw⟩, ⟨ms, ma, my⟩⟩ := x
      simp only at z0 z1 z2 z3 z4
      have HB2 := Lib.hid (HB.out.alloc HB.out.size (.cells #[.int .i64 fr, .int .i64 tw, .string ms, .int .i64 ma, .int .u8 my] 106))
      clear hx
      by_cases h1 : fr = i
      · by_cases h2 : tw = j
        · have HT2 : Hid ((rq (L.take (a + 1)) (i, j)).length = cn + 1) := by have := HT.out; rwa [HCN.out, if_pos (by rw [h1, h2])] at this
          have e1 : (fr == i) = true := by simpa using h1
          have e2 : (tw == j) = true := by simpa using h2
          clear h1 h2
          go_wp2_with fail
          go_roundw
          case rel => exact ⟨a + 1, by omega, by go_num, by rw [HT2.out]; go_num, HB2.out⟩
          case measure => simp [intOf]; omega
        · have e1 : (fr == i) = true := by simpa using h1
          have e2 : (tw == j) = false := by simpa using h2
          have HT2 : Hid ((rq (L.take (a + 1)) (i, j)).length = cn) := by have := HT.out; rwa [HCN.out, if_neg (by intro h; cases h; exact h2 rfl)] at this
          clear h1 h2
          go_wp2_with fail
          go_roundw
          case rel => exact ⟨a + 1, by omega, by go_num, by rw [HT2.out], HB2.out⟩
          case measure => simp [intOf]; omega
      · have e1 : (fr == i) = false := by simpa using h1
        have HT2 : Hid ((rq (L.take (a + 1)) (i, j)).length = cn) := by have := HT.out; rwa [HCN.out, if_neg (by intro h; cases h; exact h1 rfl)] at this
        clear h1
        go_wp2_with fail
        go_roundw
        case rel => exact ⟨a + 1, by omega, by go_num, by rw [HT2.out], HB2.out⟩
        case measure => simp [intOf]; omega
    · have HR : Hid ((cn : Int) = (rq L (i, j)).length) := by
        have h0 := HCN.out
        rw [List.take_of_length_le (by rw [HLN.out]; omega)] at h0
        show (cn : Int) = (rq L (i, j)).length
        rw [h0]
      go_wp2_with fail
      go_ret
      exact ⟨ret_int HR.out, HB.out⟩
end Ref
end Go.Proofs.Ytdmpgoaemoiogaa
