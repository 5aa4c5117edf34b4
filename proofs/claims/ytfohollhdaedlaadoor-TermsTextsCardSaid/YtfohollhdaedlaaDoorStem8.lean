/- The walks: stem.Stem. Written by stem8.py. -/
import Derived.Test.YtfohollhdaedlaaDoorStem7
set_option linter.unusedVariables false
set_option linter.unusedSimpArgs false
set_option maxRecDepth 100000
namespace Go.Proofs.YtfohollhdaedlaaDoor
open Go.RowKit
namespace Stem
/-- What a word is looked for by: what is left to do behind each step. -/
def rest2 (x : ByteArray) : ByteArray := if plainF x then otherF x else x
def rest1 (x : ByteArray) : ByteArray := if plainF x then rest2 (pastF x) else x
def stemF (x : ByteArray) : ByteArray := if plainF x then rest1 (pluralF x) else x
def restN (i : Nat) (x : ByteArray) : ByteArray := if i = 0 then stemF x else if i = 1 then rest1 x else if i = 2 then rest2 x else x
theorem less_size (s : ByteArray) (n : Nat) : (less s n).size = s.size - n := by rw [less, ByteArray.size_extract]; omega
theorem plural_size (s : ByteArray) : (pluralF s).size ≤ s.size := by
  unfold pluralF
  repeat' split
  · rw [less_size]; omega
  · rename_i h
    rw [Bool.and_eq_true, decide_eq_true_eq] at h
    rw [ByteArray.size_append, less_size, show tY.size = 1 from rfl]; omega
  · exact Nat.le_refl _
  · exact Nat.le_refl _
  · exact Nat.le_refl _
  · rw [less_size]; omega
  · exact Nat.le_refl _
theorem twin_size (s : ByteArray) : (twinF s).size ≤ s.size := by
  unfold twinF; split
  · rw [less_size]; omega
  · exact Nat.le_refl _
theorem past_size (s : ByteArray) : (pastF s).size ≤ s.size := by
  unfold pastF; repeat' split
  · have := twin_size (less s 3); rw [less_size] at this; omega
  · have := twin_size (less s 2); rw [less_size] at this; omega
  · exact Nat.le_refl _
theorem otherL_size (s : ByteArray) : ∀ l : List (ByteArray × ByteArray), (∀ x ∈ l, x.2.size ≤ x.1.size) → (otherL l s).size ≤ s.size
  | [], _ => Nat.le_refl _
  | x :: r, h => by
    unfold otherL; split
    · rename_i hc
      rw [Bool.and_eq_true] at hc
      have := suf_le hc.1
      have := h x (List.mem_cons_self ..)
      rw [ByteArray.size_append, less_size]; omega
    · exact otherL_size s r fun y hy => h y (List.mem_cons_of_mem _ hy)
theorem other_size (s : ByteArray) : (otherF s).size ≤ s.size := otherL_size s endsTab (by decide)
theorem rest2_size (s : ByteArray) : (rest2 s).size ≤ s.size := by
  unfold rest2; split
  · exact other_size s
  · exact Nat.le_refl _
theorem rest1_size (s : ByteArray) : (rest1 s).size ≤ s.size := by
  unfold rest1; split
  · exact Nat.le_trans (rest2_size _) (past_size s)
  · exact Nat.le_refl _
theorem stem_size (s : ByteArray) : (stemF s).size ≤ s.size := by
  unfold stemF; split
  · exact Nat.le_trans (rest1_size _) (plural_size s)
  · exact Nat.le_refl _

set_option maxHeartbeats 2000000 in
theorem stem_calls (s : ByteArray) (hs : s.size ≤ 140737488351232) (w : World) (hL : LaidE w) :
    Calls Tryd.prog 51 #[.string s] w fun e w' => e = .returned (.string (stemF s)) ∧ Below w.heap.size w w' := by
  have HL := Lib.hid hL
  clear hL
  go_enter Tryd.func51, Tryd.ntmps51
  go_wp2_with fail
  have hb1 : Below w.heap.size w (w.alloc (.cells #[.int .i64 1, .int .i64 2, .int .i64 3] 3 (0, 0))) := (Below.refl _ _).alloc (Nat.le_refl _) _
  have hz : (w.alloc (.cells #[.int .i64 1, .int .i64 2, .int .i64 3] 3 (0, 0))).heap[w.heap.size]? = some (.cells #[.int .i64 1, .int .i64 2, .int .i64 3] 3 (0, 0)) := heap_alloc_new _ _
  have HB1 := Lib.hid hb1
  have HZ := Lib.hid hz
  have hs1 := hb1.size
  have hlt := (Array.getElem?_eq_some_iff.1 hz).1
  clear hb1 hz
  generalize (w.alloc (.cells #[.int .i64 1, .int .i64 2, .int .i64 3] 3 (0, 0))) = w1 at *
  generalize hg : w.heap.size = g at *
  go_loopw [0, 7] (fun v ix wr => ∃ (i : Nat) (x : ByteArray), i ≤ 3 ∧ ix = .int .i64 i ∧ v = .string x ∧ x.size ≤ s.size ∧ Hid (restN i x = stemF s) ∧ Below w1.heap.size w1 wr) (fun _ ix _ => 3 - (intOf ix).toNat)
  case atStart => exact ⟨0, s, by decide, rfl, rfl, Nat.le_refl _, rfl, Below.refl _ _⟩
  case round =>
    obtain ⟨i, x, hi, rfl, rfl, hxs, HV, hb⟩ := hrel
    have HB := Lib.hid hb
    have hv1 : wr.heap[g]? = some (.cells #[.int .i64 1, .int .i64 2, .int .i64 3] 3 (0, 0)) := by rw [hb.block _ hlt]; exact HZ.out
    have hc0 : wr.cell? ⟨g, 0, none⟩ = some (.int .i64 1) := by simp [World.cell?, hv1]
    have hc1 : wr.cell? ⟨g, 1, none⟩ = some (.int .i64 2) := by simp [World.cell?, hv1]
    have hc2 : wr.cell? ⟨g, 2, none⟩ = some (.int .i64 3) := by simp [World.cell?, hv1]
    have HBB : Hid (Below g w wr) := HB1.out.trans (hb.mono (by omega))
    have hbs := hb.size
    clear hb hv1
    have hii : i = 0 ∨ i = 1 ∨ i = 2 ∨ i = 3 := by omega
    rcases hii with rfl | rfl | rfl | rfl
    · have hne : plainF x = true → restN 1 (pluralF x) = stemF s := fun hp => by
        have h := HV.out
        show _ = _
        rw [← h]
        show restN 1 (pluralF x) = stemF x
        rw [stemF, hp]; rfl
      cases hp : plainF x
      · have hv : stemF s = x := by 
            have h := HV.out
            rw [← h]
            show stemF x = x
            rw [stemF, hp]; rfl
        have HX := Lib.hid hv
        clear hv hne
        go_wp2_with fail
        refine (plain_calls x (by omega) _).mono ?_
        rw [hp]
        rintro e w2 ⟨rfl, hb2⟩
        go_wp2_with fail
        go_ret
        exact ⟨ret_string HX.out.symm, by rw [hg]; exact HBB.out.trans (hb2.mono (by omega))⟩
      · have HX := Lib.hid (hne hp)
        have hsz := Nat.le_trans (plural_size x) hxs
        clear hne
        go_wp2_with fail
        refine (plain_calls x (by omega) _).mono ?_
        rw [hp]
        rintro e w2 ⟨rfl, hb2⟩
        have HB2 := Lib.hid (HB.out.trans (hb2.mono HB.out.size))
        have HBW := Lib.hid (HBB.out.trans (hb2.mono (by omega)))
        clear hb2
        go_wp2_with fail
        refine (plural_calls x (by omega) _).mono ?_
        rintro e w3 ⟨rfl, rfl⟩
        go_wp2_with fail
        go_roundw
        case rel => exact ⟨1, _, by decide, rfl, rfl, hsz, HX.out, HB2.out⟩
        case measure => simp [intOf]
    · have hne : plainF x = true → restN 2 (pastF x) = stemF s := fun hp => by
        have h := HV.out
        show _ = _
        rw [← h]
        show restN 2 (pastF x) = rest1 x
        rw [rest1, hp]; rfl
      cases hp : plainF x
      · have hv : stemF s = x := by 
            have h := HV.out
            rw [← h]
            show rest1 x = x
            rw [rest1, hp]; rfl
        have HX := Lib.hid hv
        clear hv hne
        go_wp2_with fail
        refine (plain_calls x (by omega) _).mono ?_
        rw [hp]
        rintro e w2 ⟨rfl, hb2⟩
        go_wp2_with fail
        go_ret
        exact ⟨ret_string HX.out.symm, by rw [hg]; exact HBB.out.trans (hb2.mono (by omega))⟩
      · have HX := Lib.hid (hne hp)
        have hsz := Nat.le_trans (past_size x) hxs
        clear hne
        go_wp2_with fail
        refine (plain_calls x (by omega) _).mono ?_
        rw [hp]
        rintro e w2 ⟨rfl, hb2⟩
        have HB2 := Lib.hid (HB.out.trans (hb2.mono HB.out.size))
        have HBW := Lib.hid (HBB.out.trans (hb2.mono (by omega)))
        clear hb2
        go_wp2_with fail
        refine (past_calls x (by omega) _).mono ?_
        rintro e w3 ⟨rfl, hb3⟩
        go_wp2_with fail
        go_roundw
        case rel => exact ⟨2, _, by decide, rfl, rfl, hsz, HX.out, HB2.out.trans (hb3.mono (HB2.out.size))⟩
        case measure => simp [intOf]
    · have hne : plainF x = true → restN 3 (otherF x) = stemF s := fun hp => by
        have h := HV.out
        show _ = _
        rw [← h]
        show restN 3 (otherF x) = rest2 x
        rw [rest2, hp]; rfl
      cases hp : plainF x
      · have hv : stemF s = x := by 
            have h := HV.out
            rw [← h]
            show rest2 x = x
            rw [rest2, hp]; rfl
        have HX := Lib.hid hv
        clear hv hne
        go_wp2_with fail
        refine (plain_calls x (by omega) _).mono ?_
        rw [hp]
        rintro e w2 ⟨rfl, hb2⟩
        go_wp2_with fail
        go_ret
        exact ⟨ret_string HX.out.symm, by rw [hg]; exact HBB.out.trans (hb2.mono (by omega))⟩
      · have HX := Lib.hid (hne hp)
        have hsz := Nat.le_trans (other_size x) hxs
        clear hne
        go_wp2_with fail
        refine (plain_calls x (by omega) _).mono ?_
        rw [hp]
        rintro e w2 ⟨rfl, hb2⟩
        have HB2 := Lib.hid (HB.out.trans (hb2.mono HB.out.size))
        have HBW := Lib.hid (HBB.out.trans (hb2.mono (by omega)))
        clear hb2
        go_wp2_with fail
        refine (other_calls x (by omega) _ (HL.out.below (by rw [hg]; exact HBW.out))).mono ?_
        rintro e w3 ⟨rfl, hb3⟩
        go_wp2_with fail
        go_roundw
        case rel => exact ⟨3, _, by decide, rfl, rfl, hsz, HX.out, HB2.out.trans (hb3.mono (HB2.out.size))⟩
        case measure => simp [intOf]
    · have hv : stemF s = x := HV.out.symm
      have HX := Lib.hid hv
      clear hv
      go_wp2_with fail
      go_ret
      exact ⟨ret_string HX.out.symm, by rw [hg]; exact HBB.out⟩
end Stem
end Go.Proofs.YtfohollhdaedlaaDoor
