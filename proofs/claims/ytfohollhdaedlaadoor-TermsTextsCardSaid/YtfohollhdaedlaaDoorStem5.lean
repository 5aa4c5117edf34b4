/- The walks: stem.past. Written by stem5.py. -/
import Derived.Test.YtfohollhdaedlaaDoorStem4
set_option linter.unusedVariables false
set_option linter.unusedSimpArgs false
set_option maxRecDepth 100000
namespace Go.Proofs.YtfohollhdaedlaaDoor
open Go.RowKit
namespace Stem
abbrev tIng : ByteArray := { data := #[105, 110, 103] }
abbrev tEd : ByteArray := { data := #[101, 100] }
/-- Does an end go: three letters are left, and a vowel? -/
def gone (s e : ByteArray) : Bool := suf s e && decide (3 ≤ (less s e.size).size) && vowelsF (less s e.size)
theorem gone_k (s e : ByteArray) (k : Nat) (hk : e.size = k) : gone s e = (suf s e && decide (3 ≤ (less s k).size) && vowelsF (less s k)) := by subst hk; rfl
def pastF (s : ByteArray) : ByteArray := if gone s tIng then twinF (less s 3) else if gone s tEd then twinF (less s 2) else s

set_option maxHeartbeats 2000000 in
theorem past_calls (s : ByteArray) (hs : s.size ≤ 140737488351232) (w : World) :
    Calls Tryd.prog 93 #[.string s] w fun e w' => e = .returned (.string (pastF s)) ∧ Below w.heap.size w w' := by
  go_enter Tryd.func93, Tryd.ntmps93
  go_wp2_with fail
  have hb1 : Below w.heap.size w (w.alloc (.cells #[.string tIng, .string tEd] 9 (0, 0))) := (Below.refl _ _).alloc (Nat.le_refl _) _
  have hz : (w.alloc (.cells #[.string tIng, .string tEd] 9 (0, 0))).heap[w.heap.size]? = some (.cells #[.string tIng, .string tEd] 9 (0, 0)) := heap_alloc_new _ _
  have HB1 := Lib.hid hb1
  have HZ := Lib.hid hz
  have hs1 := hb1.size
  have hlt := (Array.getElem?_eq_some_iff.1 hz).1
  clear hb1 hz
  generalize (w.alloc (.cells #[.string tIng, .string tEd] 9 (0, 0))) = w1 at *
  generalize hg : w.heap.size = g at *
  go_loopw [9] (fun ix wr => ∃ i : Nat, i ≤ 2 ∧ ix = .int .i64 i ∧ Hid ((1 ≤ i → gone s tIng = false) ∧ (2 ≤ i → gone s tEd = false)) ∧ Below w1.heap.size w1 wr) (fun ix _ => 2 - (intOf ix).toNat)
  case atStart => exact ⟨0, by decide, rfl, ⟨fun h => absurd h (by decide), fun h => absurd h (by decide)⟩, Below.refl _ _⟩
  case round =>
    obtain ⟨i, hi, rfl, HG, hb⟩ := hrel
    have HB := Lib.hid hb
    have hv1 : wr.heap[g]? = some (.cells #[.string tIng, .string tEd] 9 (0, 0)) := by rw [hb.block _ hlt]; exact HZ.out
    have hc0 : wr.cell? ⟨g, 0, none⟩ = some (.string tIng) := by simp [World.cell?, hv1]
    have hc1 : wr.cell? ⟨g, 1, none⟩ = some (.string tEd) := by simp [World.cell?, hv1]
    have HBB : Hid (Below g w wr) := HB1.out.trans (hb.mono (by omega))
    have hbs := hb.size
    clear hb hv1
    have hii : i = 0 ∨ i = 1 ∨ i = 2 := by omega
    rcases hii with rfl | rfl | rfl
    · have c1 := fun W => cutSuffix_calls s tIng hs (by decide) W
      cases h1 : suf s tIng
      · have HN : Hid (gone s tIng = false) := by show gone s tIng = false; rw [gone_k s tIng 3 rfl, h1]; rfl
        rw [h1] at c1
        go_wp2_with fail
        refine (c1 _).mono ?_
        rintro e w2 ⟨rfl, rfl⟩
        go_wp2_with fail
        go_roundw
        case rel => exact ⟨1, by decide, rfl, ⟨fun _ => HN.out, fun h => absurd h (by decide)⟩, HB.out⟩
        case measure => simp [intOf]
      · have hle := suf_le h1
        have hls : (less s 3).size = s.size - 3 := by rw [less, ByteArray.size_extract]; omega
        have c2 : ∀ W, Calls Tryd.prog 38 #[.string s, .string tIng] W fun e w' => e = .returned (.tuple #[.string (less s 3), .bool true]) ∧ w' = W := fun W => by
          have := c1 W
          rw [h1] at this
          exact this
        clear c1
        by_cases h3 : 3 ≤ (less s 3).size
        · have h3' : (3 : Int) ≤ (less s 3).size := by omega
          have hlim : (less s 3).size ≤ 140737488351232 := by omega
          cases h4 : vowelsF (less s 3)
          · have HN : Hid (gone s tIng = false) := by show gone s tIng = false; rw [gone_k s tIng 3 rfl, h4, Bool.and_false]
            generalize hq : less s 3 = q at *
            go_wp2_with fail
            refine (c2 _).mono ?_
            rintro e w2 ⟨rfl, rfl⟩
            go_wp2_with fail
            refine (vowels_calls q hlim _).mono ?_
            rw [h4]
            rintro e w3 ⟨rfl, hb3⟩
            have HB3 := Lib.hid (HB.out.trans (hb3.mono HB.out.size))
            have HBW := Lib.hid (HBB.out.trans (hb3.mono (by omega)))
            clear hb3
            go_wp2_with fail
            go_roundw
            case rel => exact ⟨1, by decide, rfl, ⟨fun _ => HN.out, fun h => absurd h (by decide)⟩, HB3.out⟩
            case measure => simp [intOf]
          · have hv : pastF s = twinF (less s 3) := by rw [pastF, if_pos (by rw [gone_k s tIng 3 rfl, h1, h4, decide_eq_true h3]; rfl)]
            have HV := Lib.hid hv
            clear hv
            generalize hq : less s 3 = q at *
            go_wp2_with fail
            refine (c2 _).mono ?_
            rintro e w2 ⟨rfl, rfl⟩
            go_wp2_with fail
            refine (vowels_calls q hlim _).mono ?_
            rw [h4]
            rintro e w3 ⟨rfl, hb3⟩
            have HBW := Lib.hid (HBB.out.trans (hb3.mono (by omega)))
            clear hb3
            go_wp2_with fail
            refine (twin_calls q (by omega) hlim _).mono ?_
            rintro e w4 ⟨rfl, hb4⟩
            go_wp2_with fail
            go_ret
            exact ⟨ret_string HV.out.symm, by rw [hg]; exact HBW.out.trans (hb4.mono (by have := HBW.out.size; omega))⟩
        · have h3' : ((less s 3).size : Int) < 3 := by omega
          have HN : Hid (gone s tIng = false) := by show gone s tIng = false; rw [gone_k s tIng 3 rfl, decide_eq_false h3]; simp
          generalize hq : less s 3 = q at *
          go_wp2_with fail
          refine (c2 _).mono ?_
          rintro e w2 ⟨rfl, rfl⟩
          go_wp2_with fail
          go_roundw
          case rel => exact ⟨1, by decide, rfl, ⟨fun _ => HN.out, fun h => absurd h (by decide)⟩, HB.out⟩
          case measure => simp [intOf]
    · have c1 := fun W => cutSuffix_calls s tEd hs (by decide) W
      cases h1 : suf s tEd
      · have HN : Hid (gone s tEd = false) := by show gone s tEd = false; rw [gone_k s tEd 2 rfl, h1]; rfl
        rw [h1] at c1
        go_wp2_with fail
        refine (c1 _).mono ?_
        rintro e w2 ⟨rfl, rfl⟩
        go_wp2_with fail
        go_roundw
        case rel => exact ⟨2, by decide, rfl, ⟨fun _ => HG.out.1 (by decide), fun _ => HN.out⟩, HB.out⟩
        case measure => simp [intOf]
      · have hle := suf_le h1
        have hls : (less s 2).size = s.size - 2 := by rw [less, ByteArray.size_extract]; omega
        have c2 : ∀ W, Calls Tryd.prog 38 #[.string s, .string tEd] W fun e w' => e = .returned (.tuple #[.string (less s 2), .bool true]) ∧ w' = W := fun W => by
          have := c1 W
          rw [h1] at this
          exact this
        clear c1
        by_cases h3 : 3 ≤ (less s 2).size
        · have h3' : (3 : Int) ≤ (less s 2).size := by omega
          have hlim : (less s 2).size ≤ 140737488351232 := by omega
          cases h4 : vowelsF (less s 2)
          · have HN : Hid (gone s tEd = false) := by show gone s tEd = false; rw [gone_k s tEd 2 rfl, h4, Bool.and_false]
            generalize hq : less s 2 = q at *
            go_wp2_with fail
            refine (c2 _).mono ?_
            rintro e w2 ⟨rfl, rfl⟩
            go_wp2_with fail
            refine (vowels_calls q hlim _).mono ?_
            rw [h4]
            rintro e w3 ⟨rfl, hb3⟩
            have HB3 := Lib.hid (HB.out.trans (hb3.mono HB.out.size))
            have HBW := Lib.hid (HBB.out.trans (hb3.mono (by omega)))
            clear hb3
            go_wp2_with fail
            go_roundw
            case rel => exact ⟨2, by decide, rfl, ⟨fun _ => HG.out.1 (by decide), fun _ => HN.out⟩, HB3.out⟩
            case measure => simp [intOf]
          · have hv : pastF s = twinF (less s 2) := by rw [pastF, if_neg (by rw [HG.out.1 (by decide)]; simp), if_pos (by rw [gone_k s tEd 2 rfl, h1, h4, decide_eq_true h3]; rfl)]
            have HV := Lib.hid hv
            clear hv
            generalize hq : less s 2 = q at *
            go_wp2_with fail
            refine (c2 _).mono ?_
            rintro e w2 ⟨rfl, rfl⟩
            go_wp2_with fail
            refine (vowels_calls q hlim _).mono ?_
            rw [h4]
            rintro e w3 ⟨rfl, hb3⟩
            have HBW := Lib.hid (HBB.out.trans (hb3.mono (by omega)))
            clear hb3
            go_wp2_with fail
            refine (twin_calls q (by omega) hlim _).mono ?_
            rintro e w4 ⟨rfl, hb4⟩
            go_wp2_with fail
            go_ret
            exact ⟨ret_string HV.out.symm, by rw [hg]; exact HBW.out.trans (hb4.mono (by have := HBW.out.size; omega))⟩
        · have h3' : ((less s 2).size : Int) < 3 := by omega
          have HN : Hid (gone s tEd = false) := by show gone s tEd = false; rw [gone_k s tEd 2 rfl, decide_eq_false h3]; simp
          generalize hq : less s 2 = q at *
          go_wp2_with fail
          refine (c2 _).mono ?_
          rintro e w2 ⟨rfl, rfl⟩
          go_wp2_with fail
          go_roundw
          case rel => exact ⟨2, by decide, rfl, ⟨fun _ => HG.out.1 (by decide), fun _ => HN.out⟩, HB.out⟩
          case measure => simp [intOf]
    · have hv : pastF s = s := by rw [pastF, if_neg (by rw [HG.out.1 (by decide)]; simp), if_neg (by rw [HG.out.2 (by decide)]; simp)]
      go_wp2_with fail
      go_ret
      exact ⟨ret_string hv.symm, by rw [hg]; exact HBB.out⟩
end Stem
end Go.Proofs.YtfohollhdaedlaaDoor
