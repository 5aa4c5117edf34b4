/- The law UtfLibrary, under the library's tables. -/
import Derived.Test.YtonhlgidfgogiaaDoorUtfW3
import Derived.Test.YtonhlgidfgogiaaDoorUtfDec
import Derived.Test.YtonhlgidfgogiaaDoorUtfShelf
set_option linter.unusedVariables false
set_option linter.unusedSimpArgs false
set_option maxRecDepth 100000
namespace Go.Proofs.YtonhlgidfgogiaaDoor
open Go.RowKit Go.Shelf
namespace Utf
def Tabs (w : World) : Prop := Lib.Utf8Tabs (rho.g 3) (rho.g 4) w
theorem Tabs.below {w w' : World} (h : Tabs w) (hb : Below w.heap.size w w') : Tabs w' := Utf8Tabs_below h hb
theorem libValid_calls (s : ByteArray) (hs : s.size ≤ 140737488351232) (w : World) (hT : Tabs w) :
    Calls Tryd.prog 42 #[.string s] w fun e w' => e = .returned (.bool (validF s 0)) ∧ Below w.heap.size w w' := by
  have h := Any.utf8_ValidString valid_lays s w (by omega) hT
  rw [valid_all] at h
  exact h
theorem libCount_calls (s : ByteArray) (hs : s.size ≤ 140737488351232) (w : World) :
    Calls Tryd.prog 43 #[.string s] w fun e w' => e = .returned (.int .i64 (countF s 0 : Nat)) ∧ Below w.heap.size w w' := by
  have h := Any.utf8_RuneCountInString count_lays s w (by omega)
  rw [runeCount_all] at h
  refine Calls.mono h ?_
  rintro e w' ⟨rfl, pos, rfl⟩
  exact ⟨rfl, (Below.refl _ _).alloc (Nat.le_refl _) _⟩
set_option maxHeartbeats 1000000 in
theorem library_proof (w : World) (hT : Tabs w) (s : ByteArray) (hs : s.size ≤ 140737488351232) :
    Calls Tryd.prog 10 #[.string s] w fun e w' => e = .returned (.bool true) ∧ Below w.heap.size w w' := by
  have HT := Lib.hid hT
  clear hT
  by_cases hl : 4096 < s.size
  · have hl' : (4096 : Int) < s.size := by omega
    go_enter Tryd.func10, Tryd.ntmps10
    go_wp2_with fail
    refine (awake_calls _).mono ?_
    rintro e w1 ⟨rfl, hb1⟩
    go_wp2_with fail
    go_ret
    exact ⟨rfl, hb1⟩
  · have hl' : (s.size : Int) ≤ 4096 := by omega
    have c1 := fun W => valid_calls s hs W
    have c2 := fun W h => libValid_calls s hs W h
    have c3 := fun W => count_calls s hs W
    have c4 := fun W => libCount_calls s hs W
    generalize validF s 0 = b at *
    generalize countF s 0 = n at *
    go_enter Tryd.func10, Tryd.ntmps10
    go_wp2_with fail
    refine (c1 _).mono ?_
    rintro e w1 ⟨rfl, hb⟩
    have HB1 := Lib.hid hb
    clear hb
    go_wp2_with fail
    refine (c2 _ (HT.out.below HB1.out)).mono ?_
    rintro e w2 ⟨rfl, hb⟩
    have HB2 : Hid (Below w.heap.size w w2) := below_next HB1.out hb
    clear hb
    go_wp2_with fail
    refine (c3 _).mono ?_
    rintro e w3 ⟨rfl, hb⟩
    have HB3 : Hid (Below w.heap.size w w3) := below_next HB2.out hb
    clear hb
    go_wp2_with fail
    refine (c4 _).mono ?_
    rintro e w4 ⟨rfl, hb⟩
    have HB4 : Hid (Below w.heap.size w w4) := below_next HB3.out hb
    clear hb
    go_wp2_with fail
    refine (awake_calls _).mono ?_
    rintro e w5 ⟨rfl, hb⟩
    go_wp2_with fail
    go_ret
    exact ⟨rfl, below_next HB4.out hb⟩
end Utf
end Go.Proofs.YtonhlgidfgogiaaDoor
