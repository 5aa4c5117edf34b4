/- The walks: stem.Stop, stem.other (the listed tables). -/
import Derived.Test.YtfohollhdaedlaaDoorStem5
set_option linter.unusedVariables false
set_option linter.unusedSimpArgs false
set_option maxRecDepth 100000
namespace Go.Proofs.YtfohollhdaedlaaDoor
open Go.RowKit
namespace Stem
/-- The tables, as the program's text lays them. -/
def shortTab : List ByteArray := [⟨#[97]⟩, ⟨#[97, 110]⟩, ⟨#[97, 110, 100]⟩, ⟨#[97, 115]⟩, ⟨#[97, 116]⟩, ⟨#[98, 101]⟩, ⟨#[98, 121]⟩, ⟨#[102, 111, 114]⟩, ⟨#[105, 110]⟩, ⟨#[105, 115]⟩, ⟨#[105, 116]⟩, ⟨#[111, 102]⟩, ⟨#[111, 110]⟩, ⟨#[111, 114]⟩, ⟨#[116, 104, 101]⟩, ⟨#[116, 111]⟩]
def endsTab : List (ByteArray × ByteArray) := [(⟨#[105, 122, 97, 116, 105, 111, 110]⟩, ⟨#[105, 122, 101]⟩), (⟨#[97, 116, 105, 111, 110]⟩, ⟨#[97, 116, 101]⟩), (⟨#[102, 117, 108, 108, 121]⟩, ⟨#[102, 117, 108]⟩), (⟨#[110, 101, 115, 115]⟩, ⟨#[]⟩), (⟨#[109, 101, 110, 116]⟩, ⟨#[]⟩), (⟨#[97, 108, 108, 121]⟩, ⟨#[97, 108]⟩), (⟨#[108, 121]⟩, ⟨#[]⟩)]
def shortCells : Array Value := (shortTab.map Value.string).toArray
def endsCells : Array Value := ((endsTab.map fun x => [Value.string x.1, .string x.2]).flatten).toArray
def LaidS (w : World) : Prop := ∃ t, w.heap[1]? = some (.cells shortCells t (0, 0))
def LaidE (w : World) : Prop := ∃ t, w.heap[2]? = some (.cells endsCells t (0, 0))
theorem LaidS.below {w w' : World} (h : LaidS w) (hb : Below w.heap.size w w') : LaidS w' := by
  obtain ⟨t, h⟩ := h
  exact ⟨t, by rw [hb.block _ (Array.getElem?_eq_some_iff.1 h).1]; exact h⟩
theorem LaidE.below {w w' : World} (h : LaidE w) (hb : Below w.heap.size w w') : LaidE w' := by
  obtain ⟨t, h⟩ := h
  exact ⟨t, by rw [hb.block _ (Array.getElem?_eq_some_iff.1 h).1]; exact h⟩
theorem shortIdx (W : World) (k : Nat) (hk : k < 16) : (Instr.index 119 (.agg shortCells) (.int .i64 (k : Nat))).run Tryd.prog W = .ok (.string (shortTab.getD k ⟨#[]⟩)) W := by
  have h : k = 0 ∨ k = 1 ∨ k = 2 ∨ k = 3 ∨ k = 4 ∨ k = 5 ∨ k = 6 ∨ k = 7 ∨ k = 8 ∨ k = 9 ∨ k = 10 ∨ k = 11 ∨ k = 12 ∨ k = 13 ∨ k = 14 ∨ k = 15 := by omega
  clear hk
  rcases h with rfl | rfl | rfl | rfl | rfl | rfl | rfl | rfl | rfl | rfl | rfl | rfl | rfl | rfl | rfl | rfl <;> (show _ = _; kernel_rfl)
def stopF (s : ByteArray) : Bool := shortTab.any fun x => decide (s = x)
theorem stopF_true {s : ByteArray} {k : Nat} (hk : k < 16) (h : s = shortTab.getD k ⟨#[]⟩) : stopF s = true := by
  rw [stopF, List.any_eq_true]
  refine ⟨s, ?_, by simp⟩
  rw [h, List.getD_eq_getElem?_getD, List.getElem?_eq_getElem (show k < shortTab.length from hk)]
  exact List.getElem_mem _
theorem stopF_false {s : ByteArray} (h : ∀ j, j < 16 → s ≠ shortTab.getD j ⟨#[]⟩) : stopF s = false := by
  rw [stopF, List.any_eq_false]
  intro x hx hc
  obtain ⟨j, hj, rfl⟩ := List.getElem_of_mem hx
  refine h j hj ?_
  rw [List.getD_eq_getElem?_getD, List.getElem?_eq_getElem hj]
  simpa using hc
theorem infoShort : (Tryd.prog.info? 119).map (·.size) = some 16 := by kernel_rfl
theorem shortSize : shortCells.size = 16 := by decide
theorem eq_str (s x : ByteArray) (h : s ≠ x) : (s.toList == x.toList) = false := by rw [toList_beq]; simp [h]

set_option maxHeartbeats 1000000 in
theorem stop_calls (s : ByteArray) (w : World) (hL : LaidS w) :
    Calls Tryd.prog 50 #[.string s] w fun e w' => e = .returned (.bool (stopF s)) ∧ w' = w := by
  obtain ⟨t, ht⟩ := hL
  have HT := Lib.hid ht
  clear ht
  go_enter Tryd.func50, Tryd.ntmps50
  go_wp2_with (with_reducible refine wpList_load_row rfl 119 (.global 1) rfl 1 rfl t shortCells (0, 0) _ HT.out Tryd.underlying119 rfl (by rw [infoShort, shortSize]) ?_)
  go_loopw [6] (fun ix wr => ∃ k : Nat, k ≤ 16 ∧ ix = .int .i64 k ∧ Hid (∀ j, j < k → s ≠ shortTab.getD j ⟨#[]⟩) ∧ w = wr) (fun ix _ => 16 - (intOf ix).toNat)
  case atStart => exact ⟨0, Nat.zero_le _, rfl, fun j hj => absurd hj (Nat.not_lt_zero j), rfl⟩
  case round =>
    obtain ⟨k, hk, rfl, HV, rfl⟩ := hrel
    by_cases hlt : k < 16
    · have hidx := fun W => shortIdx W k hlt
      have HQ : Hid (s = shortTab.getD k ⟨#[]⟩ → stopF s = true) := fun h => stopF_true hlt h
      have HN : Hid (s ≠ shortTab.getD k ⟨#[]⟩ → ∀ j, j < k + 1 → s ≠ shortTab.getD j ⟨#[]⟩) := fun h j hj => by
        rcases Nat.lt_or_ge j k with h3 | h3
        · exact HV.out j h3
        · obtain rfl : j = k := by omega
          exact h
      generalize shortTab.getD k ⟨#[]⟩ = x at hidx HQ HN
      by_cases hx : s = x
      · have HZ := Lib.hid (HQ.out hx)
        subst hx
        go_wp2_with fail
        go_ret
        exact ⟨ret_bool HZ.out.symm, rfl⟩
      · have hne := eq_str s x hx
        have HN2 : Hid (∀ j, j < k + 1 → s ≠ shortTab.getD j ⟨#[]⟩) := HN.out hx
        clear hx
        go_wp2_with fail
        go_roundw
        case rel => exact ⟨k + 1, by omega, by go_num, HN2.out, trivial⟩
        case measure => simp [intOf]; omega
    · have HZ := Lib.hid (stopF_false (s := s) fun j hj => HV.out j (by omega))
      go_wp2_with fail
      go_ret
      exact ⟨ret_bool HZ.out.symm, rfl⟩
end Stem
end Go.Proofs.YtfohollhdaedlaaDoor
