/- The walks: stem.other. -/
import Derived.Test.YtfohollhdaedlaaDoorStem6
set_option linter.unusedVariables false
set_option linter.unusedSimpArgs false
set_option maxRecDepth 100000
namespace Go.Proofs.YtfohollhdaedlaaDoor
open Go.RowKit
namespace Stem
def otherL : List (ByteArray × ByteArray) → ByteArray → ByteArray
  | [], s => s
  | x :: r, s => if suf s x.1 && decide (3 ≤ (less s x.1.size).size) then less s x.1.size ++ x.2 else otherL r s
def otherF (s : ByteArray) : ByteArray := otherL endsTab s
abbrev noEnd : ByteArray × ByteArray := (⟨#[]⟩, ⟨#[]⟩)
theorem endsIdx (W : World) (k : Nat) (hk : k < 7) : (Instr.index 151 (.agg endsCells) (.int .i64 (k : Nat))).run Tryd.prog W = .ok (.agg #[.string (endsTab.getD k noEnd).1, .string (endsTab.getD k noEnd).2]) W := by
  have h : k = 0 ∨ k = 1 ∨ k = 2 ∨ k = 3 ∨ k = 4 ∨ k = 5 ∨ k = 6 := by omega
  clear hk
  rcases h with rfl | rfl | rfl | rfl | rfl | rfl | rfl <;> (show _ = _; kernel_rfl)
theorem ends_small (k : Nat) : (endsTab.getD k noEnd).1.size ≤ 7 ∧ (endsTab.getD k noEnd).2.size ≤ 7 := by
  by_cases h : k < 7
  · have h : k = 0 ∨ k = 1 ∨ k = 2 ∨ k = 3 ∨ k = 4 ∨ k = 5 ∨ k = 6 := by omega
    rcases h with rfl | rfl | rfl | rfl | rfl | rfl | rfl <;> decide
  · rw [List.getD_eq_getElem?_getD, List.getElem?_eq_none (show endsTab.length ≤ k by show 7 ≤ k; omega)]; decide
theorem infoEnds : (Tryd.prog.info? 151).map (·.size) = some 14 := by kernel_rfl
theorem endsSize : endsCells.size = 14 := by decide
theorem other_step (s : ByteArray) (k : Nat) (hk : k < 7) : otherL (endsTab.drop k) s = if suf s (endsTab.getD k noEnd).1 && decide (3 ≤ (less s (endsTab.getD k noEnd).1.size).size) then less s (endsTab.getD k noEnd).1.size ++ (endsTab.getD k noEnd).2 else otherL (endsTab.drop (k + 1)) s := by
  have hl : k < endsTab.length := hk
  rw [List.drop_eq_getElem_cons hl, List.getD_eq_getElem?_getD, List.getElem?_eq_getElem hl]; rfl

set_option maxHeartbeats 2000000 in
theorem other_calls (s : ByteArray) (hs : s.size ≤ 140737488351232) (w : World) (hL : LaidE w) :
    Calls Tryd.prog 94 #[.string s] w fun e w' => e = .returned (.string (otherF s)) ∧ Below w.heap.size w w' := by
  obtain ⟨t, ht⟩ := hL
  have HT := Lib.hid ht
  clear ht
  go_enter Tryd.func94, Tryd.ntmps94
  go_wp2_with (with_reducible refine wpList_load_row rfl 151 (.global 2) rfl 2 rfl t endsCells (0, 0) _ HT.out Tryd.underlying151 rfl (by rw [infoEnds, endsSize]) ?_)
  go_loopw [8] (fun ix wr => ∃ k : Nat, k ≤ 7 ∧ ix = .int .i64 k ∧ Hid (otherL (endsTab.drop k) s = otherF s) ∧ Below w.heap.size w wr) (fun ix _ => 7 - (intOf ix).toNat)
  case atStart => exact ⟨0, Nat.zero_le _, rfl, rfl, Below.refl _ _⟩
  case round =>
    obtain ⟨k, hk, rfl, HV, hb⟩ := hrel
    have HB := Lib.hid hb
    clear hb
    by_cases hlt : k < 7
    · have hidx := fun W => endsIdx W k hlt
      have HS := Lib.hid (other_step s k hlt)
      have hsm := ends_small k
      generalize endsTab.getD k noEnd = x at hidx HS hsm
      obtain ⟨e, p⟩ := x
      simp only at hidx HS hsm
      obtain ⟨hsm, hsm2⟩ := hsm
      have c1 := fun W => cutSuffix_calls s e hs (by omega) W
      have hba : ∀ o, Below w.heap.size w (wr.alloc o) := fun o => HB.out.alloc HB.out.size _
      have HBA := Lib.hid hba
      clear hba
      cases h1 : suf s e
      · have c2 : ∀ W, Calls Tryd.prog 38 #[.string s, .string e] W fun e1 w' => e1 = .returned (.tuple #[.string s, .bool false]) ∧ w' = W := fun W => by
          have := c1 W
          rw [h1] at this
          exact this
        have HN : Hid (otherL (endsTab.drop (k + 1)) s = otherF s) := by
          have h := HV.out
          rw [HS.out, h1] at h
          exact h
        clear c1
        go_wp2_with fail
        refine (c2 _).mono ?_
        rintro e1 w2 ⟨rfl, rfl⟩
        go_wp2_with fail
        go_roundw
        case rel => exact ⟨k + 1, by omega, by go_num, HN.out, HBA.out _⟩
        case measure => simp [intOf]; omega
      · have hle := suf_le h1
        have hls : (less s e.size).size = s.size - e.size := by rw [less, ByteArray.size_extract]; omega
        have c2 : ∀ W, Calls Tryd.prog 38 #[.string s, .string e] W fun e1 w' => e1 = .returned (.tuple #[.string (less s e.size), .bool true]) ∧ w' = W := fun W => by
          have := c1 W
          rw [h1] at this
          exact this
        clear c1
        by_cases h3 : 3 ≤ (less s e.size).size
        · have h3' : (3 : Int) ≤ (less s e.size).size := by omega
          have HN : Hid (otherF s = less s e.size ++ p) := by
            have h := HV.out
            rw [HS.out, h1, decide_eq_true h3] at h
            exact h.symm
          generalize less s e.size = q at *
          go_wp2_with fail
          refine (c2 _).mono ?_
          rintro e1 w2 ⟨rfl, rfl⟩
          go_wp2_with fail
          go_ret
          exact ⟨ret_string HN.out.symm, HBA.out _⟩
        · have h3' : ((less s e.size).size : Int) < 3 := by omega
          have HN : Hid (otherL (endsTab.drop (k + 1)) s = otherF s) := by
            have h := HV.out
            rw [HS.out, h1, decide_eq_false h3] at h
            exact h
          generalize less s e.size = q at *
          go_wp2_with fail
          refine (c2 _).mono ?_
          rintro e1 w2 ⟨rfl, rfl⟩
          go_wp2_with fail
          go_roundw
          case rel => exact ⟨k + 1, by omega, by go_num, HN.out, HBA.out _⟩
          case measure => simp [intOf]; omega
    · have hv : otherF s = s := by
        have h := HV.out
        rw [List.drop_eq_nil_of_le (show endsTab.length ≤ k by show 7 ≤ k; omega)] at h
        exact h.symm
      have HX := Lib.hid hv
      clear hv
      go_wp2_with fail
      go_ret
      exact ⟨ret_string HX.out.symm, HB.out⟩
end Stem
end Go.Proofs.YtfohollhdaedlaaDoor
