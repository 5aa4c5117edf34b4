/- Export: whether documents are short enough to be gone through. -/
import Derived.Test.YtfohollhdaedlaaDoorExp20
set_option linter.unusedVariables false
set_option linter.unusedSimpArgs false
set_option maxRecDepth 100000
namespace Go.Proofs.YtfohollhdaedlaaDoor
open Go.RowKit
namespace Exp
/-- A bool is handed back. -/
def SomeB (R : Bool → Prop) (w : World) (e : Ending) (w' : World) : Prop := (∃ b, e = .returned (.bool b) ∧ R b) ∧ Below w.heap.size w w'
set_option maxHeartbeats 8000000 in
theorem ptexts_calls (w : World) (A : Option Addr) (n c : Nat) (l : List DocM) (hsl : IsSl w 5 A n c (dCells l)) :
    Calls Tryd.prog 44 #[.slice A n c] w (SomeB (fun _ => True) w) := by
  have hnc := hsl.2.1
  have hcm := hsl.2.2.1
  unfold maxLen at hcm
  have HLN : Hid (l.length = n) := by have := hsl.1; rw [dCells_length] at this; show _ = _; omega
  have HSL := Lib.hid hsl
  clear hsl
  go_enter Tryd.func44, Tryd.ntmps44
  go_wp2_with fail
  go_loopw [3, 10] (fun v ix wr => ∃ (i : Nat) (s : Int), i ≤ n ∧ ix = .int .i64 i ∧ v = .int .i64 s ∧ 0 ≤ s ∧ s ≤ 8192 ∧ Below w.heap.size w wr) (fun _ ix _ => n - (intOf ix).toNat)
  case atStart => exact ⟨0, 0, Nat.zero_le _, rfl, rfl, by decide, by decide, Below.refl _ _⟩
  case round =>
    obtain ⟨i, s, hi, rfl, rfl, hs0, hs1, hb⟩ := hrel
    have HB := Lib.hid hb
    clear hb
    by_cases hlt : i < n
    · obtain ⟨d, hd⟩ : ∃ d, l[i]? = some d := ⟨_, List.getElem?_eq_getElem (by rw [HLN.out]; exact hlt)⟩
      obtain ⟨ab, ao, rfl, z0, z1, z2, z3, z4⟩ := d_at (HSL.out.below HB.out) hd
      have hba : Below wr.heap.size wr (wr.alloc (.cells (docC d) 33)) := (Below.refl _ _).alloc (Nat.le_refl _) _
      have HWA := Lib.hid (below_next HB.out hba)
      have HIX := Lib.hid (idx_arr d)
      clear hd hba
      obtain ⟨z, hz⟩ : ∃ z : Int, s + min (d.id.size : Int) 8192 = z := ⟨_, rfl⟩
      have hz0 : 0 ≤ z := by rw [← hz]; omega
      by_cases hm : 8192 < z
      · have hm' : 8192 < s + min (d.id.size : Int) 8192 := by rw [hz]; exact hm
        clear hz
        go_wp2_with fail
        go_ret
        exact ⟨⟨false, rfl, trivial⟩, HWA.out⟩
      · have hm' : ¬ 8192 < s + min (d.id.size : Int) 8192 := by rw [hz]; exact hm
        have HZ := Lib.hid hz
        clear hz
        go_wp2_with fail
        rw [HZ.out]
        simp only [docC] at HWA
        generalize wr.alloc (.cells #[.string d.id, .string d.t0, .string d.t1, .string d.t2, .string d.t3] 33) = w2 at *
        clear hm' HZ z0 z1 z2 z3 z4
        obtain ⟨wz, hwz⟩ : ∃ wz, wz = wr := ⟨_, rfl⟩
        subst hwz
        go_loopw [3, 24] (fun v kx wr => ∃ (k : Nat) (y : Int), k ≤ 4 ∧ kx = .int .i64 k ∧ v = .int .i64 y ∧ 0 ≤ y ∧ y ≤ 8192 ∧ w2 = wr) (fun _ kx _ => 4 - (intOf kx).toNat)
        case atStart => exact ⟨0, z, Nat.zero_le _, rfl, rfl, hz0, by omega, rfl⟩
        case round =>
          obtain ⟨k, y, hk, rfl, rfl, hy0, hy1, rfl⟩ := hrel
          by_cases hk4 : k < 4
          · have hix := fun W => HIX.out k hk4 W
            obtain ⟨x, hx⟩ : ∃ x, d.get k = x := ⟨_, rfl⟩
            rw [hx] at hix
            clear hx
            by_cases hm2 : 8192 < y + min (x.size : Int) 8192
            · go_wp2_with fail
              go_ret
              exact ⟨⟨false, rfl, trivial⟩, HWA.out⟩
            · go_wp2_with fail
              go_roundw
              case rel => exact ⟨k + 1, _, by omega, by go_num, rfl, by omega, by omega, trivial⟩
              case measure => simp [intOf]; omega
          · go_wp2_with fail
            go_roundw
            case rel => exact ⟨i + 1, y, by omega, by go_num, rfl, hy0, hy1, HWA.out⟩
            case measure => simp [intOf]; omega
    · go_wp2_with fail
      go_ret
      exact ⟨⟨true, rfl, trivial⟩, HB.out⟩
set_option maxHeartbeats 4000000 in
theorem short_calls (w : World) (b : Nat) (A : Option Addr) (n c : Nat) (l : List DocM) (hsl : IsSl w 5 A n c (dCells l)) (hc : w.cell? ⟨b, 0, none⟩ = some (.slice A n c)) :
    Calls Tryd.prog 13 #[.slice (some ⟨b, 0, none⟩) 1 1] w (SomeB (fun r => r = true → n ≤ 20) w) := by
  have C := Lib.hid (ptexts_calls w A n c l hsl)
  clear hsl
  go_enter Tryd.func13, Tryd.ntmps13
  go_wp2_with fail
  go_loopw [3, 8] (fun v ix wr => ∃ (i : Nat) (s : Int), i ≤ 1 ∧ ix = .int .i64 i ∧ v = .int .i64 s ∧ Hid (i = 0 → s = 0 ∧ wr = w) ∧ Hid (i = 1 → n ≤ 20) ∧ Below w.heap.size w wr) (fun _ ix _ => 1 - (intOf ix).toNat)
  case atStart => exact ⟨0, 0, by decide, rfl, rfl, fun _ => ⟨rfl, rfl⟩, (fun h => by cases h), Below.refl _ _⟩
  case round =>
    obtain ⟨i, s, hi, rfl, rfl, HS, HN, hb⟩ := hrel
    have HB := Lib.hid hb
    clear hb
    by_cases hlt : i < 1
    · obtain rfl : i = 0 := by omega
      obtain ⟨rfl, rfl⟩ := HS.out rfl
      clear HS HN
      by_cases hm : 20 < min (n : Int) 100
      · go_wp2_with fail
        go_ret
        exact ⟨⟨false, rfl, (fun h => by cases h)⟩, Below.refl _ _⟩
      · have HN1 : Hid (n ≤ 20) := by show _ ≤ _; omega
        go_wp2_with fail
        refine C.out.mono ?_
        rintro e w2 ⟨⟨r, rfl, _⟩, hb2⟩
        have HB2 := Lib.hid hb2
        clear hb2 C
        cases r
        · go_wp2_with fail
          go_ret
          exact ⟨⟨false, rfl, (fun h => by cases h)⟩, HB2.out⟩
        · go_wp2_with fail
          go_roundw
          case rel => exact ⟨1, _, Nat.le_refl _, by go_num, rfl, (fun h => by cases h), fun _ => HN1.out, HB2.out⟩
          case measure => simp [intOf]
    · obtain rfl : i = 1 := by omega
      go_wp2_with fail
      go_ret
      exact ⟨⟨true, rfl, fun _ => HN.out (by first | trivial | rfl)⟩, HB.out⟩
end Exp
end Go.Proofs.YtfohollhdaedlaaDoor
