/- The walks: stem.twin. -/
import Derived.Test.YtfohollhdaedlaaDoorStem3
import Derived.BigRegion
set_option linter.unusedVariables false
set_option linter.unusedSimpArgs false
set_option maxRecDepth 100000
namespace Go.Proofs.YtfohollhdaedlaaDoor
open Go.RowKit
namespace Stem
def isTwin (s : ByteArray) : Bool := decide (2 ≤ s.size) && decide (byt s (s.size - 1) = byt s (s.size - 2)) && !vow (byt s (s.size - 1)) && !lsz (byt s (s.size - 1))
def twinF (s : ByteArray) : ByteArray := if isTwin s then less s 1 else s

theorem idx_str {P : Program} {t : TypeId} (h : P.underlying t = some .string) (s : ByteArray) (k : IntKind) (i : Nat) (x : Int) (hx : x = i) (hlt : i < s.size) (W : World) :
    (Instr.index t (.string s) (.int k x)).run P W = .ok (.int .u8 (byt s i)) W := by
  subst hx
  rw [run_index_string W t s k _ h, dif_pos ⟨by omega, by omega⟩]
  simp [byt, hlt]
set_option maxHeartbeats 2000000 in
theorem twin_calls (s : ByteArray) (h2 : 2 ≤ s.size) (hs : s.size ≤ 140737488351232) (w : World) :
    Calls Tryd.prog 125 #[.string s] w fun e w' => e = .returned (.string (twinF s)) ∧ Below w.heap.size w w' := by
  obtain ⟨n, hn⟩ : ∃ n : Nat, s.size = n + 2 := ⟨s.size - 2, by omega⟩
  have e1 := byt_at s (n + 1) (by omega)
  have e2 := byt_at s n (by omega)
  have r1 := byt_range s (n + 1)
  have r2 := byt_range s n
  generalize ha : byt s (n + 1) = a at *
  generalize hb : byt s n = b at *
  have hd : decide ((n : Int) + 2 < 2) = false := by simp; omega
  have hw1 : IntKind.i64.wrap ((n : Int) + 2 - 1) = ((n + 1 : Nat) : Int) := by rw [IntKind.wrap_i64]; omega
  have hw2 : IntKind.i64.wrap (n : Int) = (n : Int) := by rw [IntKind.wrap_i64]; omega
  have hn1 : n + 1 < s.size := by omega
  have hn2 : n < s.size := by omega
  have hix1 := idx_str (P := Tryd.prog) Tryd.underlying9 s .i64 (n + 1) ((n : Int) + 1) (by omega) hn1
  have hix2 := idx_str (P := Tryd.prog) Tryd.underlying9 s .i64 n (n : Int) rfl hn2
  rw [ha] at hix1
  rw [hb] at hix2
  have hT : isTwin s = (decide (a = b) && !vow a && !lsz a) := by
    simp only [isTwin, hn, show n + 2 - 1 = n + 1 by omega, show n + 2 - 2 = n by omega, ha, hb]; simp
  by_cases hab : a = b
  · subst hab
    have hbn : (a != a) = false := by simp
    have cv := fun W => vowel_calls a r1.1 r1.2 W
    have ci := fun W => indexByte_calls { data := #[108, 115, 122] } a W
    have hl := lsz_index a r1.1 r1.2
    have hl2 : (Lib.indexByte ({ data := #[108, 115, 122] } : ByteArray).data.toList a.toNat.toUInt8 < 0) = (lsz a = false) := hl
    generalize Lib.indexByte ({ data := #[108, 115, 122] } : ByteArray).data.toList a.toNat.toUInt8 = i at ci hl2
    clear hl
    cases h1 : vow a
    · rw [h1] at cv
      cases h3 : lsz a
      · rw [h3] at hl2
        have hi : i < 0 := by rw [hl2]
        have hv : twinF s = less s 1 := by rw [twinF, hT, h1, h3]; simp
        rw [hv]
        clear hv hT
        have hsl := slice_str_to Tryd.underlying9 s .i64 ((n : Int) + 1) (n + 1) (by omega) (by omega)
        have hls : less s 1 = s.extract 0 (n + 1) := by rw [less, hn]; rfl
        rw [hls]
        go_enter Tryd.func125, Tryd.ntmps125
        go_wp2_with fail
        go_quiet (first | (go_at_call 149; exact Calls.quiet_of_same (cv _)) | (go_at_call 77; exact Calls.quiet_of_same (ci _)))
        go_wp2_with fail
        go_ret
        exact ⟨rfl, below_drewN (Below.refl _ _) _⟩
      · rw [h3] at hl2
        have hi : 0 ≤ i := by
          have : ¬ i < 0 := by rw [hl2]; simp
          omega
        have hv : twinF s = s := by rw [twinF, hT, h1, h3]; simp
        rw [hv]
        clear hv hT
        go_enter Tryd.func125, Tryd.ntmps125
        go_wp2_with fail
        go_quiet (first | (go_at_call 149; exact Calls.quiet_of_same (cv _)) | (go_at_call 77; exact Calls.quiet_of_same (ci _)))
        go_wp2_with fail
        go_ret
        exact ⟨rfl, below_drewN (Below.refl _ _) _⟩
    · rw [h1] at cv
      have hv : twinF s = s := by rw [twinF, hT, h1]; simp
      rw [hv]
      clear hv hT
      go_enter Tryd.func125, Tryd.ntmps125
      go_wp2_with fail
      go_quiet (first | (go_at_call 149; exact Calls.quiet_of_same (cv _)) | (go_at_call 77; exact Calls.quiet_of_same (ci _)))
      go_wp2_with fail
      go_ret
      exact ⟨rfl, below_drewN (Below.refl _ _) _⟩
  · have hbn : (a != b) = true := by simp [hab]
    have hv : twinF s = s := by
      rw [twinF, hT]; simp [hab]
    rw [hv]
    clear hv hT
    go_enter Tryd.func125, Tryd.ntmps125
    go_wp2_with fail
    go_quiet (fail)
    go_wp2_with fail
    go_ret
    exact ⟨rfl, below_drewN (Below.refl _ _) _⟩
end Stem
end Go.Proofs.YtfohollhdaedlaaDoor
