/- Export: the laws: what is read has those lines; any documents' lines, and the documents of any lines. -/
import Derived.Test.YtfohollhdaedlaaDoorExp22
import Derived.Test.YtfohollhdaedlaaDoorExp15
import Derived.Test.YtfohollhdaedlaaDoorExp19
set_option linter.unusedVariables false
set_option linter.unusedSimpArgs false
set_option maxRecDepth 100000
namespace Go.Proofs.YtfohollhdaedlaaDoor
open Go.RowKit
namespace Exp
theorem readL_len : ∀ (xs : List B8) (l l' : List DocM) (n : Nat), readL l n xs = (l', none) → l'.length ≤ l.length + xs.length
  | [], l, l', n, h => by
    obtain rfl : l = l' := (Prod.mk.inj h).1
    simp
  | x :: xs, l, l', n, h => by
    rw [readL] at h
    cases hl : lineF l x with
    | none => rw [hl] at h; cases (Prod.mk.inj h).2
    | some l2 =>
      rw [hl] at h
      have h1 := readL_len xs l2 l' (n + 1) h
      have h2 := lineF_len hl
      simp; omega
theorem readL_pos : ∀ (xs : List B8) (l l' : List DocM) (n k : Nat), readL l n xs = (l', some k) → n < k
  | [], l, l', n, k, h => by cases (Prod.mk.inj h).2
  | x :: xs, l, l', n, k, h => by
    rw [readL] at h
    cases hl : lineF l x with
    | none =>
      rw [hl] at h
      have := Option.some.inj (Prod.mk.inj h).2
      omega
    | some l2 =>
      rw [hl] at h
      have := readL_pos xs l2 l' (n + 1) k h
      omega
theorem readF_len {s : B8} {l : List DocM} (h : readF s = (l, none)) : l.length ≤ s.length := by
  unfold readF at h
  cases hr : readL [] 0 (linesOf s).1 with
  | mk l2 o =>
    rw [hr] at h
    cases o with
    | some k => cases (Prod.mk.inj h).2
    | none =>
      have h1 := readL_len _ _ _ _ hr
      have h2 := lines_len s
      simp only at h
      split at h
      · have := (Prod.mk.inj h).1
        rw [← this]; simp at h1; omega
      · cases (Prod.mk.inj h).2
theorem readF_pos {s : B8} {l : List DocM} {k : Nat} (h : readF s = (l, some k)) : 0 < k := by
  unfold readF at h
  cases hr : readL [] 0 (linesOf s).1 with
  | mk l2 o =>
    rw [hr] at h
    cases o with
    | some k2 =>
      have := readL_pos _ _ _ _ _ hr
      have := Option.some.inj (Prod.mk.inj h).2
      omega
    | none =>
      simp only at h
      split at h
      · cases (Prod.mk.inj h).2
      · have := Option.some.inj (Prod.mk.inj h).2
        omega
set_option maxHeartbeats 8000000 in
theorem any_proof (w : World) (hH : LaidH w) (s : ByteArray) (hs : s.size ≤ 140737488351232) : Calls Tryd.prog 3 #[.string s] w fun e w' => e = .returned (.bool true) ∧ Below w.heap.size w w' := by
  have HH := Lib.hid hH
  clear hH
  by_cases h4 : 4096 < s.size
  · have h4' : (4096 : Int) < s.size := by omega
    go_enter Tryd.func3, Tryd.ntmps3
    go_wp2_with fail
    refine (awake_calls _ HH.out).mono ?_
    rintro e w1 ⟨rfl, hb1⟩
    go_wp2_with fail
    go_ret
    exact ⟨rfl, hb1⟩
  · have h4' : ¬ (4096 : Int) < s.size := by omega
    have hs2 : s.size ≤ 65536 := by omega
    go_enter Tryd.func3, Tryd.ntmps3
    go_wp2_with fail
    refine (read_calls s hs2 _ HH.out).mono ?_
    rintro e w1 ⟨hb1, (⟨l, A, c, hr, rfl, hsl⟩ | ⟨k, hr, rfl⟩)⟩
    · have HB1 := Lib.hid hb1
      have HLL : Hid (l.length ≤ 1000000) := by
        have := readF_len hr
        rw [by8_len] at this
        show _ ≤ _; omega
      have HW : Hid (mk8 (writeD okT l) = s) := by show _ = _; rw [writeD_read hr]; rfl
      have C := Lib.hid (write_calls w1 (HH.out.below hb1) A _ c l hsl HLL.out)
      rw [HW.out] at C
      clear hb1 hr hsl
      generalize l.length = n at *
      go_wp2_with fail
      refine C.out.mono ?_
      rintro e w2 ⟨rfl, hb2⟩
      have HB2 := Lib.hid (below_next HB1.out hb2)
      clear C hb2
      go_wp2_with fail
      refine (awake_calls _ (HH.out.below HB2.out)).mono ?_
      rintro e w3 ⟨rfl, hb3⟩
      have HB3 := Lib.hid (below_next HB2.out hb3)
      clear hb3
      go_wp2_with fail
      go_ret
      exact ⟨rfl, HB3.out⟩
    · have HB1 := Lib.hid hb1
      have hk := readF_pos hr
      have hk' : (0 : Int) < k := by omega
      clear hb1 hr
      go_wp2_with fail
      refine (awake_calls _ (HH.out.below HB1.out)).mono ?_
      rintro e w3 ⟨rfl, hb3⟩
      have HB3 := Lib.hid (below_next HB1.out hb3)
      clear hb3
      go_wp2_with fail
      go_ret
      exact ⟨rfl, HB3.out⟩
end Exp
end Go.Proofs.YtfohollhdaedlaaDoor
