/- UtfCuts: a beginning of a text that is UTF-8 is one, as long as asked for, or less than four bytes shorter: the plain law and the walk. -/
import Derived.Test.YtonhlgidfgogiaaUtfW3
set_option linter.unusedVariables false
set_option linter.unusedSimpArgs false
namespace Go.Proofs.Ytonhlgidfgogiaa
open Go.RowKit
namespace Utf

theorem byt_pre (s : ByteArray) (k i : Nat) (hk : k ≤ s.size) (h : i < k) : byt (s.extract 0 k) i = byt s i := by
  have := byt_extract s i 0 k hk (by omega)
  simpa using this
theorem size_pre (s : ByteArray) (k : Nat) (hk : k ≤ s.size) : (s.extract 0 k).size = k := by rw [ByteArray.size_extract]; omega
theorem conts_pre (s : ByteArray) (k a n : Nat) (hk : k ≤ s.size) (h : a + 1 + n ≤ k) : conts (s.extract 0 k) a n = conts s a n := by
  induction n with
  | zero => rfl
  | succ n ih => rw [conts_succ, conts_succ, ih (by omega), byt_pre s k _ hk (by omega)]
theorem acc_pre (s : ByteArray) (k a n : Nat) (hk : k ≤ s.size) (h : a + 1 + n ≤ k) : acc (s.extract 0 k) a n = acc s a n := by
  induction n with
  | zero => simp only [acc]; rw [byt_pre s k a hk (by omega)]
  | succ n ih => simp only [acc]; rw [ih (by omega), byt_pre s k _ hk (by omega)]
theorem nx_pre (s : ByteArray) (k a : Nat) (hk : k ≤ s.size) (h0 : 0 ≤ (nx s a).1) (h : (a : Int) + (nx s a).2 ≤ k) : nx (s.extract 0 k) a = nx s a := by
  rcases nx_forms s a with e | ⟨h1, h2, h3, h4, h5, e⟩
  · rw [e] at h0; simp at h0
  · have hf := fsize_range (byt s a)
    rw [e] at h ⊢
    simp only at h
    have hb : byt (s.extract 0 k) a = byt s a := byt_pre s k a hk (by omega)
    have ha := acc_pre s k a (fsize (byt s a) - 1).toNat hk (by omega)
    have hc := conts_pre s k a (fsize (byt s a) - 1).toNat hk (by omega)
    have := nx_good (s := s.extract 0 k) (a := a) (by rw [hb, size_pre s k hk]; omega) (by rw [hb, hc]; exact h3) (by rw [hb, ha, h5]; rintro (h | h); omega; cases h)
    rw [this, hb, ha]
theorem adv_pre {s : ByteArray} {k a : Nat} (h : nx (s.extract 0 k) a = nx s a) : adv (s.extract 0 k) a = adv s a := by unfold adv; rw [h]

theorem cutF_bounds (s : ByteArray) (m : Int) : ∀ n a, s.size - a = n → a ≤ s.size → (a = 0 ∨ (a : Int) ≤ m) →
    a ≤ cutF s m a ∧ cutF s m a ≤ s.size ∧ (cutF s m a = 0 ∨ (cutF s m a : Int) ≤ m) ∧ ((s.size : Int) - 3 ≤ cutF s m a ∨ m - 3 ≤ cutF s m a) ∧ (validF s a = true → validF (s.extract 0 (cutF s m a)) a = true) := by
  intro n
  induction n using Nat.strongRecOn with
  | _ n ih =>
    intro a hn ha hm
    by_cases h : a < s.size
    · have hA := adv_range s a h
      have hS := nx_step s a h
      by_cases h2 : m - a < (nx s a).2
      · rw [cutF_stop h h2]
        exact ⟨by omega, by omega, hm, by omega, fun _ => validF_end (by rw [size_pre s a ha]; omega)⟩
      · rw [cutF_go h h2]
        obtain ⟨i1, i2, i3, i4, i5⟩ := ih (s.size - adv s a) (by omega) (adv s a) rfl hA.2.1 (.inr (by omega))
        refine ⟨by omega, i2, i3, i4, fun hv => ?_⟩
        by_cases hneg : (nx s a).1 < 0
        · rw [validF_bad h hneg] at hv; cases hv
        · rw [validF_go h hneg] at hv
          have e := nx_pre s (cutF s m (adv s a)) a i2 (by omega) (by omega)
          rw [validF_go (by rw [size_pre s _ i2]; omega) (by rw [e]; exact hneg), adv_pre e]
          exact i5 hv
    · rw [cutF_end h]
      exact ⟨by omega, ha, hm, by omega, fun _ => validF_end (by rw [size_pre s a ha]; exact Nat.lt_irrefl _)⟩

set_option maxHeartbeats 1000000 in
set_option maxRecDepth 100000 in
theorem cuts_law (s : ByteArray) (n : Int) (hs : s.size ≤ 140737488351232) (hn : -9223372036854775808 ≤ n ∧ n ≤ 9223372036854775807) (w : World) :
    Calls Try.prog 3 #[.string s, .int .i64 n] w fun e w' => e = .returned (.bool true) ∧ Below w.heap.size w w' := by
  by_cases hl : 4096 < s.size
  · go_enter Try.func3, Try.ntmps3
    go_wp2_with fail
    refine (awake_calls _).mono ?_
    rintro e w1 ⟨rfl, hb1⟩
    go_wp2_with fail
    go_ret
    exact ⟨rfl, hb1⟩
  · obtain ⟨c1, c2, c3, c4, c5⟩ := cutF_bounds s n s.size 0 rfl (Nat.zero_le _) (.inl rfl)
    have hsz := size_pre s _ c2
    have hcut := cut_calls s n hs hn
    have hpre : (decide ((s.extract 0 (cutF s n 0)).size ≤ s.size) && ((s.extract 0 (s.extract 0 (cutF s n 0)).size).toList == (s.extract 0 (cutF s n 0)).toList)) = true := by
      rw [hsz]; simp [c2]
    generalize hk : cutF s n 0 = k at *
    generalize hc : s.extract 0 k = c at *
    have hp := hasPrefix_calls s c hs (by omega)
    rw [hpre] at hp
    have HP := Lib.hid hp
    have HC := Lib.hid hcut
    have HV := Lib.hid c5
    have b1 : c.size ≤ s.size := by omega
    have b2 : c.size = 0 ∨ (c.size : Int) ≤ n := by omega
    have b4 : (s.size : Int) - 3 ≤ c.size ∨ n - 3 ≤ c.size := by omega
    have hempty : c.size = 0 → c.toList = [] := fun h => by
      rw [ByteArray.toList_eq]; apply List.eq_nil_of_length_eq_zero; rw [Array.length_toList]; exact h
    have HE := Lib.hid hempty
    clear hpre hp hcut c1 c2 c3 c4 c5 hk hc hsz hempty
    have hcase : (0 ≤ n ∧ (c.size : Int) ≤ n ∧ (s.size : Int) ≤ n ∧ (s.size : Int) - 3 ≤ c.size) ∨ (0 ≤ n ∧ (c.size : Int) ≤ n ∧ n < s.size ∧ n - 3 ≤ c.size) ∨ (n < 0 ∧ c.size = 0) := by omega
    clear b2 b4
    rcases hcase with ⟨hn0, b3, b5, b6⟩ | ⟨hn0, b3, b5, b6⟩ | ⟨hn0, hz⟩
    · go_enter Try.func3, Try.ntmps3
      go_wp2_with fail
      refine (HC.out _).mono ?_
      rintro e w1 ⟨rfl, hb1⟩
      go_wp2_with fail
      refine (HP.out _).mono ?_
      rintro e w2 ⟨rfl, rfl⟩
      go_wp2_with fail
      refine (valid_calls s hs _).mono ?_
      rintro e w3 ⟨rfl, hb3⟩
      cases hv : validF s 0
      · clear hv
        go_wp2_with fail
        refine (awake_calls _).mono ?_
        rintro e w4 ⟨rfl, hb4⟩
        go_wp2_with fail
        go_ret
        exact ⟨rfl, below_next (below_next hb1 hb3) hb4⟩
      · have hvc := valid_calls c (by omega)
        rw [HV.out hv] at hvc
        have HVC := Lib.hid hvc
        clear hv hvc
        go_wp2_with fail
        refine (HVC.out _).mono ?_
        rintro e w4 ⟨rfl, hb4⟩
        go_wp2_with fail
        refine (awake_calls _).mono ?_
        rintro e w5 ⟨rfl, hb5⟩
        go_wp2_with fail
        go_ret
        exact ⟨rfl, below_next (below_next (below_next hb1 hb3) hb4) hb5⟩
    · go_enter Try.func3, Try.ntmps3
      go_wp2_with fail
      refine (HC.out _).mono ?_
      rintro e w1 ⟨rfl, hb1⟩
      go_wp2_with fail
      refine (HP.out _).mono ?_
      rintro e w2 ⟨rfl, rfl⟩
      go_wp2_with fail
      refine (valid_calls s hs _).mono ?_
      rintro e w3 ⟨rfl, hb3⟩
      cases hv : validF s 0
      · clear hv
        go_wp2_with fail
        refine (awake_calls _).mono ?_
        rintro e w4 ⟨rfl, hb4⟩
        go_wp2_with fail
        go_ret
        exact ⟨rfl, below_next (below_next hb1 hb3) hb4⟩
      · have hvc := valid_calls c (by omega)
        rw [HV.out hv] at hvc
        have HVC := Lib.hid hvc
        clear hv hvc
        go_wp2_with fail
        refine (HVC.out _).mono ?_
        rintro e w4 ⟨rfl, hb4⟩
        go_wp2_with fail
        refine (awake_calls _).mono ?_
        rintro e w5 ⟨rfl, hb5⟩
        go_wp2_with fail
        go_ret
        exact ⟨rfl, below_next (below_next (below_next hb1 hb3) hb4) hb5⟩
    · have hce := HE.out hz
      have hcz : (0 : Int) - 3 ≤ c.size := by omega
      have HVC := Lib.hid (show ∀ W, Calls Try.prog 10 #[.string c] W fun e w' => e = .returned (.bool true) ∧ Below W.heap.size W w' by
        have := valid_calls c (by omega)
        rw [validF_end (by omega)] at this
        exact this)
      have hcz2 : ((c.size : Nat) : Int) = 0 := by omega
      clear hz hcz hcz2
      go_enter Try.func3, Try.ntmps3
      go_wp2_with fail
      refine (HC.out _).mono ?_
      rintro e w1 ⟨rfl, hb1⟩
      go_wp2_with fail
      refine (HP.out _).mono ?_
      rintro e w2 ⟨rfl, rfl⟩
      go_wp2_with fail
      refine (valid_calls s hs _).mono ?_
      rintro e w3 ⟨rfl, hb3⟩
      cases hv : validF s 0
      · clear hv
        go_wp2_with fail
        all_goals
          refine (awake_calls _).mono ?_
          rintro e w4 ⟨rfl, hb4⟩
          go_wp2_with fail
          go_ret
          exact ⟨rfl, below_next (below_next hb1 hb3) hb4⟩
      · clear hv
        go_wp2_with fail
        refine (HVC.out _).mono ?_
        rintro e w4 ⟨rfl, hb4⟩
        go_wp2_with fail
        all_goals
          refine (awake_calls _).mono ?_
          rintro e w5 ⟨rfl, hb5⟩
          go_wp2_with fail
          go_ret
          exact ⟨rfl, below_next (below_next (below_next hb1 hb3) hb4) hb5⟩
theorem cuts_proof (s : ByteArray) (hs : s.size ≤ 140737488351232) (n : Int) (hn : -9223372036854775808 ≤ n ∧ n ≤ 9223372036854775807) (w : World) :
    Calls Try.prog 3 #[.string s, .int .i64 n] w fun e w' => e = .returned (.bool true) ∧ Below w.heap.size w w' := cuts_law s n hs hn w
end Utf
end Go.Proofs.Ytonhlgidfgogiaa
