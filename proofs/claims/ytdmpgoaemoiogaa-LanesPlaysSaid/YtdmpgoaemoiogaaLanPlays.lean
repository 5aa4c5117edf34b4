/- Lanes: the walk of LanesPlays. -/
import Derived.Test.YtdmpgoaemoiogaaDoes4
set_option linter.unusedVariables false
set_option linter.unusedSimpArgs false
set_option maxRecDepth 100000
namespace Go.Proofs.Ytdmpgoaemoiogaa
open Go.RowKit Go.Maps
namespace Ref
open Box
variable {W W' w0 : World} {p r n : Nat} {a a' : St} {b b' : Rs}
theorem Duo0.lane {F : Nat → Prop} {v : Value} (h2 : RfS W w0.heap.size r v n b.s b.t b.L) (h3 : ∀ x, RfB r v x → ¬ F x) (h4 : ∀ x, F x → w0.heap.size ≤ x) (h5 : w0.heap.size ≤ r) (h6 : Below w0.heap.size w0 W)
    (hs : Step W F p n a'.s a'.t a'.q W') : Duo0 W' w0 p r n a' b := by
  obtain ⟨F', ⟨m', nk', f', hL⟩, hf, hF⟩ := hs
  have hsz := h6.size
  refine ⟨F', m', nk', f', v, hL, h2.foot hf h3, fun x hx hF' => ?_, fun x hx => ?_, h5, h6.trans (hf.below h6.size h4)⟩
  · have := rfb_lt h2 hx
    rcases hF x hF' with h | h
    · exact h3 x hx h
    · omega
  · rcases hF x hx with h | h
    · exact h4 x h
    · omega
theorem rq_no {L : List Msg} {k : Int × Int} (hw : ∀ x ∈ L, Box.Way n x.1) (hk : ¬ Box.Way n k) : rq L k = [] := by
  rw [rq, List.filter_eq_nil_iff.2]
  · rfl
  · intro x hx
    simp only [decide_eq_true_eq]
    rintro rfl
    exact hk (hw x hx)
theorem cnt_calls (hd : Duo0 W w0 p r n a b) (hag : Agree n a b) (i j : Int) :
    Calls Try.prog 32 #[.pointer (some ⟨p, 0, none⟩), .int .i64 i, .int .i64 j] W fun e W' => e = .returned (.int .i64 (rq b.L (i, j)).length) ∧ Duo0 W' w0 p r n a b := by
  have hd' := hd
  obtain ⟨F, m, nk, f, v, h1, h2, h3, h4, h5, h6⟩ := hd
  by_cases hk : Box.Way n (i, j)
  · exact (count_calls h1 i j hk).mono fun e W' ⟨he, hs⟩ => ⟨by rw [he, hag.2.2.1], Duo0.lane h2 h3 h4 h5 h6 hs⟩
  · exact (countNo_calls _ i j (boxNo_calls h1 i j hk)).mono fun e W' ⟨he, hw⟩ => ⟨by rw [he, rq_no hag.2.2.2.1 hk]; rfl, by rw [hw]; exact hd'⟩
theorem deed_calls (w w0 : World) (p r n c : Nat) (hc : c ≤ 1000) (op fr tw kk at_ by_ : Int) (A : Option Addr) (bn bc : Nat) (hat : I64 at_) (hby : 0 ≤ by_ ∧ by_ ≤ 255) (bs : List Int) (hsl : IsSl w0 1 A bn bc (bs.map (.int .u8)))
    (a : St) (b : Rs) (hd : Duo0 w w0 p r n a b) (hag : Agree n a b) (hsm : Small c a b) :
    Calls Try.prog 39 #[.pointer (some ⟨p, 0, none⟩), .pointer (some ⟨r, 0, none⟩), .agg #[.int .i64 op, .int .i64 fr, .int .i64 tw, .int .i64 kk, .int .i64 at_, .int .u8 by_, .slice A bn bc]] w (Deed w0 p r n c) := by
  have hbn := hsl.2.1
  have hbc := hsl.2.2.1
  unfold maxLen at hbc
  have h0 : 0 ≤ IntKind.u64.wrap op := by rw [IntKind.wrap_u64]; omega
  have h7 := Int.tmod_eq_emod_of_nonneg (b := 7) h0
  obtain ⟨m7, hm7⟩ : ∃ m7, IntKind.u64.wrap op = m7 := ⟨_, rfl⟩
  rw [hm7] at h7 h0
  rcases (show m7 % 7 = 0 ∨ m7 % 7 = 1 ∨ m7 % 7 = 2 ∨ m7 % 7 = 3 ∨ m7 % 7 = 4 ∨ m7 % 7 = 5 ∨ m7 % 7 = 6 by omega) with h | h | h | h | h | h | h
  · exact deed_send w w0 p r n c hc op fr tw kk at_ by_ A bn bc _ hbn hbc rfl (by rw [hm7, h7]; exact .inl h) hat hby bs hsl a b hd hag hsm
  · exact deed_send w w0 p r n c hc op fr tw kk at_ by_ A bn bc _ hbn hbc rfl (by rw [hm7, h7]; exact .inr h) hat hby bs hsl a b hd hag hsm
  · exact deed_take w w0 p r n c hc op fr tw kk at_ by_ A bn bc _ hbn hbc rfl (by rw [hm7, h7]; exact h) hat hby bs hsl a b hd hag hsm
  · exact deed_lose w w0 p r n c hc op fr tw kk at_ by_ A bn bc _ hbn hbc rfl (by rw [hm7, h7]; exact h) hat hby bs hsl a b hd hag hsm
  · exact deed_double w w0 p r n c hc op fr tw kk at_ by_ A bn bc _ hbn hbc rfl (by rw [hm7, h7]; exact h) hat hby bs hsl a b hd hag hsm
  · exact deed_spoil w w0 p r n c hc op fr tw kk at_ by_ A bn bc _ hbn hbc rfl (by rw [hm7, h7]; exact h) hat hby bs hsl a b hd hag hsm
  · exact deed_peek w w0 p r n c hc op fr tw kk at_ by_ A bn bc _ hbn hbc rfl (by rw [hm7, h7]; exact h) hat hby bs hsl a b hd hag hsm
theorem small_mono {c c' : Nat} (h : Small c a b) (hc : c ≤ c') : Small c' a b := ⟨⟨h.1.1, by have := h.1.2; omega⟩, ⟨h.2.1.1, by have := h.2.1.2; omega⟩, Nat.le_trans h.2.2 hc⟩
set_option maxHeartbeats 8000000 in
theorem plays26_calls (w : World) (n : Int) (hn : -9223372036854775808 ≤ n ∧ n ≤ 9223372036854775807) (B : Option Addr) (ln lc : Nat) (hd : IsDeeds w B ln lc) (i j : Int) :
    Calls Try.prog 10 #[.int .i64 n, .slice B ln lc, .int .i64 i, .int .i64 j] w fun e w' => e = .returned (.bool true) ∧ Below w.heap.size w w' := by
  have HDE := Lib.hid hd
  have hln := hd.1
  have hlm := hd.2.1
  unfold maxLen at hlm
  clear hd
  by_cases hno : n < 2 ∨ 64 < n
  · have C1 := Lib.hid (newNo_calls w n hno)
    rcases (show n < 2 ∨ (2 ≤ n ∧ 64 < n) by omega) with h | ⟨h2, h⟩
    · clear hno
      go_enter Try.func10, Try.ntmps10
      go_wp2_with fail
      refine C1.out.mono ?_
      rintro e w1 ⟨rfl, rfl⟩
      go_wp2_with fail
      refine (awake26_calls _).mono ?_
      rintro e w2 ⟨rfl, hb2⟩
      have HB2 := Lib.hid hb2
      clear hb2
      go_wp2_with fail
      go_ret
      exact ⟨rfl, HB2.out⟩
    · clear hno
      go_enter Try.func10, Try.ntmps10
      go_wp2_with fail
      refine C1.out.mono ?_
      rintro e w1 ⟨rfl, rfl⟩
      go_wp2_with fail
      refine (awake26_calls _).mono ?_
      rintro e w2 ⟨rfl, hb2⟩
      have HB2 := Lib.hid hb2
      clear hb2
      go_wp2_with fail
      go_ret
      exact ⟨rfl, HB2.out⟩
  · obtain ⟨n, rfl⟩ := Int.eq_ofNat_of_zero_le (show 0 ≤ n by omega)
    have hn2 : (2 : Int) ≤ n := by omega
    have hn64 : (n : Int) ≤ 64 := by omega
    have C1 := Lib.hid (new_calls w n ⟨by omega, by omega⟩)
    clear hno hn
    go_enter Try.func10, Try.ntmps10
    go_wp2_with fail
    refine C1.out.mono ?_
    rintro e w1 ⟨p, m, rfl, hL1, hb1, hp, hm⟩
    have hw1 := hb1.size
    have HD1 : Hid (Duo0 (w1.alloc (.cells #[.int .i64 n, .slice none 0 0, .int .i64 0, .int .i64 0] 85)) w p w1.heap.size n ⟨0, 0, fun _ => []⟩ ⟨0, 0, []⟩) := by
      have hba : Below w1.heap.size w1 (w1.alloc (.cells #[.int .i64 n, .slice none 0 0, .int .i64 0, .int .i64 0] 85)) := (Below.refl _ _).alloc (Nat.le_refl _) _
      refine ⟨_, m, 0, _, .slice none 0 0, hL1.below hba, ⟨heap_alloc_new _ _, World.ownsRow_nil _ _ _ _, by simp [Value.ownBlock]⟩, fun x hx hF => ?_, fun x hx => by rcases hx with rfl | rfl <;> assumption, hw1, below_next hb1 hba⟩
      rcases hx with rfl | hx
      · have := hL1.fin _ hF; omega
      · simp [Value.ownBlock] at hx
    have HA1 : Hid (Agree n ⟨0, 0, fun _ => []⟩ ⟨0, 0, []⟩) := ⟨rfl, rfl, fun _ => rfl, (by intro x hx; simp at hx), (by intro k x hx; simp at hx)⟩
    have HS1 : Hid (Small 0 ⟨0, 0, fun _ => []⟩ ⟨0, 0, []⟩) := ⟨⟨Int.le_refl _, Int.le_refl _⟩, ⟨Int.le_refl _, Int.le_refl _⟩, Nat.le_refl _⟩
    clear hL1 hb1 hp hm hw1
    go_wp2_with fail
    generalize w1.alloc (.cells #[.int .i64 n, .slice none 0 0, .int .i64 0, .int .i64 0] 85) = w2 at *
    go_loopw [33] (fun ix wr => ∃ (k : Nat) (a : St) (b : Rs), k ≤ ln ∧ ix = .int .i64 k ∧ Duo0 wr w p w1.heap.size n a b ∧ Agree n a b ∧ Small (min k 80) a b) (fun ix _ => ln - (intOf ix).toNat)
    case atStart => exact ⟨0, _, _, Nat.zero_le _, rfl, HD1.out, HA1.out, HS1.out⟩
    case round =>
      clear HD1 HA1 HS1
      obtain ⟨k, a, b, hk, rfl, hd, hag, hsm⟩ := hrel
      have HD := Lib.hid hd
      have HAG := Lib.hid hag
      have HSM := Lib.hid hsm
      have HBW : Hid (Below w.heap.size w wr) := by obtain ⟨F, m, nk, f, v, h1, h2, h3, h4, h5, h6⟩ := hd; exact h6
      clear hd hag hsm
      by_cases hlt : k < ln
      · obtain ⟨ab, ao, op, fr, tw, kk, at_, by_, A, bn, bc, ds, rfl, hdo⟩ := (HDE.out.below HBW.out).2.2.2 k hlt
        obtain ⟨_, _, op', fr', tw', kk', at', by', A', bn', bc', ds', hAA, hdo'⟩ := HDE.out.2.2.2 k hlt
        cases hAA
        have c0 := hdo.c0
        have c1 := hdo.c1
        have c2 := hdo.c2
        have c3 := hdo.c3
        have c4 := hdo.c4
        have c5 := hdo.c5
        have c6 := hdo.c6
        have HV : Hid (I64 at_ ∧ (0 ≤ by_ ∧ by_ ≤ 255) ∧ IsSl w 1 A bn bc (ds'.map (.int .u8))) := by
          have hb := hdo'.below HBW.out
          have e4 := Option.some.inj (hb.c4.symm.trans c4)
          have e5 := Option.some.inj (hb.c5.symm.trans c5)
          have e6 := Option.some.inj (hb.c6.symm.trans c6)
          cases e4
          cases e5
          cases e6
          exact ⟨hdo'.r4, hdo'.r5, hdo'.sl⟩
        have HDA := Lib.hid (HD.out.below ((Below.refl _ wr).alloc (Nat.le_refl _) (.cells #[.int .i64 op, .int .i64 fr, .int .i64 tw, .int .i64 kk, .int .i64 at_, .int .u8 by_, .slice A bn bc] 71)))
        clear hdo hdo'
        by_cases h80 : k < 80
        · have h80' : (k : Int) < 80 := by omega
          have C2 := Lib.hid (deed_calls _ w p w1.heap.size n k (by omega) op fr tw kk at_ by_ A bn bc HV.out.1 HV.out.2.1 ds' HV.out.2.2 a b HDA.out HAG.out (small_mono HSM.out (Nat.min_le_left _ _)))
          go_wp2_with fail
          refine C2.out.mono ?_
          rintro e w3 ⟨rfl, a', b', hd3, hag3, hsm3⟩
          have HD3 := Lib.hid hd3
          have HAG3 := Lib.hid hag3
          have HSM3 := Lib.hid hsm3
          clear hd3 hag3 hsm3
          go_wp2_with fail
          go_roundw
          case rel => exact ⟨k + 1, a', b', by omega, by go_num, HD3.out, HAG3.out, by rw [Nat.min_eq_left (by omega)]; exact HSM3.out⟩
          case measure => simp [intOf]; omega
        · have h80' : ¬ (k : Int) < 80 := by omega
          go_wp2_with fail
          go_roundw
          case rel => exact ⟨k + 1, a, b, by omega, by go_num, HDA.out, HAG.out, by have h := HSM.out; rw [Nat.min_eq_right (by omega)] at h ⊢; exact h⟩
          case measure => simp [intOf]; omega
      · obtain ⟨s, t, q⟩ := a
        obtain ⟨s', t', L⟩ := b
        obtain ⟨es, et, _⟩ := HAG.out
        simp only at es et
        subst es et
        obtain ⟨y2, y3⟩ : wr.cell? ⟨p, 2, none⟩ = some (.int .i64 s) ∧ wr.cell? ⟨p, 3, none⟩ = some (.int .i64 t) := by
          obtain ⟨F, m, nk, f, v, h1, h2, h3, h4, h5, h6⟩ := HD.out
          obtain ⟨_, _, y2, y3, _⟩ := head4 h1.head
          exact ⟨y2, y3⟩
        have C3 := Lib.hid (totals_calls wr p s t y2 y3)
        clear y2 y3
        go_wp2_with fail
        refine C3.out.mono ?_
        rintro e w3 ⟨rfl, hb3, _⟩
        have HD3 := Lib.hid (HD.out.below hb3)
        have C4 := Lib.hid (cnt_calls HD3.out HAG.out i j)
        clear hb3
        dsimp only
        go_wp2_with fail
        refine C4.out.mono ?_
        rintro e w4 ⟨rfl, hd4⟩
        have HD4 := Lib.hid hd4
        have C5 : Hid (Calls Try.prog 40 #[.pointer (some ⟨w1.heap.size, 0, none⟩), .int .i64 i, .int .i64 j] w4 fun e w' => e = .returned (.int .i64 (rq L (i, j)).length) ∧ Below w4.heap.size w4 w') := by
          obtain ⟨F, m, nk, f, v, h1, h2, h3, h4, h5, h6⟩ := hd4
          exact rcount_calls h2 i j
        clear hd4
        obtain ⟨cn, hcn⟩ : ∃ cn, (rq L (i, j)).length = cn := ⟨_, rfl⟩
        rw [hcn] at C5
        simp only [hcn]
        clear hcn
        go_wp2_with fail
        refine C5.out.mono ?_
        rintro e w5 ⟨rfl, hb5⟩
        have HD5 := Lib.hid (HD4.out.below hb5)
        obtain ⟨z2, z3⟩ : w5.cell? ⟨w1.heap.size, 2, none⟩ = some (.int .i64 s) ∧ w5.cell? ⟨w1.heap.size, 3, none⟩ = some (.int .i64 t) := by
          obtain ⟨F, m, nk, f, v, h1, h2, h3, h4, h5, h6⟩ := HD5.out
          obtain ⟨_, _, y2, y3, _⟩ := head4 h2.head
          exact ⟨y2, y3⟩
        clear hb5
        have e1 : ((cn : Int) == (cn : Int)) = true := by simp
        have e2 : (s == s) = true := by simp
        have e3 : (t == t) = true := by simp
        go_wp2_with fail
        refine (awake26_calls w5).mono ?_
        rintro e w6 ⟨rfl, hb6⟩
        have HB6 : Hid (Below w.heap.size w w6) := by
          obtain ⟨F, m, nk, f, v, h1, h2, h3, h4, h5, h6⟩ := HD5.out
          exact below_next h6 hb6
        clear hb6
        go_wp2_with fail
        go_ret
        exact ⟨rfl, HB6.out⟩
theorem plays26_law (w : World) (n : Int) (hn : -9223372036854775808 ≤ n ∧ n ≤ 9223372036854775807) (B : Option Addr) (ln lc : Nat) (hd : IsDeeds w B ln lc) (i : Int) (hi : -9223372036854775808 ≤ i ∧ i ≤ 9223372036854775807) (j : Int) (hj : -9223372036854775808 ≤ j ∧ j ≤ 9223372036854775807) :
    Calls Try.prog 10 #[.int .i64 n, .slice B ln lc, .int .i64 i, .int .i64 j] w fun e w' => e = .returned (.bool true) ∧ Below w.heap.size w w' := plays26_calls w n hn B ln lc hd i j
end Ref
end Go.Proofs.Ytdmpgoaemoiogaa
