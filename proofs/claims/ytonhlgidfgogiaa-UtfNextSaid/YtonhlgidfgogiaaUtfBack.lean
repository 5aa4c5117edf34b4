/- UtfBack: a sign that was put is found, with as many bytes: the plain law and the walk. -/
import Derived.Test.YtonhlgidfgogiaaUtfP2
import Derived.Test.YtonhlgidfgogiaaBytesArg
set_option linter.unusedVariables false
set_option linter.unusedSimpArgs false
namespace Go.Proofs.Ytonhlgidfgogiaa
open Go.RowKit
namespace Utf

theorem byt_str {l : List Int} (hl : Byt l) {i : Nat} {x : Int} (h : l[i]? = some x) : byt (strOfNums l) i = x := by
  have hlen : i < l.length := (List.getElem?_eq_some_iff.1 h).1
  have := bytesOf_get (strOfNums l) i (by rw [strOfNums_size]; exact hlen)
  rw [bytesOf_strOfNums hl, h] at this
  exact (Option.some.inj this).symm
/-- The sign whose bytes a text is. -/
theorem nx_enc (r : Int) (hs : sgn r = true) : nx (strOfNums (enc r)) 0 = (r, ((enc r).length : Int)) := by
  have hs' := (sgn_iff r).1 hs
  have hb := enc_byt r
  by_cases h1 : r ≤ 127
  · have he := enc1 hs h1
    rw [he] at hb ⊢
    have b0 := byt_str hb (i := 0) rfl
    rw [← ref_nx _ (by rw [strOfNums_size]; simp), refN_hit (by rw [strOfNums_size]; simp) ((ok1 _).2 (by rw [b0]; exact h1))]
    simp only [rv, b0]; rfl
  · by_cases h2 : r ≤ 2047
    · have he := enc2 hs h1 h2
      rw [he] at hb ⊢
      have b0 := byt_str hb (i := 0) rfl
      have b1 := byt_str hb (i := 1) rfl
      have hr : rv (strOfNums [192 + r / 64, 128 + r % 64]) 2 = r := by simp only [rv, b0, b1]; omega
      rw [← ref_nx _ (by rw [strOfNums_size]; simp), refN_step (by rw [strOfNums_size]; simp) (fun e => by have := (ok1 _).1 e; rw [b0] at this; omega),
        refN_hit (by rw [strOfNums_size]; simp) ((ok2 _).2 ⟨by rw [b0]; omega, by rw [b1]; omega, by rw [hr]; omega⟩)]
      rw [hr]; rfl
    · by_cases h3 : r ≤ 65535
      · have he := enc3 hs h1 h2 h3
        rw [he] at hb ⊢
        have b0 := byt_str hb (i := 0) rfl
        have b1 := byt_str hb (i := 1) rfl
        have b2 := byt_str hb (i := 2) rfl
        have hr : rv (strOfNums [224 + r / 4096, 128 + r / 64 % 64, 128 + r % 64]) 3 = r := by simp only [rv, b0, b1, b2]; omega
        rw [← ref_nx _ (by rw [strOfNums_size]; simp), refN_step (by rw [strOfNums_size]; simp) (fun e => by have := (ok1 _).1 e; rw [b0] at this; omega),
          refN_step (by rw [strOfNums_size]; simp) (fun e => by have := (ok2 _).1 e; rw [b0] at this; omega),
          refN_hit (by rw [strOfNums_size]; simp) ((ok3 _).2 ⟨by rw [b0]; omega, by rw [b1]; omega, by rw [b2]; omega, by rw [hr]; omega, by rw [hr]; exact hs⟩)]
        rw [hr]; rfl
      · have he := enc4 hs h1 h2 h3
        rw [he] at hb ⊢
        have b0 := byt_str hb (i := 0) rfl
        have b1 := byt_str hb (i := 1) rfl
        have b2 := byt_str hb (i := 2) rfl
        have b3 := byt_str hb (i := 3) rfl
        have hr : rv (strOfNums [240 + r / 262144, 128 + r / 4096 % 64, 128 + r / 64 % 64, 128 + r % 64]) 4 = r := by simp only [rv, b0, b1, b2, b3]; omega
        rw [← ref_nx _ (by rw [strOfNums_size]; simp), refN_step (by rw [strOfNums_size]; simp) (fun e => by have := (ok1 _).1 e; rw [b0] at this; omega),
          refN_step (by rw [strOfNums_size]; simp) (fun e => by have := (ok2 _).1 e; rw [b0] at this; omega),
          refN_step (by rw [strOfNums_size]; simp) (fun e => by have := (ok3 _).1 e; rw [b0] at this; omega),
          refN_hit (by rw [strOfNums_size]; simp) ((ok4 _).2 ⟨by rw [b0]; omega, by rw [b1]; omega, by rw [b2]; omega, by rw [b3]; omega, by rw [hr]; omega, by rw [hr]; exact hs⟩)]
        rw [hr]; rfl
theorem enc_pos (r : Int) (hs : sgn r = true) : 1 ≤ (enc r).length := by
  by_cases h1 : r ≤ 127
  · rw [enc1 hs h1]; simp
  · by_cases h2 : r ≤ 2047
    · rw [enc2 hs h1 h2]; simp
    · by_cases h3 : r ≤ 65535
      · rw [enc3 hs h1 h2 h3]; simp
      · rw [enc4 hs h1 h2 h3]; simp
theorem nx_put (bs : List Int) (hb : Byt bs) (r : Int) (hs : sgn r = true) : nx (strOfNums (bs ++ enc r)) bs.length = (r, ((enc r).length : Int)) := by
  have hB : Byt (bs ++ enc r) := fun b hm => by
    rcases List.mem_append.1 hm with h | h
    · exact hb b h
    · exact enc_byt r b h
  have hp := enc_pos r hs
  have hlt : bs.length < (strOfNums (bs ++ enc r)).size := by rw [strOfNums_size, List.length_append]; omega
  rw [← nx_from _ _ hlt, ← nx_enc r hs]
  congr 1
  apply bytesOf_inj
  rw [bytesOf_extract, bytesOf_strOfNums hB, bytesOf_strOfNums (enc_byt r), strOfNums_size, List.drop_left, List.length_append]
  exact List.take_of_length_le (by omega)

theorem IsSl.take {w : World} {A : Option Addr} {n c m : Nat} {l : List Value} (h : IsSl w 1 A n c l) (hm : m ≤ n) : IsSl w 1 A m c (l.take m) :=
  ⟨by have := h.1; simp; omega, by have := h.2.1; omega, h.2.2.1, fun a => by have := h.2.2.2.1 a; omega, fun ad ha j u hu => by
    rw [List.getElem?_take] at hu
    split at hu
    · exact h.2.2.2.2 ad ha j u hu
    · cases hu⟩

set_option maxHeartbeats 1000000 in
set_option maxRecDepth 100000 in
theorem back_proof (w : World) (A : Option Addr) (n c : Nat) (l : List Int) (h : IsBytes w A n c l) (r : Int) (hr : -9223372036854775808 ≤ r ∧ r ≤ 9223372036854775807) :
    Calls Try.prog 5 #[.slice A n c, .int .i64 r] w fun e w' => e = .returned (.bool true) ∧ Below w.heap.size w w' := by
  obtain ⟨hsl, hby, hn⟩ := h
  have hnc : (n : Int) ≤ c := by have := hsl.2.1; omega
  have hlen : l.length = n := by simpa using hsl.1
  obtain ⟨m, hm, hmn, hmm⟩ : ∃ m : Nat, min n 4096 = m ∧ m ≤ n ∧ (m : Int) ≤ 4096 := ⟨_, rfl, by omega, by omega⟩
  have hs1 : IsSl w 1 A m c ((l.take m).map (.int .u8)) := by rw [List.map_take]; exact IsSl.take hsl hmn
  have hby1 : Byt (l.take m) := fun b hb => hby b (List.mem_of_mem_take hb)
  have hl1 : (l.take m).length = m := by simp; omega
  generalize l.take m = bs at *
  have hmc : (m : Int) ≤ c := by omega
  have HBS := Lib.hid hby1
  have HL := Lib.hid hl1
  have HS := Lib.hid hs1
  have hncn : n ≤ c := by omega
  have hcase : ((n : Int) ≤ 4096 ∧ m = n) ∨ (¬ (n : Int) ≤ 4096 ∧ m = 4096) := by omega
  clear hsl hby hlen hby1 hl1 hs1 hm
  have HP := Lib.hid (fun W (hb : Below w.heap.size w W) => put_calls A m c bs r hr W (IsSl.below HS.out hb) (by omega))
  cases hs : sgn r
  · have he : bs ++ enc r = bs := by rw [enc0 hs, List.append_nil]
    rw [he] at HP
    have HN := Lib.hid (fun W => next_calls (strOfNums bs) m (by rw [strOfNums_size, HL.out]; omega) W)
    rw [next_out (s := strOfNums bs) (.inr (by rw [strOfNums_size, HL.out]; omega))] at HN
    clear he
    rcases hcase with ⟨hn4, rfl⟩ | ⟨hn4, rfl⟩
    all_goals
      go_enter Try.func5, Try.ntmps5
      go_wp2_with fail
      refine (HP.out _ (Below.refl _ _)).mono ?_
      rintro e w1 ⟨v, rfl, ho, hb1⟩
      obtain ⟨A1, c1, rfl, hsl1⟩ := own_form ho
      have hcv := run_str_of (P := Try.prog) w1 28 9 5 Try.underlying28 Try.underlying5 Try.underlying9 A1 _ c1 _ hsl1
      have HS1 := Lib.hid hsl1
      clear ho hsl1
      go_wp2_with fail
      refine (HN.out _).mono ?_
      rintro e w2 ⟨rfl, hb2⟩
      clear hcv
      go_wp2_with fail
      refine (sign_calls r _).mono ?_
      rintro e w3 ⟨rfl, rfl⟩
      rw [hs]
      clear hs
      go_wp2_with fail
      refine (equal_calls A1 A _ _ c1 c bs bs _ (HS1.out.below hb2) ((HS.out.below hb1).below hb2) HBS.out HBS.out).mono ?_
      rintro e w4 ⟨rfl, rfl⟩
      go_wp2_with fail
      refine (awake_calls _).mono ?_
      rintro e w5 ⟨rfl, hb5⟩
      go_wp2_with fail
      go_ret
      exact ⟨rfl, below_next (below_next hb1 hb2) hb5⟩
  · have hp := enc_pos r hs
    have hp4 := enc_length r
    have HN := Lib.hid (fun W => next_calls (strOfNums (bs ++ enc r)) m (by rw [strOfNums_size, List.length_append, HL.out]; omega) W)
    rw [next_in (s := strOfNums (bs ++ enc r)) (by rw [strOfNums_size, List.length_append, HL.out]; omega)] at HN
    have hx := nx_put bs HBS.out r hs
    rw [HL.out] at hx
    rw [hx] at HN
    have hlen : (bs ++ enc r).length = m + (enc r).length := by rw [List.length_append, HL.out]
    generalize (enc r).length = q at *
    obtain ⟨t, ht⟩ : ∃ t, m + q = t := ⟨_, rfl⟩
    rw [ht] at hlen
    have HLE := Lib.hid hlen
    have hsub : (t : Int) - m = q := by omega
    have ht1 : (t : Int) ≤ 5000 := by omega
    have hqq : ((q : Int) == q) = true := by simp
    clear hx hlen ht
    rcases hcase with ⟨hn4, hm4⟩ | ⟨hn4, hm4⟩
    all_goals
      have H4 := Lib.hid hm4
      clear hm4
      go_enter Try.func5, Try.ntmps5
      go_wp2_with fail
      rw [← H4.out]
      refine (HP.out _ (Below.refl _ _)).mono ?_
      rintro e w1 ⟨v, rfl, ho, hb1⟩
      obtain ⟨A1, c1, rfl, hsl1⟩ := own_form ho
      have hcv := run_str_of (P := Try.prog) w1 28 9 5 Try.underlying28 Try.underlying5 Try.underlying9 A1 _ c1 _ hsl1
      rw [HLE.out] at hcv ⊢
      clear ho hsl1
      go_wp2_with fail
      refine (HN.out _).mono ?_
      rintro e w2 ⟨rfl, hb2⟩
      clear hcv
      go_wp2_with fail
      refine (sign_calls r _).mono ?_
      rintro e w3 ⟨rfl, rfl⟩
      rw [hs]
      clear hs
      go_wp2_with fail
      refine (awake_calls _).mono ?_
      rintro e w5 ⟨rfl, hb5⟩
      go_wp2_with fail
      go_ret
      exact ⟨rfl, below_next (below_next hb1 hb2) hb5⟩
end Utf
end Go.Proofs.Ytonhlgidfgogiaa
