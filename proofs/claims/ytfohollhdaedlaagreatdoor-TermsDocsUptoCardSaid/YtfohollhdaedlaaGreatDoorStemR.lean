/- The walks: the reference of layer 16. Written by stemr.py. -/
import Derived.Test.YtfohollhdaedlaaGreatDoorStemA
set_option linter.unusedVariables false
set_option linter.unusedSimpArgs false
set_option maxRecDepth 100000
namespace Go.Proofs.YtfohollhdaedlaaGreatDoor
open Go.RowKit
namespace Stem
set_option maxHeartbeats 400000 in
theorem rends_calls (s e : ByteArray) (hs : s.size ≤ 140737488351232) (hp : e.size ≤ 140737488351232) (w : World) :
    Calls Tryz.prog 93 #[.string s, .string e] w fun x w' => x = .returned (.bool (suf s e)) ∧ w' = w := by
  by_cases h : e.size ≤ s.size
  · have hsl := slice_str_from Tryz.underlying9 s .i64 ((s.size : Int) - e.size) (s.size - e.size) (by omega) (by omega)
    have hd : (e.size : Int) ≤ s.size := by omega
    go_enter Tryz.func93, Tryz.ntmps93
    go_wp2_with fail
    go_ret
    refine ⟨ret_bool ?_, rfl⟩
    rw [suf, decide_eq_true h, Bool.true_and, ← toList_beq]
  · have hd : (s.size : Int) < e.size := by omega
    go_enter Tryz.func93, Tryz.ntmps93
    go_wp2_with fail
    go_ret
    exact ⟨ret_bool (by simp [suf, h]), rfl⟩
set_option maxHeartbeats 400000 in
theorem rless_calls (s : ByteArray) (n : Nat) (hn : n ≤ s.size) (hs : s.size ≤ 140737488351232) (w : World) :
    Calls Tryz.prog 94 #[.string s, .int .i64 n] w fun x w' => x = .returned (.string (less s n)) ∧ w' = w := by
  have hsl := slice_str_to Tryz.underlying9 s .i64 ((s.size : Int) - n) (s.size - n) (by omega) (by omega)
  go_enter Tryz.func94, Tryz.ntmps94
  go_wp2_with fail
  go_ret
  exact ⟨rfl, rfl⟩
/-- Is a byte one of some? -/
def oneF (t : ByteArray) (c : Int) : Bool := (List.range t.size).any fun i => decide (byt t i = c)
theorem oneF_true {t : ByteArray} {c : Int} {i : Nat} (h : i < t.size) (hc : byt t i = c) : oneF t c = true := by
  rw [oneF, List.any_eq_true]; exact ⟨i, by simpa using h, by simp [hc]⟩
theorem oneF_false {t : ByteArray} {c : Int} (h : ∀ i, i < t.size → byt t i ≠ c) : oneF t c = false := by
  rw [oneF, List.any_eq_false]; exact fun i hi => by simp [h i (by simpa using hi)]
theorem one_vow (c : Int) (h0 : 0 ≤ c) (h1 : c < 256) : oneF { data := #[97, 101, 105, 111, 117, 121] } c = vow c := by
  have h : ∀ a : Fin 256, oneF { data := #[97, 101, 105, 111, 117, 121] } (a.val : Int) = vow (a.val : Int) := by decide +kernel
  obtain ⟨n, rfl⟩ := Int.eq_ofNat_of_zero_le h0
  exact h ⟨n, by omega⟩
theorem one_both (c : Int) (h0 : 0 ≤ c) (h1 : c < 256) : oneF { data := #[97, 101, 105, 111, 117, 121, 108, 115, 122] } c = (vow c || lsz c) := by
  have h : ∀ a : Fin 256, oneF { data := #[97, 101, 105, 111, 117, 121, 108, 115, 122] } (a.val : Int) = (vow (a.val : Int) || lsz (a.val : Int)) := by decide +kernel
  obtain ⟨n, rfl⟩ := Int.eq_ofNat_of_zero_le h0
  exact h ⟨n, by omega⟩
set_option maxHeartbeats 1000000 in
theorem rone_calls (c : Int) (t : ByteArray) (ht : t.size ≤ 100) (w : World) :
    Calls Tryz.prog 96 #[.int .u8 c, .string t] w fun x w' => x = .returned (.bool (oneF t c)) ∧ w' = w := by
  go_enter Tryz.func96, Tryz.ntmps96
  go_wp2_with fail
  go_loopw [8] (fun ix wr => ∃ i : Nat, i ≤ t.size ∧ ix = .int .i64 i ∧ Hid (∀ j, j < i → byt t j ≠ c) ∧ w = wr) (fun ix _ => t.size - (intOf ix).toNat)
  case atStart => exact ⟨0, Nat.zero_le _, rfl, fun j hj => absurd hj (Nat.not_lt_zero j), rfl⟩
  case round =>
    obtain ⟨i, hi, rfl, HV, rfl⟩ := hrel
    by_cases hlt : i < t.size
    · have hix := idx_str (P := Tryz.prog) Tryz.underlying9 t .i64 i (i : Int) rfl hlt
      have HT : Hid (byt t i = c → oneF t c = true) := fun h => oneF_true hlt h
      have HN : Hid (byt t i ≠ c → ∀ j, j < i + 1 → byt t j ≠ c) := fun h j hj => by
        rcases Nat.lt_or_ge j i with h3 | h3
        · exact HV.out j h3
        · obtain rfl : j = i := by omega
          exact h
      generalize byt t i = b at hix HT HN
      by_cases hb : b = c
      · have HZ := Lib.hid (HT.out hb)
        subst hb
        go_wp2_with fail
        go_ret
        exact ⟨ret_bool HZ.out.symm, rfl⟩
      · have HZ : Hid (∀ j, j < i + 1 → byt t j ≠ c) := HN.out hb
        have hbe : (b == c) = false := by simp [hb]
        go_wp2_with fail
        go_roundw
        case rel => exact ⟨i + 1, by omega, by go_num, HZ.out, trivial⟩
        case measure => simp [intOf]; omega
    · have HZ := Lib.hid (oneF_false (t := t) (c := c) fun j hj => HV.out j (by omega))
      go_wp2_with fail
      go_ret
      exact ⟨ret_bool HZ.out.symm, rfl⟩
set_option maxHeartbeats 1000000 in
theorem rplain_calls (s : ByteArray) (hs : s.size ≤ 140737488351232) (w : World) :
    Calls Tryz.prog 70 #[.string s] w fun e w' => e = .returned (.bool (plainF s)) ∧ w' = w := by
  go_enter Tryz.func70, Tryz.ntmps70
  go_wp2_with fail
  go_loopw [6] (fun ix wr => ∃ i : Nat, i ≤ s.size ∧ ix = .int .i64 i ∧ Hid (∀ j, j < i → az s j = true) ∧ w = wr) (fun ix _ => s.size - (intOf ix).toNat)
  case atStart => exact ⟨0, Nat.zero_le _, rfl, fun j hj => absurd hj (Nat.not_lt_zero j), rfl⟩
  case round =>
    obtain ⟨i, hi, rfl, HV, rfl⟩ := hrel
    by_cases hlt : i < s.size
    · have hix := idx_str (P := Tryz.prog) Tryz.underlying9 s .i64 i (i : Int) rfl hlt
      by_cases h1 : byt s i < 97
      · have HZ := Lib.hid (allAz_false hlt (by simp [az]; omega))
        generalize byt s i = b at hix h1
        go_wp2_with fail
        go_ret
        exact ⟨ret_bool (by rw [plainF, HZ.out]; rfl), rfl⟩
      · by_cases h2 : 122 < byt s i
        · have HZ := Lib.hid (allAz_false hlt (by simp [az]; omega))
          have h1' : 97 ≤ byt s i := by omega
          generalize byt s i = b at hix h1' h2
          go_wp2_with fail
          go_ret
          exact ⟨ret_bool (by rw [plainF, HZ.out]; rfl), rfl⟩
        · have HN : Hid (∀ j, j < i + 1 → az s j = true) := fun j hj => by
            rcases Nat.lt_or_ge j i with h3 | h3
            · exact HV.out j h3
            · obtain rfl : j = i := by omega
              simp [az]; omega
          have h1' : 97 ≤ byt s i := by omega
          have h2' : byt s i ≤ 122 := by omega
          generalize byt s i = b at hix h1' h2'
          go_wp2_with fail
          go_roundw
          case rel => exact ⟨i + 1, by omega, by go_num, HN.out, trivial⟩
          case measure => simp [intOf]; omega
    · have HZ := Lib.hid (allAz_true fun j hj => HV.out j (by omega))
      go_wp2_with fail
      go_ret
      exact ⟨ret_bool (by rw [plainF, HZ.out, Bool.true_and]; simp; omega), rfl⟩

set_option maxHeartbeats 2000000 in
theorem rfirst_calls (s : ByteArray) (hs : s.size ≤ 140737488351232) (w : World) :
    Calls Tryz.prog 71 #[.string s] w fun e w' => e = .returned (.string (pluralF s)) ∧ w' = w := by
  have c1 := fun w => rends_calls s tSses hs (by decide) w
  have c2 := fun w => rends_calls s tIes hs (by decide) w
  have c3 := fun w => rends_calls s tSs hs (by decide) w
  have c4 := fun w => rends_calls s tUs hs (by decide) w
  have c5 := fun w => rends_calls s tIs hs (by decide) w
  have c6 := fun w => rends_calls s tS hs (by decide) w
  cases h1 : suf s tSses
  · rw [h1] at c1
    cases h3 : suf s tIes
    · rw [h3] at c2
      cases h5 : suf s tSs
      · rw [h5] at c3
        cases h6 : suf s tUs
        · rw [h6] at c4
          cases h7 : suf s tIs
          · rw [h7] at c5
            cases h8 : suf s tS
            · rw [h8] at c6
              have hv : pluralF s = s := by unfold pluralF; simp only [h1, h3, h5, h6, h7, h8]; simp
              rw [hv]
              clear hv
              go_enter Tryz.func71, Tryz.ntmps71
              go_wp2_with fail
              refine (c1 _).mono ?_
              rintro e w1 ⟨rfl, rfl⟩
              go_wp2_with fail
              refine (c2 _).mono ?_
              rintro e w1 ⟨rfl, rfl⟩
              go_wp2_with fail
              refine (c3 _).mono ?_
              rintro e w1 ⟨rfl, rfl⟩
              go_wp2_with fail
              refine (c4 _).mono ?_
              rintro e w1 ⟨rfl, rfl⟩
              go_wp2_with fail
              refine (c5 _).mono ?_
              rintro e w1 ⟨rfl, rfl⟩
              go_wp2_with fail
              refine (c6 _).mono ?_
              rintro e w1 ⟨rfl, rfl⟩
              go_wp2_with fail
              go_ret
              exact ⟨rfl, rfl⟩
            · rw [h8] at c6
              have hle := suf_le h8
              have c7 := fun w => rless_calls s 1 hle hs w
              have hv : pluralF s = less s 1 := by unfold pluralF; simp only [h1, h3, h5, h6, h7, h8]; simp
              rw [hv]
              clear hv
              go_enter Tryz.func71, Tryz.ntmps71
              go_wp2_with fail
              refine (c1 _).mono ?_
              rintro e w1 ⟨rfl, rfl⟩
              go_wp2_with fail
              refine (c2 _).mono ?_
              rintro e w1 ⟨rfl, rfl⟩
              go_wp2_with fail
              refine (c3 _).mono ?_
              rintro e w1 ⟨rfl, rfl⟩
              go_wp2_with fail
              refine (c4 _).mono ?_
              rintro e w1 ⟨rfl, rfl⟩
              go_wp2_with fail
              refine (c5 _).mono ?_
              rintro e w1 ⟨rfl, rfl⟩
              go_wp2_with fail
              refine (c6 _).mono ?_
              rintro e w1 ⟨rfl, rfl⟩
              go_wp2_with fail
              refine (c7 _).mono ?_
              rintro e w1 ⟨rfl, rfl⟩
              go_wp2_with fail
              go_ret
              exact ⟨rfl, rfl⟩
          · rw [h7] at c5
            have hv : pluralF s = s := by unfold pluralF; simp only [h1, h3, h5, h6, h7]; simp
            rw [hv]
            clear hv
            go_enter Tryz.func71, Tryz.ntmps71
            go_wp2_with fail
            refine (c1 _).mono ?_
            rintro e w1 ⟨rfl, rfl⟩
            go_wp2_with fail
            refine (c2 _).mono ?_
            rintro e w1 ⟨rfl, rfl⟩
            go_wp2_with fail
            refine (c3 _).mono ?_
            rintro e w1 ⟨rfl, rfl⟩
            go_wp2_with fail
            refine (c4 _).mono ?_
            rintro e w1 ⟨rfl, rfl⟩
            go_wp2_with fail
            refine (c5 _).mono ?_
            rintro e w1 ⟨rfl, rfl⟩
            go_wp2_with fail
            go_ret
            exact ⟨rfl, rfl⟩
        · rw [h6] at c4
          have hv : pluralF s = s := by unfold pluralF; simp only [h1, h3, h5, h6]; simp
          rw [hv]
          clear hv
          go_enter Tryz.func71, Tryz.ntmps71
          go_wp2_with fail
          refine (c1 _).mono ?_
          rintro e w1 ⟨rfl, rfl⟩
          go_wp2_with fail
          refine (c2 _).mono ?_
          rintro e w1 ⟨rfl, rfl⟩
          go_wp2_with fail
          refine (c3 _).mono ?_
          rintro e w1 ⟨rfl, rfl⟩
          go_wp2_with fail
          refine (c4 _).mono ?_
          rintro e w1 ⟨rfl, rfl⟩
          go_wp2_with fail
          go_ret
          exact ⟨rfl, rfl⟩
      · rw [h5] at c3
        have hv : pluralF s = s := by unfold pluralF; simp only [h1, h3, h5]; simp
        rw [hv]
        clear hv
        go_enter Tryz.func71, Tryz.ntmps71
        go_wp2_with fail
        refine (c1 _).mono ?_
        rintro e w1 ⟨rfl, rfl⟩
        go_wp2_with fail
        refine (c2 _).mono ?_
        rintro e w1 ⟨rfl, rfl⟩
        go_wp2_with fail
        refine (c3 _).mono ?_
        rintro e w1 ⟨rfl, rfl⟩
        go_wp2_with fail
        go_ret
        exact ⟨rfl, rfl⟩
    · rw [h3] at c2
      by_cases h4 : 4 < s.size
      · have h4' : (4 : Int) < s.size := by omega
        have hle := suf_le h3
        have h3s : (less s 3).size = s.size - 3 := less_size s 3
        have h3l : (less s 3).size + 1 ≤ 140737488355327 := by omega
        have c7 := fun w => rless_calls s 3 (by omega) hs w
        have hd4 : decide (4 < s.size) = true := decide_eq_true h4
        have hv : pluralF s = less s 3 ++ tY := by unfold pluralF; simp only [h1, h3, hd4]; simp
        rw [hv]
        clear hv
        clear h3s
        generalize less s 3 = q at *
        go_enter Tryz.func71, Tryz.ntmps71
        go_wp2_with fail
        refine (c1 _).mono ?_
        rintro e w1 ⟨rfl, rfl⟩
        go_wp2_with fail
        refine (c2 _).mono ?_
        rintro e w1 ⟨rfl, rfl⟩
        go_wp2_with fail
        refine (c7 _).mono ?_
        rintro e w1 ⟨rfl, rfl⟩
        go_wp2_with fail
        go_ret
        exact ⟨rfl, rfl⟩
      · have h4' : (s.size : Int) ≤ 4 := by omega
        have hd4 : decide (4 < s.size) = false := decide_eq_false h4
        cases h5 : suf s tSs
        · rw [h5] at c3
          cases h6 : suf s tUs
          · rw [h6] at c4
            cases h7 : suf s tIs
            · rw [h7] at c5
              cases h8 : suf s tS
              · rw [h8] at c6
                have hv : pluralF s = s := by unfold pluralF; simp only [h1, h3, hd4, h5, h6, h7, h8]; simp
                rw [hv]
                clear hv
                go_enter Tryz.func71, Tryz.ntmps71
                go_wp2_with fail
                refine (c1 _).mono ?_
                rintro e w1 ⟨rfl, rfl⟩
                go_wp2_with fail
                refine (c2 _).mono ?_
                rintro e w1 ⟨rfl, rfl⟩
                go_wp2_with fail
                refine (c3 _).mono ?_
                rintro e w1 ⟨rfl, rfl⟩
                go_wp2_with fail
                refine (c4 _).mono ?_
                rintro e w1 ⟨rfl, rfl⟩
                go_wp2_with fail
                refine (c5 _).mono ?_
                rintro e w1 ⟨rfl, rfl⟩
                go_wp2_with fail
                refine (c6 _).mono ?_
                rintro e w1 ⟨rfl, rfl⟩
                go_wp2_with fail
                go_ret
                exact ⟨rfl, rfl⟩
              · rw [h8] at c6
                have hle := suf_le h8
                have c7 := fun w => rless_calls s 1 hle hs w
                have hv : pluralF s = less s 1 := by unfold pluralF; simp only [h1, h3, hd4, h5, h6, h7, h8]; simp
                rw [hv]
                clear hv
                go_enter Tryz.func71, Tryz.ntmps71
                go_wp2_with fail
                refine (c1 _).mono ?_
                rintro e w1 ⟨rfl, rfl⟩
                go_wp2_with fail
                refine (c2 _).mono ?_
                rintro e w1 ⟨rfl, rfl⟩
                go_wp2_with fail
                refine (c3 _).mono ?_
                rintro e w1 ⟨rfl, rfl⟩
                go_wp2_with fail
                refine (c4 _).mono ?_
                rintro e w1 ⟨rfl, rfl⟩
                go_wp2_with fail
                refine (c5 _).mono ?_
                rintro e w1 ⟨rfl, rfl⟩
                go_wp2_with fail
                refine (c6 _).mono ?_
                rintro e w1 ⟨rfl, rfl⟩
                go_wp2_with fail
                refine (c7 _).mono ?_
                rintro e w1 ⟨rfl, rfl⟩
                go_wp2_with fail
                go_ret
                exact ⟨rfl, rfl⟩
            · rw [h7] at c5
              have hv : pluralF s = s := by unfold pluralF; simp only [h1, h3, hd4, h5, h6, h7]; simp
              rw [hv]
              clear hv
              go_enter Tryz.func71, Tryz.ntmps71
              go_wp2_with fail
              refine (c1 _).mono ?_
              rintro e w1 ⟨rfl, rfl⟩
              go_wp2_with fail
              refine (c2 _).mono ?_
              rintro e w1 ⟨rfl, rfl⟩
              go_wp2_with fail
              refine (c3 _).mono ?_
              rintro e w1 ⟨rfl, rfl⟩
              go_wp2_with fail
              refine (c4 _).mono ?_
              rintro e w1 ⟨rfl, rfl⟩
              go_wp2_with fail
              refine (c5 _).mono ?_
              rintro e w1 ⟨rfl, rfl⟩
              go_wp2_with fail
              go_ret
              exact ⟨rfl, rfl⟩
          · rw [h6] at c4
            have hv : pluralF s = s := by unfold pluralF; simp only [h1, h3, hd4, h5, h6]; simp
            rw [hv]
            clear hv
            go_enter Tryz.func71, Tryz.ntmps71
            go_wp2_with fail
            refine (c1 _).mono ?_
            rintro e w1 ⟨rfl, rfl⟩
            go_wp2_with fail
            refine (c2 _).mono ?_
            rintro e w1 ⟨rfl, rfl⟩
            go_wp2_with fail
            refine (c3 _).mono ?_
            rintro e w1 ⟨rfl, rfl⟩
            go_wp2_with fail
            refine (c4 _).mono ?_
            rintro e w1 ⟨rfl, rfl⟩
            go_wp2_with fail
            go_ret
            exact ⟨rfl, rfl⟩
        · rw [h5] at c3
          have hv : pluralF s = s := by unfold pluralF; simp only [h1, h3, hd4, h5]; simp
          rw [hv]
          clear hv
          go_enter Tryz.func71, Tryz.ntmps71
          go_wp2_with fail
          refine (c1 _).mono ?_
          rintro e w1 ⟨rfl, rfl⟩
          go_wp2_with fail
          refine (c2 _).mono ?_
          rintro e w1 ⟨rfl, rfl⟩
          go_wp2_with fail
          refine (c3 _).mono ?_
          rintro e w1 ⟨rfl, rfl⟩
          go_wp2_with fail
          go_ret
          exact ⟨rfl, rfl⟩
  · rw [h1] at c1
    have hle := suf_le h1
    have h4 : 4 ≤ s.size := hle
    have c7 := fun w => rless_calls s 2 (by omega) hs w
    have hv : pluralF s = less s 2 := by unfold pluralF; simp only [h1]; simp
    rw [hv]
    clear hv
    go_enter Tryz.func71, Tryz.ntmps71
    go_wp2_with fail
    refine (c1 _).mono ?_
    rintro e w1 ⟨rfl, rfl⟩
    go_wp2_with fail
    refine (c7 _).mono ?_
    rintro e w1 ⟨rfl, rfl⟩
    go_wp2_with fail
    go_ret
    exact ⟨rfl, rfl⟩
set_option maxHeartbeats 2000000 in
theorem rbare_calls (s : ByteArray) (n : Nat) (hn : n ≤ s.size) (hs : s.size ≤ 140737488351232) (w : World) :
    Calls Tryz.prog 95 #[.string s, .int .i64 n] w fun e w' => e = .returned (.tuple #[.string (less s n), .bool (vowelsF (less s n) && decide (3 ≤ (less s n).size))]) ∧ w' = w := by
  have hls := less_size s n
  have c0 := fun W => rless_calls s n hn hs W
  have hql : (less s n).size ≤ 140737488351232 := by omega
  clear hls
  generalize less s n = q at *
  go_enter Tryz.func95, Tryz.ntmps95
  go_wp2_with fail
  refine (c0 _).mono ?_
  rintro e w1 ⟨rfl, rfl⟩
  go_wp2_with fail
  go_loopw [7, 14] (fun sm ix wr => ∃ i : Nat, i ≤ q.size ∧ ix = .int .i64 i ∧ ((sm = .bool false ∧ Hid (∀ j, j < i → vow (byt q j) = false)) ∨ (sm = .bool true ∧ Hid (vowelsF q = true))) ∧ w1 = wr) (fun _ ix _ => q.size - (intOf ix).toNat)
  case atStart => exact ⟨0, Nat.zero_le _, rfl, .inl ⟨rfl, fun j hj => absurd hj (Nat.not_lt_zero j)⟩, rfl⟩
  case round =>
    obtain ⟨i, hi, rfl, hsm, rfl⟩ := hrel
    by_cases hlt : i < q.size
    · rcases hsm with ⟨rfl, HV⟩ | ⟨rfl, HV⟩
      · have hix := idx_str (P := Tryz.prog) Tryz.underlying9 q .i64 i (i : Int) rfl hlt
        have hrg := byt_range q i
        have hov := one_vow _ hrg.1 hrg.2
        have HT : Hid (vow (byt q i) = true → vowelsF q = true) := fun h => vowelsF_true hlt h
        have HN : Hid (vow (byt q i) = false → ∀ j, j < i + 1 → vow (byt q j) = false) := fun h j hj => by
          rcases Nat.lt_or_ge j i with h3 | h3
          · exact HV.out j h3
          · obtain rfl : j = i := by omega
            exact h
        generalize byt q i = b at *
        have c1 := fun W => rone_calls b { data := #[97, 101, 105, 111, 117, 121] } (by decide) W
        rw [hov] at c1
        cases hv : vow b
        · have HZ := Lib.hid (HN.out hv)
          rw [hv] at c1
          go_wp2_with fail
          refine (c1 _).mono ?_
          rintro e w2 ⟨rfl, rfl⟩
          go_wp2_with fail
          go_roundw
          case rel => exact ⟨i + 1, by omega, by go_num, .inl ⟨rfl, HZ.out⟩, trivial⟩
          case measure => simp [intOf]; omega
        · have HZ := Lib.hid (HT.out hv)
          rw [hv] at c1
          go_wp2_with fail
          refine (c1 _).mono ?_
          rintro e w2 ⟨rfl, rfl⟩
          go_wp2_with fail
          go_roundw
          case rel => exact ⟨i + 1, by omega, by go_num, .inr ⟨rfl, HZ.out⟩, trivial⟩
          case measure => simp [intOf]; omega
      · go_wp2_with fail
        go_roundw
        case rel => exact ⟨i + 1, by omega, by go_num, .inr ⟨rfl, HV.out⟩, trivial⟩
        case measure => simp [intOf]; omega
    · rcases hsm with ⟨rfl, HV⟩ | ⟨rfl, HV⟩
      · have HZ := Lib.hid (vowelsF_false (s := q) fun j hj => HV.out j (by omega))
        go_wp2_with fail
        go_ret2
        refine ⟨?_, rfl⟩
        rw [HZ.out, Bool.false_and]
        rfl
      · have HZ := Lib.hid HV.out
        by_cases h3 : 3 ≤ q.size
        · have h3' : (2 : Int) < q.size := by omega
          go_wp2_with fail
          go_ret2
          refine ⟨?_, rfl⟩
          rw [HZ.out, decide_eq_true h3, Bool.true_and]
          rfl
        · have h3' : (q.size : Int) ≤ 2 := by omega
          have hd3 : decide ((2 : Int) < (q.size : Int)) = false := by simp; omega
          go_wp2_with fail
          go_ret2
          refine ⟨?_, rfl⟩
          rw [HZ.out, decide_eq_false h3, Bool.and_false]
          rfl
end Stem
end Go.Proofs.YtfohollhdaedlaaGreatDoor
