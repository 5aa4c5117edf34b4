/- The walks: the reference of layer 16, its third step, Stop and Stem; the law StemWords. Written by stemr3.py. -/
import Derived.Test.YtfohollhdaedlaaGreatDoorStemR2
set_option linter.unusedVariables false
set_option linter.unusedSimpArgs false
set_option maxRecDepth 100000
namespace Go.Proofs.YtfohollhdaedlaaGreatDoor
open Go.RowKit
namespace Stem
theorem shortGet (k : Nat) (hk : k < 16) : shortCells[k]? = some (.string (shortTab.getD k ⟨#[]⟩)) := by
  have h : k = 0 ∨ k = 1 ∨ k = 2 ∨ k = 3 ∨ k = 4 ∨ k = 5 ∨ k = 6 ∨ k = 7 ∨ k = 8 ∨ k = 9 ∨ k = 10 ∨ k = 11 ∨ k = 12 ∨ k = 13 ∨ k = 14 ∨ k = 15 := by omega
  clear hk
  rcases h with rfl | rfl | rfl | rfl | rfl | rfl | rfl | rfl | rfl | rfl | rfl | rfl | rfl | rfl | rfl | rfl <;> rfl
set_option maxHeartbeats 2000000 in
theorem rstop_calls (s : ByteArray) (w : World) :
    Calls Tryz.prog 49 #[.string s] w fun e w' => e = .returned (.bool (stopF s)) ∧ Below w.heap.size w w' := by
  go_enter Tryz.func49, Tryz.ntmps49
  go_wp2_with fail
  have hb1 : Below w.heap.size w (w.alloc (.cells #[Value.string { data := #[97] }, Value.string { data := #[97, 110] }, Value.string { data := #[97, 110, 100] }, Value.string { data := #[97, 115] }, Value.string { data := #[97, 116] }, Value.string { data := #[98, 101] }, Value.string { data := #[98, 121] }, Value.string { data := #[102, 111, 114] }, Value.string { data := #[105, 110] }, Value.string { data := #[105, 115] }, Value.string { data := #[105, 116] }, Value.string { data := #[111, 102] }, Value.string { data := #[111, 110] }, Value.string { data := #[111, 114] }, Value.string { data := #[116, 104, 101] }, Value.string { data := #[116, 111] }] 9 (0, 0))) := (Below.refl _ _).alloc (Nat.le_refl _) _
  have hz : (w.alloc (.cells #[Value.string { data := #[97] }, Value.string { data := #[97, 110] }, Value.string { data := #[97, 110, 100] }, Value.string { data := #[97, 115] }, Value.string { data := #[97, 116] }, Value.string { data := #[98, 101] }, Value.string { data := #[98, 121] }, Value.string { data := #[102, 111, 114] }, Value.string { data := #[105, 110] }, Value.string { data := #[105, 115] }, Value.string { data := #[105, 116] }, Value.string { data := #[111, 102] }, Value.string { data := #[111, 110] }, Value.string { data := #[111, 114] }, Value.string { data := #[116, 104, 101] }, Value.string { data := #[116, 111] }] 9 (0, 0))).heap[w.heap.size]? = some (.cells shortCells 9 (0, 0)) := heap_alloc_new _ _
  have HB := Lib.hid hb1
  have HZ := Lib.hid hz
  clear hb1 hz
  generalize (w.alloc (.cells #[Value.string { data := #[97] }, Value.string { data := #[97, 110] }, Value.string { data := #[97, 110, 100] }, Value.string { data := #[97, 115] }, Value.string { data := #[97, 116] }, Value.string { data := #[98, 101] }, Value.string { data := #[98, 121] }, Value.string { data := #[102, 111, 114] }, Value.string { data := #[105, 110] }, Value.string { data := #[105, 115] }, Value.string { data := #[105, 116] }, Value.string { data := #[111, 102] }, Value.string { data := #[111, 110] }, Value.string { data := #[111, 114] }, Value.string { data := #[116, 104, 101] }, Value.string { data := #[116, 111] }] 9 (0, 0))) = w1 at *
  generalize hg : w.heap.size = g at *
  have HG := Lib.hid hg
  clear hg
  go_loopw [7] (fun ix wr => ∃ k : Nat, k ≤ 16 ∧ ix = .int .i64 k ∧ Hid (∀ j, j < k → s ≠ shortTab.getD j ⟨#[]⟩) ∧ w1 = wr) (fun ix _ => 16 - (intOf ix).toNat)
  case atStart => exact ⟨0, Nat.zero_le _, rfl, fun j hj => absurd hj (Nat.not_lt_zero j), rfl⟩
  case round =>
    obtain ⟨k, hk, rfl, HV, rfl⟩ := hrel
    by_cases hlt : k < 16
    · have hcell : w1.cell? ⟨g, k, none⟩ = some (.string (shortTab.getD k ⟨#[]⟩)) := by
        simp only [World.cell?, HZ.out]
        simpa using shortGet k hlt
      have HQ : Hid (s = shortTab.getD k ⟨#[]⟩ → stopF s = true) := fun h => stopF_true hlt h
      have HN : Hid (s ≠ shortTab.getD k ⟨#[]⟩ → ∀ j, j < k + 1 → s ≠ shortTab.getD j ⟨#[]⟩) := fun h j hj => by
        rcases Nat.lt_or_ge j k with h3 | h3
        · exact HV.out j h3
        · obtain rfl : j = k := by omega
          exact h
      generalize shortTab.getD k ⟨#[]⟩ = x at hcell HQ HN
      by_cases hx : s = x
      · have HY := Lib.hid (HQ.out hx)
        subst hx
        go_wp2_with fail
        go_ret
        exact ⟨ret_bool HY.out.symm, by rw [HG.out]; exact HB.out⟩
      · have hne := eq_str x s (fun h => hx h.symm)
        have HN2 : Hid (∀ j, j < k + 1 → s ≠ shortTab.getD j ⟨#[]⟩) := HN.out hx
        clear hx
        go_wp2_with fail
        go_roundw
        case rel => exact ⟨k + 1, by omega, by go_num, HN2.out, trivial⟩
        case measure => simp [intOf]; omega
    · have HY := Lib.hid (stopF_false (s := s) fun j hj => HV.out j (by omega))
      go_wp2_with fail
      go_ret
      exact ⟨ret_bool HY.out.symm, by rw [HG.out]; exact HB.out⟩
def oldCells : Array Value := (endsTab.map fun x => Value.string x.1).toArray
def putCells : Array Value := (endsTab.map fun x => Value.string x.2).toArray
theorem endsGet (k : Nat) (hk : k < 7) : oldCells[k]? = some (.string (endsTab.getD k noEnd).1) ∧ putCells[k]? = some (.string (endsTab.getD k noEnd).2) := by
  have h : k = 0 ∨ k = 1 ∨ k = 2 ∨ k = 3 ∨ k = 4 ∨ k = 5 ∨ k = 6 := by omega
  clear hk
  rcases h with rfl | rfl | rfl | rfl | rfl | rfl | rfl <;> exact ⟨rfl, rfl⟩

set_option maxHeartbeats 4000000 in
theorem rthird_calls (s : ByteArray) (hs : s.size ≤ 140737488351232) (w : World) :
    Calls Tryz.prog 73 #[.string s] w fun e w' => e = .returned (.string (otherF s)) ∧ Below w.heap.size w w' := by
  go_enter Tryz.func73, Tryz.ntmps73
  go_wp2_with fail
  have hb1 : Below w.heap.size w ((w.alloc (.cells #[Value.string { data := #[105, 122, 97, 116, 105, 111, 110] }, Value.string { data := #[97, 116, 105, 111, 110] }, Value.string { data := #[102, 117, 108, 108, 121] }, Value.string { data := #[110, 101, 115, 115] }, Value.string { data := #[109, 101, 110, 116] }, Value.string { data := #[97, 108, 108, 121] }, Value.string { data := #[108, 121] }] 9 (0, 0))).alloc (.cells #[Value.string { data := #[105, 122, 101] }, Value.string { data := #[97, 116, 101] }, Value.string { data := #[102, 117, 108] }, Value.string { data := #[] }, Value.string { data := #[] }, Value.string { data := #[97, 108] }, Value.string { data := #[] }] 9 (0, 0))) := ((Below.refl _ _).alloc (Nat.le_refl _) _).alloc (by simp) _
  have hz0 : ((w.alloc (.cells #[Value.string { data := #[105, 122, 97, 116, 105, 111, 110] }, Value.string { data := #[97, 116, 105, 111, 110] }, Value.string { data := #[102, 117, 108, 108, 121] }, Value.string { data := #[110, 101, 115, 115] }, Value.string { data := #[109, 101, 110, 116] }, Value.string { data := #[97, 108, 108, 121] }, Value.string { data := #[108, 121] }] 9 (0, 0))).alloc (.cells #[Value.string { data := #[105, 122, 101] }, Value.string { data := #[97, 116, 101] }, Value.string { data := #[102, 117, 108] }, Value.string { data := #[] }, Value.string { data := #[] }, Value.string { data := #[97, 108] }, Value.string { data := #[] }] 9 (0, 0))).heap[w.heap.size]? = some (.cells oldCells 9 (0, 0)) := by
    rw [((Below.refl _ (w.alloc (.cells #[Value.string { data := #[105, 122, 97, 116, 105, 111, 110] }, Value.string { data := #[97, 116, 105, 111, 110] }, Value.string { data := #[102, 117, 108, 108, 121] }, Value.string { data := #[110, 101, 115, 115] }, Value.string { data := #[109, 101, 110, 116] }, Value.string { data := #[97, 108, 108, 121] }, Value.string { data := #[108, 121] }] 9 (0, 0)))).alloc (Nat.le_refl _) _).block w.heap.size (by simp)]; exact heap_alloc_new _ _
  have hz1 : ((w.alloc (.cells #[Value.string { data := #[105, 122, 97, 116, 105, 111, 110] }, Value.string { data := #[97, 116, 105, 111, 110] }, Value.string { data := #[102, 117, 108, 108, 121] }, Value.string { data := #[110, 101, 115, 115] }, Value.string { data := #[109, 101, 110, 116] }, Value.string { data := #[97, 108, 108, 121] }, Value.string { data := #[108, 121] }] 9 (0, 0))).alloc (.cells #[Value.string { data := #[105, 122, 101] }, Value.string { data := #[97, 116, 101] }, Value.string { data := #[102, 117, 108] }, Value.string { data := #[] }, Value.string { data := #[] }, Value.string { data := #[97, 108] }, Value.string { data := #[] }] 9 (0, 0))).heap[w.heap.size + 1]? = some (.cells putCells 9 (0, 0)) := by
    have h := heap_alloc_new (w.alloc (.cells #[Value.string { data := #[105, 122, 97, 116, 105, 111, 110] }, Value.string { data := #[97, 116, 105, 111, 110] }, Value.string { data := #[102, 117, 108, 108, 121] }, Value.string { data := #[110, 101, 115, 115] }, Value.string { data := #[109, 101, 110, 116] }, Value.string { data := #[97, 108, 108, 121] }, Value.string { data := #[108, 121] }] 9 (0, 0))) (.cells putCells 9 (0, 0))
    rwa [show (w.alloc (.cells #[Value.string { data := #[105, 122, 97, 116, 105, 111, 110] }, Value.string { data := #[97, 116, 105, 111, 110] }, Value.string { data := #[102, 117, 108, 108, 121] }, Value.string { data := #[110, 101, 115, 115] }, Value.string { data := #[109, 101, 110, 116] }, Value.string { data := #[97, 108, 108, 121] }, Value.string { data := #[108, 121] }] 9 (0, 0))).heap.size = w.heap.size + 1 by simp] at h
  have HB := Lib.hid hb1
  have HZ0 := Lib.hid hz0
  have HZ1 := Lib.hid hz1
  clear hb1 hz0 hz1
  generalize ((w.alloc (.cells #[Value.string { data := #[105, 122, 97, 116, 105, 111, 110] }, Value.string { data := #[97, 116, 105, 111, 110] }, Value.string { data := #[102, 117, 108, 108, 121] }, Value.string { data := #[110, 101, 115, 115] }, Value.string { data := #[109, 101, 110, 116] }, Value.string { data := #[97, 108, 108, 121] }, Value.string { data := #[108, 121] }] 9 (0, 0))).alloc (.cells #[Value.string { data := #[105, 122, 101] }, Value.string { data := #[97, 116, 101] }, Value.string { data := #[102, 117, 108] }, Value.string { data := #[] }, Value.string { data := #[] }, Value.string { data := #[97, 108] }, Value.string { data := #[] }] 9 (0, 0))) = w1 at *
  generalize hg : w.heap.size = g at *
  have HG := Lib.hid hg
  clear hg
  go_loopw [11] (fun ix wr => ∃ k : Nat, k ≤ 7 ∧ ix = .int .i64 k ∧ Hid (otherL (endsTab.drop k) s = otherF s) ∧ w1 = wr) (fun ix _ => 7 - (intOf ix).toNat)
  case atStart => exact ⟨0, Nat.zero_le _, rfl, rfl, rfl⟩
  case round =>
    obtain ⟨k, hk, rfl, HV, rfl⟩ := hrel
    by_cases hlt : k < 7
    · have hcell0 : w1.cell? ⟨g, k, none⟩ = some (.string (endsTab.getD k noEnd).1) := by
        simp only [World.cell?, HZ0.out]
        simpa using (endsGet k hlt).1
      have hcell1 : w1.cell? ⟨g + 1, k, none⟩ = some (.string (endsTab.getD k noEnd).2) := by
        simp only [World.cell?, HZ1.out]
        simpa using (endsGet k hlt).2
      have HS := Lib.hid (other_step s k hlt)
      have hsm := ends_small k
      generalize endsTab.getD k noEnd = x at hcell0 hcell1 HS hsm
      obtain ⟨e, p⟩ := x
      simp only at hcell0 hcell1 HS hsm
      obtain ⟨hsm, hsm2⟩ := hsm
      have c1 := fun W => rends_calls s e hs (by omega) W
      cases h1 : suf s e
      · have HN : Hid (otherL (endsTab.drop (k + 1)) s = otherF s) := by
          have h := HV.out
          rw [HS.out, h1] at h
          exact h
        rw [h1] at c1
        go_wp2_with fail
        refine (c1 _).mono ?_
        rintro e1 w2 ⟨rfl, rfl⟩
        go_wp2_with fail
        go_roundw
        case rel => exact ⟨k + 1, by omega, by go_num, HN.out, trivial⟩
        case measure => simp [intOf]; omega
      · have hle := suf_le h1
        have hls : (less s e.size).size = s.size - e.size := less_size s e.size
        rw [h1] at c1
        by_cases h3 : 3 ≤ (less s e.size).size
        · have h3' : (e.size : Int) + 3 ≤ s.size := by omega
          have HN : Hid (otherF s = less s e.size ++ p) := by
            have h := HV.out
            rw [HS.out, h1, decide_eq_true h3] at h
            exact h.symm
          have c7 := fun W => rless_calls s e.size hle hs W
          have hqs : (less s e.size).size + p.size ≤ 140737488355327 := by omega
          clear hls h3
          generalize less s e.size = q at *
          go_wp2_with fail
          refine (c1 _).mono ?_
          rintro e1 w2 ⟨rfl, rfl⟩
          go_wp2_with fail
          go_quiet (first | (go_at_call 94; exact Calls.quiet_of_same (c7 _)))
          go_wp2_with fail
          go_ret
          exact ⟨ret_string HN.out.symm, below_drewN (by rw [HG.out]; exact HB.out) _⟩
        · have h3' : (s.size : Int) < (e.size : Int) + 3 := by omega
          have HN : Hid (otherL (endsTab.drop (k + 1)) s = otherF s) := by
            have h := HV.out
            rw [HS.out, h1, decide_eq_false h3] at h
            exact h
          clear hls h3
          go_wp2_with fail
          refine (c1 _).mono ?_
          rintro e1 w2 ⟨rfl, rfl⟩
          go_wp2_with fail
          go_roundw
          case rel => exact ⟨k + 1, by omega, by go_num, HN.out, trivial⟩
          case measure => simp [intOf]; omega
    · have hv : otherF s = s := by
        have h := HV.out
        rw [List.drop_eq_nil_of_le (show endsTab.length ≤ k by show 7 ≤ k; omega)] at h
        exact h.symm
      have HX := Lib.hid hv
      clear hv
      go_wp2_with fail
      go_ret
      exact ⟨ret_string HX.out.symm, by rw [HG.out]; exact HB.out⟩

set_option maxHeartbeats 2000000 in
theorem rstem_calls (s : ByteArray) (hs : s.size ≤ 140737488351232) (w : World) :
    Calls Tryz.prog 50 #[.string s] w fun e w' => e = .returned (.string (stemF s)) ∧ Below w.heap.size w w' := by
  have c1 := fun W => rplain_calls s hs W
  cases h1 : plainF s
  · rw [h1] at c1
    rw [stem_other s h1]
    clear h1
    go_enter Tryz.func50, Tryz.ntmps50
    go_wp2_with fail
    refine (c1 _).mono ?_
    rintro e w1 ⟨rfl, rfl⟩
    go_wp2_with fail
    go_ret
    exact ⟨rfl, Below.refl _ _⟩
  · rw [h1] at c1
    have c2 := fun W => rfirst_calls s hs W
    have hv : stemF s = rest1 (pluralF s) := by rw [stemF, h1]; rfl
    have hps := plural_size s
    rw [hv]
    clear hv h1
    generalize pluralF s = x at *
    have c3 := fun W => rplain_calls x (by omega) W
    cases h2 : plainF x
    · rw [h2] at c3
      rw [show rest1 x = x by rw [rest1, h2]; rfl]
      clear h2
      go_enter Tryz.func50, Tryz.ntmps50
      go_wp2_with fail
      refine (c1 _).mono ?_
      rintro e w1 ⟨rfl, rfl⟩
      go_wp2_with fail
      refine (c2 _).mono ?_
      rintro e w1 ⟨rfl, rfl⟩
      go_wp2_with fail
      refine (c3 _).mono ?_
      rintro e w1 ⟨rfl, rfl⟩
      go_wp2_with fail
      go_ret
      exact ⟨rfl, Below.refl _ _⟩
    · rw [h2] at c3
      have c4 := fun W => rsecond_calls x (by omega) W
      have hpt := past_size x
      rw [show rest1 x = rest2 (pastF x) by rw [rest1, h2]; rfl]
      clear h2
      generalize pastF x = y at *
      have c5 := fun W => rplain_calls y (by omega) W
      cases h3 : plainF y
      · rw [h3] at c5
        rw [show rest2 y = y by rw [rest2, h3]; rfl]
        clear h3
        go_enter Tryz.func50, Tryz.ntmps50
        go_wp2_with fail
        refine (c1 _).mono ?_
        rintro e w1 ⟨rfl, rfl⟩
        go_wp2_with fail
        refine (c2 _).mono ?_
        rintro e w1 ⟨rfl, rfl⟩
        go_wp2_with fail
        refine (c3 _).mono ?_
        rintro e w1 ⟨rfl, rfl⟩
        go_wp2_with fail
        refine (c4 _).mono ?_
        rintro e w2 ⟨rfl, hb2⟩
        have HB2 := Lib.hid hb2
        clear hb2
        go_wp2_with fail
        refine (c5 _).mono ?_
        rintro e w3 ⟨rfl, rfl⟩
        go_wp2_with fail
        go_ret
        exact ⟨rfl, HB2.out⟩
      · rw [h3] at c5
        have c6 := fun W => rthird_calls y (by omega) W
        rw [show rest2 y = otherF y by rw [rest2, h3]; rfl]
        clear h3
        generalize otherF y = z at *
        go_enter Tryz.func50, Tryz.ntmps50
        go_wp2_with fail
        refine (c1 _).mono ?_
        rintro e w1 ⟨rfl, rfl⟩
        go_wp2_with fail
        refine (c2 _).mono ?_
        rintro e w1 ⟨rfl, rfl⟩
        go_wp2_with fail
        refine (c3 _).mono ?_
        rintro e w1 ⟨rfl, rfl⟩
        go_wp2_with fail
        refine (c4 _).mono ?_
        rintro e w2 ⟨rfl, hb2⟩
        have HB2 := Lib.hid hb2
        clear hb2
        go_wp2_with fail
        refine (c5 _).mono ?_
        rintro e w3 ⟨rfl, rfl⟩
        go_wp2_with fail
        refine (c6 _).mono ?_
        rintro e w4 ⟨rfl, hb4⟩
        go_wp2_with fail
        go_ret
        exact ⟨rfl, below_next HB2.out hb4⟩

end Stem
end Go.Proofs.YtfohollhdaedlaaGreatDoor
