/- The walk of the law BoxLives. Written by boxlives.py. -/
import Derived.Test.YtdmpgoaemoiogaaBoxL3
import Derived.BigRegion
set_option linter.unusedVariables false
set_option linter.unusedSimpArgs false
set_option maxRecDepth 100000
namespace Go.Proofs.Ytdmpgoaemoiogaa
open Go.RowKit
namespace Box
theorem nums_all (xs : List Int) : ∀ u ∈ nums xs, ∃ a, u = .int .i64 a := fun u hu => by
  obtain ⟨a, _, rfl⟩ := List.mem_map.1 hu
  exact ⟨a, rfl⟩
theorem nums_erase : ∀ (xs : List Int) (k : Nat), (nums xs).eraseIdx k = nums (xs.eraseIdx k)
  | [], _ => rfl
  | _ :: _, 0 => rfl
  | x :: xs, k + 1 => by
    have := nums_erase xs k
    show Value.int .i64 x :: (nums xs).eraseIdx k = .int .i64 x :: nums (xs.eraseIdx k)
    rw [this]

set_option maxHeartbeats 40000000 in
theorem lives_proof (w : World) (room : Int) (hr : -9223372036854775808 ≤ room ∧ room ≤ 9223372036854775807) (A : Option Addr) (n cap : Nat) (ds : List (Int × Int)) (hds : IsDos w A n cap ds) :
    Calls Try.prog 5 #[.int .i64 room, .slice A n cap] w fun e w' => e = .returned (.bool true) ∧ Below w.heap.size w w' := by
  have HD := Lib.hid hds
  have hc1 := hds.1.2.1
  have hc2 := hds.1.2.2.1
  unfold maxLen at hc2
  clear hds
  obtain ⟨k0, hk0⟩ : ∃ k0 : Nat, (if room < 0 then 0 else room) = (k0 : Int) := ⟨(max room 0).toNat, by split <;> omega⟩
  obtain ⟨k, hk⟩ : ∃ k : Nat, (if (100 : Int) < k0 then 100 else (k0 : Int)) = (k : Int) := ⟨min k0 100, by split <;> omega⟩
  have hk100 : k ≤ 100 := by split at hk <;> omega
  go_enter Try.func5, Try.ntmps5
  go_wp2_with fail
  refine (new_int w k (by omega)).mono ?_
  rintro e w1 ⟨b, c, rfl, hx, hb1, hB, hC⟩
  rw [show (min (max (k : Int) 0) 4096).toNat = k by omega] at hx
  have hlt := hx.lt
  have HX1 := Lib.hid hx
  have HB1 := Lib.hid hb1
  have HD1 := Lib.hid (HD.out.below hb1)
  have hs1 := hb1.size
  clear hx hb1 hk hk0
  obtain ⟨hbl, hcl, hbc⟩ := hlt
  go_wp2_with fail
  go_loopw [6, 22] (fun vin ix wr => ∃ (i : Nat) (xs : List Int) (q : Nat), i ≤ n ∧ ix = .int .i64 i ∧ xs.length = q ∧ q ≤ k ∧ Deq wr w1.heap.size vin q (nums xs) ∧ IsBox wr b c k (nums xs) ∧ w1.grownBy wr (some c)) (fun _ ix _ => n - (intOf ix).toNat)
  case atStart => exact ⟨0, [], 0, Nat.zero_le _, rfl, rfl, Nat.zero_le _, Deq.nil _ _, HX1.out, World.grownBy.refl _ _⟩
  case round =>
    obtain ⟨i, xs, q, hi, rfl, hq, hxk, hD, hX, hG⟩ := hrel
    obtain ⟨A', c', rfl, hsl⟩ := hD.form
    have hcc := hsl.2.1
    have hcm := hsl.2.2.1
    unfold maxLen at hcm
    have DX := Lib.hid hD
    have XX := Lib.hid hX
    have GX := Lib.hid hG
    have hgs := hG.size
    have hx100 : q ≤ 100 := by omega
    have DR : Hid (IsDos wr A n cap ds) := by
      refine ⟨⟨HD1.out.1.1, HD1.out.1.2.1, HD1.out.1.2.2.1, HD1.out.1.2.2.2.1, fun ad ha j u hu => ?_⟩, HD1.out.2⟩
      have h0 := HD.out.1.2.2.2.2 ad ha j u hu
      have h1 := HD1.out.1.2.2.2.2 ad ha j u hu
      have hl := World.block_lt_of_cell? w _ h0
      exact hG.cell h1 (fun e => by have := Option.some.inj e; omega)
    clear hD hX hG
    have HE : Hid (Below w.heap.size w wr) := below_row HB1.out hs1 GX.out hC
    by_cases hin : i < n
    · by_cases h200 : 200 ≤ i
      · have h200' : (200 : Int) ≤ i := by omega
        obtain ⟨ab, ao, op, x, rfl, hdi, hcell0, hcell1, hop, hxr⟩ := DR.out.at_ hin
        go_wp2_with fail
        refine (awake_calls _).mono ?_
        rintro e w9 ⟨rfl, hb9⟩
        have HF : Hid (Below w.heap.size w w9) := (HE.out.alloc (by have := HE.out.size; omega) _).trans (hb9.mono (by simp; have := HE.out.size; omega))
        clear hb9
        go_wp2_with fail
        go_ret
        exact ⟨rfl, HF.out⟩
      · have h200' : (i : Int) < 200 := by omega
        obtain ⟨ab, ao, op, x, rfl, hdi, hcell0, hcell1, hop, hxr⟩ := DR.out.at_ hin
        obtain ⟨m, hm⟩ : ∃ m : Int, IntKind.u64.wrap op = m := ⟨_, rfl⟩
        have hm0 : 0 ≤ m := by rw [← hm, IntKind.wrap_u64]; omega
        have hmd : m % 4 = 0 ∨ m % 4 = 1 ∨ m % 4 = 2 ∨ m % 4 = 3 := by omega
        have HK : Hid (wr.grownBy (wr.alloc (.cells #[.int .i64 op, .int .i64 x] 49 (0, 0))) none) := World.grownBy_alloc _ _ _
        have hda : (wr.alloc (.cells #[.int .i64 op, .int .i64 x] 49 (0, 0))).cell? ⟨wr.heap.size, 1, none⟩ = some (.int .i64 x) := cell_new _ _ _ _ 1
        have HDA := Lib.hid hda
        clear hda
        have XA := Lib.hid (XX.out.keep HK.out (by simp) (by simp))
        have DA := Lib.hid (DX.out.keep HK.out (fun k hk => by cases hk))
        have GA : Hid (w1.grownBy (wr.alloc (.cells #[.int .i64 op, .int .i64 x] 49 (0, 0))) (some c)) := grown_far GX.out HK.out (fun k hk => by cases hk)
        rcases hmd with hmd | hmd | hmd | hmd
        · go_wp2_with fail
          generalize (wr.alloc (.cells #[.int .i64 op, .int .i64 x] 49 (0, 0))) = wa at *
          by_cases hroom : q < k
          · have hroom' : (q : Int) < k := by omega
            refine (put_int wa b c k _ (.int .i64 x) XA.out).mono ?_
            rw [nums_length, hq, if_pos hroom]
            rintro e w2 ⟨rfl, hx2, hg2, hs2⟩
            have X2 := Lib.hid hx2
            have D2 := Lib.hid (DA.out.keep hg2 (fun k hk => by cases hk; exact hcl))
            have G2 := Lib.hid (GA.out.trans hg2)
            have hda2 : w2.cell? ⟨wr.heap.size, 1, none⟩ = some (.int .i64 x) := hg2.cell HDA.out (fun e => by have := Option.some.inj e; simp only at this; omega)
            have hgs2 := G2.out.size
            clear hx2 hg2 hs2

            go_wp2_with (at_builtin; refine wpList_app_deq _ rfl (.tmp 52) (.tmp 55) 43 rfl w1.heap.size 3 (.int .i64 0) 8 Try.underlying43 inf_int rfl _ q (nums xs) rfl (D2.out.keep (World.grownBy_alloc w2 _ none) (fun k hk => by cases hk)) ⟨w2.heap.size, 0, none⟩ (.int .i64 x) rfl (sl_lit w2 #[.int .i64 x] _ 1 rfl (by decide)) (by simp [Value.oneCell']) (by omega) (by omega) (by simp; omega) ?_)
            intro v' w3 row hd3 hg3 hr3
            obtain ⟨A3, c3, rfl, hs3⟩ := hd3.form
            have hc3 := hs3.2.1
            have hc3m := hs3.2.2.1
            unfold maxLen at hc3m
            have HG3 : Hid (w2.grownBy w3 row) := (World.grownBy_alloc w2 _ _).trans hg3
            have X3 : Hid (IsBox w3 b c k (nums (xs ++ [x]))) := by
              have := box_keep X2.out HG3.out hr3 hbl hcl
              rwa [show nums xs ++ [Value.int .i64 x] = nums (xs ++ [x]) by simp [nums]] at this
            have G3 := Lib.hid (grown_far G2.out HG3.out hr3)
            have D3 : Hid (Deq w3 w1.heap.size (.slice A3 (q + 1) c3) (q + 1) (nums (xs ++ [x]))) := by
              rwa [show nums xs ++ [Value.int .i64 x] = nums (xs ++ [x]) by simp [nums]] at hd3
            have hyl : (xs ++ [x]).length = q + 1 := by simp [hq]
            clear hd3 hg3 hr3 hs3

            go_wp2_with fail
            refine (len_int _ b c k _ X3.out).mono ?_
            rw [nums_length, hyl]
            rintro e w5 ⟨rfl, rfl⟩
            go_wp2_with fail
            refine (room_int _ b c k _ X3.out).mono ?_
            rw [nums_length, hyl]
            rintro e w6 ⟨rfl, hb6, hh6⟩
            have G6 : Hid (World.grownBy _ w6 none) := grown_below hb6 none
            have X6 := Lib.hid (X3.out.keep G6.out (by simp) (by simp))
            have D6 := Lib.hid (D3.out.keep G6.out (fun k hk => by cases hk))
            have G6 := Lib.hid (grown_far G3.out G6.out (fun k hk => by cases hk))
            clear hb6 hh6
            go_wp2_with fail
            refine (list_int w6 b c k _ X6.out (nums_all _)).mono ?_
            rintro e w7 ⟨vl, rfl, hol, hx7, hg7⟩
            rw [nums_length, hyl] at hol
            obtain ⟨Al, cl, rfl, hsll⟩ := own_form hol
            have X7 := Lib.hid hx7
            have D7 := Lib.hid (D6.out.keep hg7 (fun k hk => by cases hk; exact hcl))
            have G7 := Lib.hid (G6.out.trans hg7)
            have SL := Lib.hid hsll
            have S7 := Lib.hid D7.out.sl
            clear hol hx7 hg7 hsll
            go_wp2_with fail
            refine (equal_int w7 Al (q + 1) cl A3 c3 (xs ++ [x]) SL.out S7.out).mono ?_
            rintro e w8 ⟨rfl, hb8, hh8⟩
            have G8 : Hid (w7.grownBy w8 none) := grown_below hb8 none
            have X8 := Lib.hid (X7.out.keep G8.out (by simp) (by simp))
            have D8 := Lib.hid (D7.out.keep G8.out (fun k hk => by cases hk))
            have G9 := Lib.hid (grown_far G7.out G8.out (fun k hk => by cases hk))
            clear hb8 hh8
            go_wp2_with fail
            go_roundw
            case rel => exact ⟨i + 1, (xs ++ [x]), (q + 1), by omega, by go_num, hyl, by omega, D8.out, X8.out, G9.out⟩
            case measure => simp [intOf]; omega
          · have hroom' : (k : Int) ≤ q := by omega
            refine (put_int wa b c k _ (.int .i64 x) XA.out).mono ?_
            rw [nums_length, hq, if_neg hroom]
            rintro e w2 ⟨rfl, hx2, hg2, hs2⟩
            have X2 := Lib.hid hx2
            have D2 := Lib.hid (DA.out.keep hg2 (fun k hk => by cases hk; exact hcl))
            have G2 := Lib.hid (GA.out.trans hg2)
            clear hx2 hg2 hs2
            go_wp2_with fail
            refine (len_int _ b c k _ X2.out).mono ?_
            rw [nums_length, hq]
            rintro e w5 ⟨rfl, rfl⟩
            go_wp2_with fail
            refine (room_int _ b c k _ X2.out).mono ?_
            rw [nums_length, hq]
            rintro e w6 ⟨rfl, hb6, hh6⟩
            have G6 : Hid (World.grownBy _ w6 none) := grown_below hb6 none
            have X6 := Lib.hid (X2.out.keep G6.out (by simp) (by simp))
            have D6 := Lib.hid (D2.out.keep G6.out (fun k hk => by cases hk))
            have G6 := Lib.hid (grown_far G2.out G6.out (fun k hk => by cases hk))
            clear hb6 hh6
            go_wp2_with fail
            refine (list_int w6 b c k _ X6.out (nums_all _)).mono ?_
            rintro e w7 ⟨vl, rfl, hol, hx7, hg7⟩
            rw [nums_length, hq] at hol
            obtain ⟨Al, cl, rfl, hsll⟩ := own_form hol
            have X7 := Lib.hid hx7
            have D7 := Lib.hid (D6.out.keep hg7 (fun k hk => by cases hk; exact hcl))
            have G7 := Lib.hid (G6.out.trans hg7)
            have SL := Lib.hid hsll
            have S7 := Lib.hid D7.out.sl
            clear hol hx7 hg7 hsll
            go_wp2_with fail
            refine (equal_int w7 Al q cl A' c' (xs) SL.out S7.out).mono ?_
            rintro e w8 ⟨rfl, hb8, hh8⟩
            have G8 : Hid (w7.grownBy w8 none) := grown_below hb8 none
            have X8 := Lib.hid (X7.out.keep G8.out (by simp) (by simp))
            have D8 := Lib.hid (D7.out.keep G8.out (fun k hk => by cases hk))
            have G9 := Lib.hid (grown_far G7.out G8.out (fun k hk => by cases hk))
            clear hb8 hh8
            go_wp2_with fail
            go_roundw
            case rel => exact ⟨i + 1, (xs), q, by omega, by go_num, hq, by omega, D8.out, X8.out, G9.out⟩
            case measure => simp [intOf]; omega
        · rcases xs with _ | ⟨y, ys⟩
          · have hq0 : q = 0 := by simpa using hq.symm
            subst hq0
            go_wp2_with fail
            generalize (wr.alloc (.cells #[.int .i64 op, .int .i64 x] 49 (0, 0))) = wa at *
            refine (takeNo_int wa b c k XA.out).mono ?_
            rintro e w2 ⟨rfl, hw2⟩
            subst hw2
            go_wp2_with fail
            refine (len_int _ b c k _ XA.out).mono ?_
            rw [nums_length, show ([] : List Int).length = 0 from rfl]
            rintro e w5 ⟨rfl, rfl⟩
            go_wp2_with fail
            refine (room_int _ b c k _ XA.out).mono ?_
            rw [nums_length, show ([] : List Int).length = 0 from rfl]
            rintro e w6 ⟨rfl, hb6, hh6⟩
            have G6 : Hid (World.grownBy _ w6 none) := grown_below hb6 none
            have X6 := Lib.hid (XA.out.keep G6.out (by simp) (by simp))
            have D6 := Lib.hid (DA.out.keep G6.out (fun k hk => by cases hk))
            have G6 := Lib.hid (grown_far GA.out G6.out (fun k hk => by cases hk))
            clear hb6 hh6
            go_wp2_with fail
            refine (list_int w6 b c k _ X6.out (nums_all _)).mono ?_
            rintro e w7 ⟨vl, rfl, hol, hx7, hg7⟩
            rw [nums_length, show ([] : List Int).length = 0 from rfl] at hol
            obtain ⟨Al, cl, rfl, hsll⟩ := own_form hol
            have X7 := Lib.hid hx7
            have D7 := Lib.hid (D6.out.keep hg7 (fun k hk => by cases hk; exact hcl))
            have G7 := Lib.hid (G6.out.trans hg7)
            have SL := Lib.hid hsll
            have S7 := Lib.hid D7.out.sl
            clear hol hx7 hg7 hsll
            go_wp2_with fail
            refine (equal_int w7 Al 0 cl A' c' ([]) SL.out S7.out).mono ?_
            rintro e w8 ⟨rfl, hb8, hh8⟩
            have G8 : Hid (w7.grownBy w8 none) := grown_below hb8 none
            have X8 := Lib.hid (X7.out.keep G8.out (by simp) (by simp))
            have D8 := Lib.hid (D7.out.keep G8.out (fun k hk => by cases hk))
            have G9 := Lib.hid (grown_far G7.out G8.out (fun k hk => by cases hk))
            clear hb8 hh8
            go_wp2_with fail
            go_roundw
            case rel => exact ⟨i + 1, ([]), 0, by omega, by go_num, show ([] : List Int).length = 0 from rfl, by omega, D8.out, X8.out, G9.out⟩
            case measure => simp [intOf]; omega
          · obtain ⟨m, rfl⟩ : ∃ m, q = m + 1 := ⟨ys.length, by simpa using hq.symm⟩
            have hym : ys.length = m := by simpa using hq
            go_wp2_with fail
            generalize (wr.alloc (.cells #[.int .i64 op, .int .i64 x] 49 (0, 0))) = wa at *
            refine (take_int wa b c k (.int .i64 y) (nums ys) XA.out).mono ?_
            rintro e w2 ⟨rfl, hx2, hg2, hs2⟩
            have X2 : Hid (IsBox w2 b c k (nums ys)) := hx2
            have D2 := DA.out.keep hg2 (fun k hk => by cases hk; exact hcl)
            have G2 := Lib.hid (GA.out.trans hg2)
            obtain ⟨g, off, rfl, hgb, hS⟩ := D2.some_form (by omega)
            have hy0 : w2.cell? ⟨g, off, none⟩ = some (.int .i64 y) := by simpa using hS.2.2.2.2 0 _ rfl
            have hc1' : 1 ≤ c' := by omega
            obtain ⟨A2, hA2, D3⟩ : ∃ ad : Addr, (if c' = 1 then (some ⟨g, off, none⟩ : Option Addr) else some ⟨g, off + 1, none⟩) = some ad ∧ Hid (Deq w2 w1.heap.size (.slice (some ad) m (c' - 1)) m (nums ys)) := by rw [← hym]; exact tail_deq hS hgb (by omega)
            clear hx2 hg2 hs2 hS DX DA XX XA hsl D2
            go_wp2_with fail
            refine (len_int _ b c k _ X2.out).mono ?_
            rw [nums_length, hym]
            rintro e w5 ⟨rfl, rfl⟩
            go_wp2_with fail
            refine (room_int _ b c k _ X2.out).mono ?_
            rw [nums_length, hym]
            rintro e w6 ⟨rfl, hb6, hh6⟩
            have G6 : Hid (World.grownBy _ w6 none) := grown_below hb6 none
            have X6 := Lib.hid (X2.out.keep G6.out (by simp) (by simp))
            have D6 := Lib.hid (D3.out.keep G6.out (fun k hk => by cases hk))
            have G6 := Lib.hid (grown_far G2.out G6.out (fun k hk => by cases hk))
            clear hb6 hh6
            go_wp2_with fail
            refine (list_int w6 b c k _ X6.out (nums_all _)).mono ?_
            rintro e w7 ⟨vl, rfl, hol, hx7, hg7⟩
            rw [nums_length, hym] at hol
            obtain ⟨Al, cl, rfl, hsll⟩ := own_form hol
            have X7 := Lib.hid hx7
            have D7 := Lib.hid (D6.out.keep hg7 (fun k hk => by cases hk; exact hcl))
            have G7 := Lib.hid (G6.out.trans hg7)
            have SL := Lib.hid hsll
            have S7 := Lib.hid D7.out.sl
            clear hol hx7 hg7 hsll
            go_wp2_with fail
            refine (equal_int w7 Al m cl (some A2) (c' - 1) (ys) SL.out S7.out).mono ?_
            rintro e w8 ⟨rfl, hb8, hh8⟩
            have G8 : Hid (w7.grownBy w8 none) := grown_below hb8 none
            have X8 := Lib.hid (X7.out.keep G8.out (by simp) (by simp))
            have D8 := Lib.hid (D7.out.keep G8.out (fun k hk => by cases hk))
            have G9 := Lib.hid (grown_far G7.out G8.out (fun k hk => by cases hk))
            clear hb8 hh8
            go_wp2_with fail
            go_roundw
            case rel => exact ⟨i + 1, (ys), m, by omega, by go_num, hym, by omega, D8.out, X8.out, G9.out⟩
            case measure => simp [intOf]; omega
        · by_cases hkr : 0 ≤ x ∧ x < q
          · obtain ⟨kx, rfl⟩ := Int.eq_ofNat_of_zero_le hkr.1
            have hkx : kx < q := by omega
            have hkx0 : (0 : Int) ≤ (kx : Int) := by omega
            have hkx1 : (kx : Int) < q := by omega
            have hda := HDA.out
            go_wp2_with fail
            generalize (wr.alloc (.cells #[.int .i64 op, .int .i64 (kx : Int)] 49 (0, 0))) = wa at *
            refine (pull_int wa b c k xs XA.out kx (by omega)).mono ?_
            rintro e w2 ⟨rfl, hx2, hg2, hs2⟩
            have hyl : (xs.eraseIdx kx).length = q - 1 := by rw [List.length_eraseIdx, if_pos (by omega), hq]
            have X2 : Hid (IsBox w2 b c k (nums (xs.eraseIdx kx))) := by rw [← nums_erase]; exact hx2
            have D2 := DA.out.keep hg2 (fun k hk => by cases hk; exact hcl)
            have G2 := Lib.hid (GA.out.trans hg2)
            have hda2 : w2.cell? ⟨wr.heap.size, 1, none⟩ = some (.int .i64 kx) := hg2.cell hda (fun e => by have := Option.some.inj e; simp only at this; omega)
            have hgs2 := G2.out.size
            have hlt2 : Hid (wr.heap.size < w2.heap.size) := World.block_lt_of_cell? w2 _ hda2
            obtain ⟨g, off, rfl, hgb, hS⟩ := D2.some_form (by omega)
            have hyk : w2.cell? ⟨g, off + kx, none⟩ = some (.int .i64 (xs.getD kx 0)) := hS.2.2.2.2 kx _ (by rw [nums, List.getElem?_map, List.getD_eq_getElem?_getD, List.getElem?_eq_getElem (by omega)]; rfl)
            have S2 := Lib.hid D2.sl
            have hwk : IntKind.i64.wrap ((kx : Int) + 1) = (kx : Int) + 1 := by rw [IntKind.wrap_i64]; omega
            clear hx2 hg2 hs2 hS DX DA XX XA hsl D2 hda
            generalize xs.getD kx 0 = z at *
            go_wp2_with fail
            go_region_with (first
              | (go_at_call 23; refine (clone_int w2.drew ⟨g, off, none⟩ q c' xs (show IsSl w2.drew 1 _ _ _ _ from S2.out) (by omega)).mono ?_; rintro e w3 ⟨v3, rfl, ho3, hb3⟩; obtain ⟨g3, cap3, rfl, hgb3, hS3⟩ := owned_form ho3 (by omega); have hda3 : w3.cell? ⟨wr.heap.size, 1, none⟩ = some (.int .i64 kx) := (hb3.cell (p := ⟨wr.heap.size, 1, none⟩) hlt2.out).trans hda2; have H3 : Hid (Below w2.heap.size w2 w3) := below_drew1 hb3; have S3 := Lib.hid hS3; clear ho3 hb3 hS3)
              | (go_at_call 22; refine (delete_int _ g3 q cap3 kx xs S3.out hq hkx w1.heap.size (Nat.le_trans hgs2 hgb3)).mono ?_; rintro e w4 ⟨v4, rfl, hd4, hg4⟩; obtain ⟨A4, c4, rfl, hsl4⟩ := hd4.form; have D4 := Lib.hid hd4; have X4 := Lib.hid (box_keep (X2.out.keep (grown_below H3.out none) (by simp) (by simp)) hg4 (fun k hk => by cases hk; exact Nat.le_trans hgs2 hgb3) hbl hcl); have G4 := Lib.hid (grown_far (grown_far G2.out (grown_below H3.out none) (fun k hk => by cases hk)) hg4 (fun k hk => by cases hk; exact Nat.le_trans hgs2 hgb3)); have hc4 := hsl4.2.1; have hcm4 := hsl4.2.2.1; clear hd4 hg4 hsl4))
            all_goals
              go_wp2_with fail
              refine (len_int _ b c k _ X4.out).mono ?_
              rw [nums_length, hyl]
              rintro e w5 ⟨rfl, rfl⟩
              go_wp2_with fail
              refine (room_int _ b c k _ X4.out).mono ?_
              rw [nums_length, hyl]
              rintro e w6 ⟨rfl, hb6, hh6⟩
              have G6 : Hid (World.grownBy _ w6 none) := grown_below hb6 none
              have X6 := Lib.hid (X4.out.keep G6.out (by simp) (by simp))
              have D6 := Lib.hid (D4.out.keep G6.out (fun k hk => by cases hk))
              have G6 := Lib.hid (grown_far G4.out G6.out (fun k hk => by cases hk))
              clear hb6 hh6
              go_wp2_with fail
              refine (list_int w6 b c k _ X6.out (nums_all _)).mono ?_
              rintro e w7 ⟨vl, rfl, hol, hx7, hg7⟩
              rw [nums_length, hyl] at hol
              obtain ⟨Al, cl, rfl, hsll⟩ := own_form hol
              have X7 := Lib.hid hx7
              have D7 := Lib.hid (D6.out.keep hg7 (fun k hk => by cases hk; exact hcl))
              have G7 := Lib.hid (G6.out.trans hg7)
              have SL := Lib.hid hsll
              have S7 := Lib.hid D7.out.sl
              clear hol hx7 hg7 hsll
              go_wp2_with fail
              refine (equal_int w7 Al (q - 1) cl A4 c4 (xs.eraseIdx kx) SL.out S7.out).mono ?_
              rintro e w8 ⟨rfl, hb8, hh8⟩
              have G8 : Hid (w7.grownBy w8 none) := grown_below hb8 none
              have X8 := Lib.hid (X7.out.keep G8.out (by simp) (by simp))
              have D8 := Lib.hid (D7.out.keep G8.out (fun k hk => by cases hk))
              have G9 := Lib.hid (grown_far G7.out G8.out (fun k hk => by cases hk))
              clear hb8 hh8
              go_wp2_with fail
              go_roundw
              case rel => exact ⟨i + 1, (xs.eraseIdx kx), (q - 1), by omega, by go_num, hyl, by omega, D8.out, X8.out, G9.out⟩
              case measure => simp [intOf]; omega
          · have hkr' : x < 0 ∨ (q : Int) ≤ x := by omega
            have hda := HDA.out
            have htab : (decide (0 ≤ x) && decide (x < q)) = false := by simp; omega
            rcases (show x < 0 ∨ (0 ≤ x ∧ (q : Int) ≤ x) by omega) with hx0 | ⟨hx0, hx1⟩
            · go_wp2_with fail
              generalize (wr.alloc (.cells #[.int .i64 op, .int .i64 x] 49 (0, 0))) = wa at *
              refine (pullNo_int wa b c k (nums xs) XA.out x (by rw [nums_length, hq]; exact hkr')).mono ?_
              rintro e w2 ⟨rfl, hw2⟩
              subst hw2
              go_wp2_with fail
              refine (len_int _ b c k _ XA.out).mono ?_
              rw [nums_length, hq]
              rintro e w5 ⟨rfl, rfl⟩
              go_wp2_with fail
              refine (room_int _ b c k _ XA.out).mono ?_
              rw [nums_length, hq]
              rintro e w6 ⟨rfl, hb6, hh6⟩
              have G6 : Hid (World.grownBy _ w6 none) := grown_below hb6 none
              have X6 := Lib.hid (XA.out.keep G6.out (by simp) (by simp))
              have D6 := Lib.hid (DA.out.keep G6.out (fun k hk => by cases hk))
              have G6 := Lib.hid (grown_far GA.out G6.out (fun k hk => by cases hk))
              clear hb6 hh6
              go_wp2_with fail
              refine (list_int w6 b c k _ X6.out (nums_all _)).mono ?_
              rintro e w7 ⟨vl, rfl, hol, hx7, hg7⟩
              rw [nums_length, hq] at hol
              obtain ⟨Al, cl, rfl, hsll⟩ := own_form hol
              have X7 := Lib.hid hx7
              have D7 := Lib.hid (D6.out.keep hg7 (fun k hk => by cases hk; exact hcl))
              have G7 := Lib.hid (G6.out.trans hg7)
              have SL := Lib.hid hsll
              have S7 := Lib.hid D7.out.sl
              clear hol hx7 hg7 hsll
              go_wp2_with fail
              refine (equal_int w7 Al q cl A' c' (xs) SL.out S7.out).mono ?_
              rintro e w8 ⟨rfl, hb8, hh8⟩
              have G8 : Hid (w7.grownBy w8 none) := grown_below hb8 none
              have X8 := Lib.hid (X7.out.keep G8.out (by simp) (by simp))
              have D8 := Lib.hid (D7.out.keep G8.out (fun k hk => by cases hk))
              have G9 := Lib.hid (grown_far G7.out G8.out (fun k hk => by cases hk))
              clear hb8 hh8
              go_wp2_with fail
              go_roundw
              case rel => exact ⟨i + 1, (xs), q, by omega, by go_num, hq, by omega, D8.out, X8.out, G9.out⟩
              case measure => simp [intOf]; omega
            · go_wp2_with fail
              generalize (wr.alloc (.cells #[.int .i64 op, .int .i64 x] 49 (0, 0))) = wa at *
              refine (pullNo_int wa b c k (nums xs) XA.out x (by rw [nums_length, hq]; exact hkr')).mono ?_
              rintro e w2 ⟨rfl, hw2⟩
              subst hw2
              go_wp2_with fail
              refine (len_int _ b c k _ XA.out).mono ?_
              rw [nums_length, hq]
              rintro e w5 ⟨rfl, rfl⟩
              go_wp2_with fail
              refine (room_int _ b c k _ XA.out).mono ?_
              rw [nums_length, hq]
              rintro e w6 ⟨rfl, hb6, hh6⟩
              have G6 : Hid (World.grownBy _ w6 none) := grown_below hb6 none
              have X6 := Lib.hid (XA.out.keep G6.out (by simp) (by simp))
              have D6 := Lib.hid (DA.out.keep G6.out (fun k hk => by cases hk))
              have G6 := Lib.hid (grown_far GA.out G6.out (fun k hk => by cases hk))
              clear hb6 hh6
              go_wp2_with fail
              refine (list_int w6 b c k _ X6.out (nums_all _)).mono ?_
              rintro e w7 ⟨vl, rfl, hol, hx7, hg7⟩
              rw [nums_length, hq] at hol
              obtain ⟨Al, cl, rfl, hsll⟩ := own_form hol
              have X7 := Lib.hid hx7
              have D7 := Lib.hid (D6.out.keep hg7 (fun k hk => by cases hk; exact hcl))
              have G7 := Lib.hid (G6.out.trans hg7)
              have SL := Lib.hid hsll
              have S7 := Lib.hid D7.out.sl
              clear hol hx7 hg7 hsll
              go_wp2_with fail
              refine (equal_int w7 Al q cl A' c' (xs) SL.out S7.out).mono ?_
              rintro e w8 ⟨rfl, hb8, hh8⟩
              have G8 : Hid (w7.grownBy w8 none) := grown_below hb8 none
              have X8 := Lib.hid (X7.out.keep G8.out (by simp) (by simp))
              have D8 := Lib.hid (D7.out.keep G8.out (fun k hk => by cases hk))
              have G9 := Lib.hid (grown_far G7.out G8.out (fun k hk => by cases hk))
              clear hb8 hh8
              go_wp2_with fail
              go_roundw
              case rel => exact ⟨i + 1, (xs), q, by omega, by go_num, hq, by omega, D8.out, X8.out, G9.out⟩
              case measure => simp [intOf]; omega
        · go_wp2_with fail
          generalize (wr.alloc (.cells #[.int .i64 op, .int .i64 x] 49 (0, 0))) = wa at *
          refine (list_int wa b c k _ XA.out (nums_all _)).mono ?_
          rintro e w2 ⟨vl, rfl, hol, hx2, hg2⟩
          rw [nums_length, hq] at hol
          obtain ⟨Al, cl, rfl, hsll⟩ := own_form hol
          have X2 := Lib.hid hx2
          have D2 := Lib.hid (DA.out.keep hg2 (fun k hk => by cases hk; exact hcl))
          have G2 := Lib.hid (GA.out.trans hg2)
          have SL := Lib.hid hsll
          have S2 := Lib.hid D2.out.sl
          clear hol hx2 hg2 hsll
          go_wp2_with fail
          refine (equal_int w2 Al q cl A' c' xs SL.out S2.out).mono ?_
          rintro e w3 ⟨rfl, hb3, hh3⟩
          have HB3 : Hid (w2.grownBy w3 none) := grown_below hb3 none
          have X3 := Lib.hid (X2.out.keep HB3.out (by simp) (by simp))
          have D3 := Lib.hid (D2.out.keep HB3.out (fun k hk => by cases hk))
          have G3 := Lib.hid (grown_far G2.out HB3.out (fun k hk => by cases hk))
          clear hb3 hh3
          go_wp2_with fail
          refine (len_int _ b c k _ X3.out).mono ?_
          rw [nums_length, hq]
          rintro e w5 ⟨rfl, rfl⟩
          go_wp2_with fail
          refine (room_int _ b c k _ X3.out).mono ?_
          rw [nums_length, hq]
          rintro e w6 ⟨rfl, hb6, hh6⟩
          have G6 : Hid (World.grownBy _ w6 none) := grown_below hb6 none
          have X6 := Lib.hid (X3.out.keep G6.out (by simp) (by simp))
          have D6 := Lib.hid (D3.out.keep G6.out (fun k hk => by cases hk))
          have G6 := Lib.hid (grown_far G3.out G6.out (fun k hk => by cases hk))
          clear hb6 hh6
          go_wp2_with fail
          refine (list_int w6 b c k _ X6.out (nums_all _)).mono ?_
          rintro e w7 ⟨vl, rfl, hol, hx7, hg7⟩
          rw [nums_length, hq] at hol
          obtain ⟨Al, cl, rfl, hsll⟩ := own_form hol
          have X7 := Lib.hid hx7
          have D7 := Lib.hid (D6.out.keep hg7 (fun k hk => by cases hk; exact hcl))
          have G7 := Lib.hid (G6.out.trans hg7)
          have SL := Lib.hid hsll
          have S7 := Lib.hid D7.out.sl
          clear hol hx7 hg7 hsll
          go_wp2_with fail
          refine (equal_int w7 Al q cl A' c' (xs) SL.out S7.out).mono ?_
          rintro e w8 ⟨rfl, hb8, hh8⟩
          have G8 : Hid (w7.grownBy w8 none) := grown_below hb8 none
          have X8 := Lib.hid (X7.out.keep G8.out (by simp) (by simp))
          have D8 := Lib.hid (D7.out.keep G8.out (fun k hk => by cases hk))
          have G9 := Lib.hid (grown_far G7.out G8.out (fun k hk => by cases hk))
          clear hb8 hh8
          go_wp2_with fail
          go_roundw
          case rel => exact ⟨i + 1, (xs), q, by omega, by go_num, hq, by omega, D8.out, X8.out, G9.out⟩
          case measure => simp [intOf]; omega
    · obtain rfl : i = n := by omega
      go_wp2_with fail
      refine (awake_calls _).mono ?_
      rintro e w9 ⟨rfl, hb9⟩
      have HF : Hid (Below w.heap.size w w9) := HE.out.trans (hb9.mono HE.out.size)
      clear hb9
      go_wp2_with fail
      go_ret
      exact ⟨rfl, HF.out⟩
end Box
end Go.Proofs.Ytdmpgoaemoiogaa
