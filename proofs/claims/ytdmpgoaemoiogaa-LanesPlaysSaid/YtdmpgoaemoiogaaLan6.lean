/- Lanes: Double, Peek, Lose, Spoil, refused. Written by lan6.py. -/
import Derived.Test.YtdmpgoaemoiogaaLan5
import Derived.Test.YtdmpgoaemoiogaaBoxL3
set_option linter.unusedVariables false
set_option linter.unusedSimpArgs false
set_option maxRecDepth 100000
namespace Go.Proofs.Ytdmpgoaemoiogaa
open Go.RowKit Go.Maps
namespace Box
variable {w : World} {F : Nat → Prop} {p m n nk : Nat} {s t : Int} {q : Int × Int → List Par} {f : Int × Int → Option (Nat × Nat)}
theorem par_at {w : World} {A : Option Addr} {n c : Nat} {l : List Par} (h : IsSl w 3 A n c (pCells l)) {i : Nat} {x : Par} (hx : l[i]? = some x) : ∃ b o, A = some ⟨b, o, none⟩ ∧ w.cell? ⟨b, o + i * 3, none⟩ = some (.string x.1) ∧ w.cell? ⟨b, o + i * 3 + 1, none⟩ = some (.int .i64 x.2.1) ∧ w.cell? ⟨b, o + i * 3 + 2, none⟩ = some (.int .u8 x.2.2) := by
  obtain ⟨h1, h2, h3, h4, h5⟩ := h
  obtain ⟨e0, e1, e2⟩ := pCells_at l i x hx
  rw [pCells_length] at h1
  have hi := (List.getElem?_eq_some_iff.1 hx).1
  cases A with
  | none => have := h4 rfl; omega
  | some ad =>
    obtain ⟨ab, ao, sp⟩ := ad
    have f0 := h5 _ rfl (i * 3) _ e0
    have f1 := h5 _ rfl (i * 3 + 1) _ e1
    have f2 := h5 _ rfl (i * 3 + 2) _ e2
    have g0 := h5 _ rfl 0 ((pCells l)[0]'(by rw [pCells_length]; omega)) (List.getElem?_eq_getElem _)
    have hsp := spot_none g0
    have hsp : sp = none := by simpa [Addr.add] using hsp
    subst hsp
    rw [Addr.add_lit] at f0 f1 f2
    exact ⟨ab, ao, rfl, f0, f1, f2⟩
theorem doubleNo_calls (P : Value) (i j : Int) (C0 : Calls Try.prog 48 #[P, .int .i64 i, .int .i64 j] w fun e w' => e = .returned (.pointer none) ∧ w' = w) (k : Int) :
    Calls Try.prog 35 #[P, .int .i64 i, .int .i64 j, .int .i64 k] w fun e w' => e = .returned (.int .i64 15) ∧ w' = w := by
  have C := Lib.hid (C0)
  clear C0
  go_enter Try.func35, Try.ntmps35
  go_wp2_with fail
  refine C.out.mono ?_
  rintro e w' ⟨rfl, rfl⟩
  go_wp2_with fail
  go_ret
  exact ⟨rfl, rfl⟩
theorem peekNo_calls (P : Value) (i j : Int) (C0 : Calls Try.prog 48 #[P, .int .i64 i, .int .i64 j] w fun e w' => e = .returned (.pointer none) ∧ w' = w) (k : Int) :
    Calls Try.prog 37 #[P, .int .i64 i, .int .i64 j, .int .i64 k] w fun e w' => e = .returned (.tuple #[.slice none 0 0, .int .i64 15]) ∧ w' = w := by
  have C := Lib.hid (C0)
  clear C0
  go_enter Try.func37, Try.ntmps37
  go_wp2_with fail
  refine C.out.mono ?_
  rintro e w' ⟨rfl, rfl⟩
  go_wp2_with fail
  go_ret2
  exact ⟨rfl, rfl⟩
theorem spoilNo_calls (P : Value) (i j : Int) (C0 : Calls Try.prog 48 #[P, .int .i64 i, .int .i64 j] w fun e w' => e = .returned (.pointer none) ∧ w' = w) (k a y : Int) :
    Calls Try.prog 34 #[P, .int .i64 i, .int .i64 j, .int .i64 k, .int .i64 a, .int .u8 y] w fun e w' => e = .returned (.int .i64 15) ∧ w' = w := by
  have C := Lib.hid (C0)
  clear C0
  go_enter Try.func34, Try.ntmps34
  go_wp2_with fail
  refine C.out.mono ?_
  rintro e w' ⟨rfl, rfl⟩
  go_wp2_with fail
  go_ret
  exact ⟨rfl, rfl⟩
theorem loseNo_calls (P : Value) (i j : Int) (C0 : Calls Try.prog 48 #[P, .int .i64 i, .int .i64 j] w fun e w' => e = .returned (.pointer none) ∧ w' = w) (k : Int) :
    Calls Try.prog 38 #[P, .int .i64 i, .int .i64 j, .int .i64 k] w fun e w' => e = .returned (.int .i64 15) ∧ w' = w := by
  have C := Lib.hid (takeNo_calls P i j C0 k)
  clear C0
  go_enter Try.func38, Try.ntmps38
  go_wp2_with fail
  refine C.out.mono ?_
  rintro e w' ⟨rfl, rfl⟩
  go_wp2_with fail
  go_ret
  exact ⟨rfl, rfl⟩
set_option maxHeartbeats 1000000 in
theorem doubleOut_calls (h : LnsF w F p m n nk s t q f) (i j : Int) (hk : Way n (i, j)) (k : Int) (ho : Out (q (i, j)) k) :
    Calls Try.prog 35 #[.pointer (some ⟨p, 0, none⟩), .int .i64 i, .int .i64 j, .int .i64 k] w fun e w' => e = .returned (.int .i64 10) ∧ Step w F p n s t q w' := by
  have C := Lib.hid (boxYes_calls h i j hk)
  clear hk h
  unfold Out at ho
  by_cases h0 : k < 0
  · go_enter Try.func35, Try.ntmps35
    go_wp2_with fail
    refine C.out.mono ?_
    rintro e w1 ⟨b, c, F1, rfl, ⟨m1, nk1, f1, hL, hfk⟩, hft, hF⟩
    have HL := Lib.hid hL
    have HFT := Lib.hid hft
    have hpe := ptr_eq_par b
    clear hL hft hfk
    go_wp2_with fail
    go_ret
    exact ⟨rfl, HL.out.stepB HFT.out hF (Foot.refl _ _)⟩
  · have h1 : ((q (i, j)).length : Int) ≤ k := by omega
    obtain ⟨qn, hqn⟩ : ∃ qn, (q (i, j)).length = qn := ⟨_, rfl⟩
    rw [hqn] at h1 ho
    go_enter Try.func35, Try.ntmps35
    go_wp2_with fail
    refine C.out.mono ?_
    rintro e w1 ⟨b, c, F1, rfl, ⟨m1, nk1, f1, hL, hfk⟩, hft, hF⟩
    have HL := Lib.hid hL
    have HFT := Lib.hid hft
    have hpe := ptr_eq_par b
    have hlen := len_par w1 b c 40 _ (hL.box _ _ _ hfk).2.1
    rw [pvs_length, hqn] at hlen
    have C2 := Lib.hid hlen
    clear hlen
    clear hL hft hfk
    go_wp2_with fail
    refine C2.out.mono ?_
    rintro e w2 ⟨rfl, rfl⟩
    go_wp2_with fail
    go_ret
    exact ⟨rfl, HL.out.stepB HFT.out hF (Foot.refl _ _)⟩
set_option maxHeartbeats 1000000 in
theorem peekOut_calls (h : LnsF w F p m n nk s t q f) (i j : Int) (hk : Way n (i, j)) (k : Int) (ho : Out (q (i, j)) k) :
    Calls Try.prog 37 #[.pointer (some ⟨p, 0, none⟩), .int .i64 i, .int .i64 j, .int .i64 k] w fun e w' => e = .returned (.tuple #[.slice none 0 0, .int .i64 10]) ∧ Step w F p n s t q w' := by
  have C := Lib.hid (boxYes_calls h i j hk)
  clear hk h
  unfold Out at ho
  by_cases h0 : k < 0
  · go_enter Try.func37, Try.ntmps37
    go_wp2_with fail
    refine C.out.mono ?_
    rintro e w1 ⟨b, c, F1, rfl, ⟨m1, nk1, f1, hL, hfk⟩, hft, hF⟩
    have HL := Lib.hid hL
    have HFT := Lib.hid hft
    have hpe := ptr_eq_par b
    clear hL hft hfk
    go_wp2_with fail
    go_ret2
    exact ⟨rfl, HL.out.stepB HFT.out hF (Foot.refl _ _)⟩
  · have h1 : ((q (i, j)).length : Int) ≤ k := by omega
    obtain ⟨qn, hqn⟩ : ∃ qn, (q (i, j)).length = qn := ⟨_, rfl⟩
    rw [hqn] at h1 ho
    go_enter Try.func37, Try.ntmps37
    go_wp2_with fail
    refine C.out.mono ?_
    rintro e w1 ⟨b, c, F1, rfl, ⟨m1, nk1, f1, hL, hfk⟩, hft, hF⟩
    have HL := Lib.hid hL
    have HFT := Lib.hid hft
    have hpe := ptr_eq_par b
    have hlen := len_par w1 b c 40 _ (hL.box _ _ _ hfk).2.1
    rw [pvs_length, hqn] at hlen
    have C2 := Lib.hid hlen
    clear hlen
    clear hL hft hfk
    go_wp2_with fail
    refine C2.out.mono ?_
    rintro e w2 ⟨rfl, rfl⟩
    go_wp2_with fail
    go_ret2
    exact ⟨rfl, HL.out.stepB HFT.out hF (Foot.refl _ _)⟩
set_option maxHeartbeats 1000000 in
theorem spoilOut_calls (h : LnsF w F p m n nk s t q f) (i j : Int) (hk : Way n (i, j)) (k : Int) (ho : Out (q (i, j)) k) (a y : Int) :
    Calls Try.prog 34 #[.pointer (some ⟨p, 0, none⟩), .int .i64 i, .int .i64 j, .int .i64 k, .int .i64 a, .int .u8 y] w fun e w' => e = .returned (.int .i64 10) ∧ Step w F p n s t q w' := by
  have C := Lib.hid (boxYes_calls h i j hk)
  clear hk h
  unfold Out at ho
  by_cases h0 : k < 0
  · go_enter Try.func34, Try.ntmps34
    go_wp2_with fail
    refine C.out.mono ?_
    rintro e w1 ⟨b, c, F1, rfl, ⟨m1, nk1, f1, hL, hfk⟩, hft, hF⟩
    have HL := Lib.hid hL
    have HFT := Lib.hid hft
    have hpe := ptr_eq_par b
    clear hL hft hfk
    go_wp2_with fail
    go_ret
    exact ⟨rfl, HL.out.stepB HFT.out hF (Foot.refl _ _)⟩
  · have h1 : ((q (i, j)).length : Int) ≤ k := by omega
    obtain ⟨qn, hqn⟩ : ∃ qn, (q (i, j)).length = qn := ⟨_, rfl⟩
    rw [hqn] at h1 ho
    go_enter Try.func34, Try.ntmps34
    go_wp2_with fail
    refine C.out.mono ?_
    rintro e w1 ⟨b, c, F1, rfl, ⟨m1, nk1, f1, hL, hfk⟩, hft, hF⟩
    have HL := Lib.hid hL
    have HFT := Lib.hid hft
    have hpe := ptr_eq_par b
    have hlen := len_par w1 b c 40 _ (hL.box _ _ _ hfk).2.1
    rw [pvs_length, hqn] at hlen
    have C2 := Lib.hid hlen
    clear hlen
    clear hL hft hfk
    go_wp2_with fail
    refine C2.out.mono ?_
    rintro e w2 ⟨rfl, rfl⟩
    go_wp2_with fail
    go_ret
    exact ⟨rfl, HL.out.stepB HFT.out hF (Foot.refl _ _)⟩
end Box
end Go.Proofs.Ytdmpgoaemoiogaa
