/- Lanes: Double, Peek, Lose, Spoil. -/
import Derived.Test.YtdmpgoaemoiogaaLan6
set_option linter.unusedVariables false
set_option linter.unusedSimpArgs false
set_option maxRecDepth 100000
namespace Go.Proofs.Ytdmpgoaemoiogaa
open Go.RowKit Go.Maps
namespace Box
variable {w : World} {F : Nat → Prop} {p m n nk : Nat} {s t : Int} {q : Int × Int → List Par} {f : Int × Int → Option (Nat × Nat)}
theorem LnsF.setSame {w' : World} (h : LnsF w F p m n nk s t q f) {k : Int × Int} {b c : Nat} (hk : f k = some (b, c)) (hg : w.grownBy w' (some c)) (hx : IsP w' b c (q k)) : LnsF w' F p m n nk s t q f := by
  have := h.set hk hg hx
  rwa [upd_self] at this
set_option maxHeartbeats 1000000 in
theorem double_calls (h : LnsF w F p m n nk s t q f) (i j : Int) (hk : Way n (i, j)) (k : Nat) (x : Par) (hx : (q (i, j))[k]? = some x) :
    Calls Try.prog 35 #[.pointer (some ⟨p, 0, none⟩), .int .i64 i, .int .i64 j, .int .i64 k] w fun e w' =>
      e = .returned (.int .i64 (if (q (i, j)).length < 40 then 0 else 8)) ∧ Step w F p n s t (if (q (i, j)).length < 40 then upd q (i, j) (q (i, j) ++ [x]) else q) w' := by
  have C := Lib.hid (boxYes_calls h i j hk)
  have HX := Lib.hid hx
  have hkl : k < (q (i, j)).length := (List.getElem?_eq_some_iff.1 hx).1
  clear hk h hx
  obtain ⟨qn, hqn⟩ : ∃ qn, (q (i, j)).length = qn := ⟨_, rfl⟩
  rw [hqn] at hkl ⊢
  have hkq : (k : Int) < qn := by omega
  go_enter Try.func35, Try.ntmps35
  go_wp2_with fail
  refine C.out.mono ?_
  rintro e w1 ⟨b, c, F1, rfl, ⟨m1, nk1, f1, hL, hfk⟩, hft, hF⟩
  have HL := Lib.hid hL
  have HFT := Lib.hid hft
  have HFK := Lib.hid hfk
  have hpe := ptr_eq_par b
  have hlen := len_par w1 b c 40 _ (hL.box _ _ _ hfk).2.1
  rw [pvs_length, hqn] at hlen
  have C2 := Lib.hid hlen
  have C3 := Lib.hid (list_par w1 b c _ (hL.box _ _ _ hfk).2.1)
  clear hL hft hfk hlen
  go_wp2_with fail
  refine C2.out.mono ?_
  rintro e w2 ⟨rfl, rfl⟩
  go_wp2_with fail
  refine C3.out.mono ?_
  rintro e w3 ⟨v, rfl, ho, hxp, hg⟩
  rw [hqn] at ho
  obtain ⟨A, cap, rfl, hsl⟩ := own_form ho
  have hcap := hsl.2.1
  have hcm := hsl.2.2.1
  unfold maxLen at hcm
  obtain ⟨ab, ao, rfl, z0, z1, z2⟩ := par_at hsl HX.out
  obtain ⟨ps, pa, pb⟩ := x
  simp only at z0 z1 z2
  have HL3 := Lib.hid (HL.out.setSame HFK.out hg hxp)
  have HG3 := Lib.hid hg
  have C4 := Lib.hid (put_par w3 b c _ (ps, pa, pb) hxp)
  rw [hqn] at C4
  simp only [pv] at C4
  clear ho hsl hxp hg
  by_cases hr : qn < 40
  · rw [if_pos hr, decide_eq_true hr] at C4
    go_wp2_with fail
    refine C4.out.mono ?_
    rintro e w4 ⟨rfl, hx4, hg4⟩
    have HS := Lib.hid ((HL3.out.set HFK.out hg4 hx4).stepB HFT.out hF ((Foot.of_grown HG3.out (HL.out.box _ _ _ HFK.out).2.2.2).trans (Foot.of_grown hg4 (HL.out.box _ _ _ HFK.out).2.2.2) (fun k hk => .inl hk)))
    clear hx4 hg4
    go_wp2_with fail
    go_ret
    simp only [if_pos hr]
    exact ⟨rfl, HS.out⟩
  · rw [if_neg hr, decide_eq_false hr] at C4
    go_wp2_with fail
    refine C4.out.mono ?_
    rintro e w4 ⟨rfl, hx4, hg4⟩
    have HS := Lib.hid ((HL3.out.setSame HFK.out hg4 hx4).stepB HFT.out hF ((Foot.of_grown HG3.out (HL.out.box _ _ _ HFK.out).2.2.2).trans (Foot.of_grown hg4 (HL.out.box _ _ _ HFK.out).2.2.2) (fun k hk => .inl hk)))
    clear hx4 hg4
    go_wp2_with fail
    go_ret
    simp only [if_neg hr]
    exact ⟨rfl, HS.out⟩
set_option maxHeartbeats 1000000 in
theorem peek_calls (h : LnsF w F p m n nk s t q f) (i j : Int) (hk : Way n (i, j)) (k : Nat) (x : Par) (hx : (q (i, j))[k]? = some x) (hok : OkP x) :
    Calls Try.prog 37 #[.pointer (some ⟨p, 0, none⟩), .int .i64 i, .int .i64 j, .int .i64 k] w fun e w' => Came w e w' x ∧ Step w F p n s t q w' := by
  have C := Lib.hid (boxYes_calls h i j hk)
  have HX := Lib.hid hx
  have C5 := Lib.hid (open_calls x hok)
  have hkl : k < (q (i, j)).length := (List.getElem?_eq_some_iff.1 hx).1
  clear hk h hx hok
  obtain ⟨qn, hqn⟩ : ∃ qn, (q (i, j)).length = qn := ⟨_, rfl⟩
  rw [hqn] at hkl
  have hkq : (k : Int) < qn := by omega
  go_enter Try.func37, Try.ntmps37
  go_wp2_with fail
  refine C.out.mono ?_
  rintro e w1 ⟨b, c, F1, rfl, ⟨m1, nk1, f1, hL, hfk⟩, hft, hF⟩
  have HL := Lib.hid hL
  have HFT := Lib.hid hft
  have HFK := Lib.hid hfk
  have hpe := ptr_eq_par b
  have hlen := len_par w1 b c 40 _ (hL.box _ _ _ hfk).2.1
  rw [pvs_length, hqn] at hlen
  have C2 := Lib.hid hlen
  have C3 := Lib.hid (list_par w1 b c _ (hL.box _ _ _ hfk).2.1)
  clear hL hft hfk hlen
  go_wp2_with fail
  refine C2.out.mono ?_
  rintro e w2 ⟨rfl, rfl⟩
  go_wp2_with fail
  refine C3.out.mono ?_
  rintro e w3 ⟨v, rfl, ho, hxp, hg⟩
  rw [hqn] at ho
  obtain ⟨A, cap, rfl, hsl⟩ := own_form ho
  have hcap := hsl.2.1
  have hcm := hsl.2.2.1
  unfold maxLen at hcm
  obtain ⟨ab, ao, rfl, z0, z1, z2⟩ := par_at hsl HX.out
  have HS := Lib.hid ((HL.out.setSame HFK.out hg hxp).stepB HFT.out hF (Foot.of_grown hg (HL.out.box _ _ _ HFK.out).2.2.2))
  have C4 := Lib.hid (C5.out w3)
  obtain ⟨ps, pa, pb⟩ := x
  simp only at z0 z1 z2
  simp only [pv] at C4
  clear ho hsl hxp hg
  go_wp2_with fail
  refine C4.out.mono ?_
  rintro e w4 ⟨A, cap2, rfl, hs4, hb4, hfr⟩
  have HS4 := Lib.hid hs4
  have HB4 := Lib.hid hb4
  have HFR := Lib.hid hfr
  clear hs4 hb4 hfr
  simp only
  go_wp2_with fail
  go_ret2
  exact ⟨⟨A, cap2, rfl, HS4.out, fun ad ha => by have h1 := HFR.out ad ha; have h2 := HS.out.size; omega⟩, HS.out.below HB4.out⟩
end Box
end Go.Proofs.Ytdmpgoaemoiogaa
