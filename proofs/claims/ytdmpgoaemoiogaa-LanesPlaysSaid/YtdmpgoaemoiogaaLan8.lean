/- Lanes: Lose, Spoil. -/
import Derived.Test.YtdmpgoaemoiogaaLan7
set_option linter.unusedVariables false
set_option linter.unusedSimpArgs false
set_option maxRecDepth 100000
namespace Go.Proofs.Ytdmpgoaemoiogaa
open Go.RowKit Go.Maps
namespace Box
variable {w : World} {F : Nat → Prop} {p m n nk : Nat} {s t : Int} {q : Int × Int → List Par} {f : Int × Int → Option (Nat × Nat)}
theorem loseOut_calls (h : LnsF w F p m n nk s t q f) (i j : Int) (hk : Way n (i, j)) (k : Int) (ho : Out (q (i, j)) k) :
    Calls Try.prog 38 #[.pointer (some ⟨p, 0, none⟩), .int .i64 i, .int .i64 j, .int .i64 k] w fun e w' => e = .returned (.int .i64 10) ∧ Step w F p n s t q w' := by
  have C := Lib.hid (takeOut_calls h i j hk k ho)
  clear hk h ho
  go_enter Try.func38, Try.ntmps38
  go_wp2_with fail
  refine C.out.mono ?_
  rintro e w1 ⟨rfl, hs⟩
  have HS := Lib.hid hs
  clear hs
  go_wp2_with fail
  go_ret
  exact ⟨rfl, HS.out⟩
theorem lose_calls (h : LnsF w F p m n nk s t q f) (i j : Int) (hk : Way n (i, j)) (k : Nat) (x : Par) (hx : (q (i, j))[k]? = some x) (hok : OkP x) (ht : -9223372036854775808 ≤ t ∧ t + 1 ≤ 9223372036854775807) :
    Calls Try.prog 38 #[.pointer (some ⟨p, 0, none⟩), .int .i64 i, .int .i64 j, .int .i64 k] w fun e w' => e = .returned (.int .i64 0) ∧ Step w F p n s (t + 1) (upd q (i, j) ((q (i, j)).eraseIdx k)) w' := by
  have C := Lib.hid (take_calls h i j hk k x hx hok)
  have hwt : IntKind.i64.wrap (t + 1) = t + 1 := by rw [IntKind.wrap_i64]; omega
  clear hk h hx hok
  go_enter Try.func38, Try.ntmps38
  go_wp2_with fail
  refine C.out.mono ?_
  rintro e w1 ⟨⟨A, cap, rfl, hsl, _⟩, F1, ⟨m1, nk1, f1, hL⟩, hft, hF⟩
  have HL := Lib.hid hL
  have HFT := Lib.hid hft
  obtain ⟨y0, y1, y2, y3, y4⟩ := head4 hL.head
  clear hsl hL hft
  go_wp2_with fail
  go_ret
  exact ⟨rfl, (HL.out.lost (t + 1)).stepB HFT.out hF (Foot.cell HL.out.inF.1 _)⟩
/-- What is turned in a parcel. -/
def spoiled (x : Par) (a y : Int) : Par := (x.1, max a 0, y)
theorem take_set {l : List Par} {k i : Nat} (z : Par) (hi : i < l.length) : (l.set k z).take (i + 1) = (l.set k z).take i ++ [if i = k then z else l[i]] := by
  rw [List.take_add_one, List.getElem?_eq_getElem (by simpa using hi), List.getElem_set]
  by_cases e : k = i
  · rw [if_pos e, if_pos e.symm]; rfl
  · rw [if_neg e, if_neg (fun h => e h.symm)]; rfl
set_option maxHeartbeats 4000000 in
theorem spoil_calls (h : LnsF w F p m n nk s t q f) (i j : Int) (hk : Way n (i, j)) (k : Nat) (x : Par) (hx : (q (i, j))[k]? = some x) (a y : Int) :
    Calls Try.prog 34 #[.pointer (some ⟨p, 0, none⟩), .int .i64 i, .int .i64 j, .int .i64 k, .int .i64 a, .int .u8 y] w fun e w' =>
      e = .returned (.int .i64 0) ∧ Step w F p n s t (upd q (i, j) ((q (i, j)).set k (spoiled x a y))) w' := by
  have C := Lib.hid (boxYes_calls h i j hk)
  have HX := Lib.hid hx
  have hkl : k < (q (i, j)).length := (List.getElem?_eq_some_iff.1 hx).1
  clear hk h hx
  obtain ⟨l, hql⟩ : ∃ l, q (i, j) = l := ⟨_, rfl⟩
  rw [hql] at hkl ⊢ HX
  obtain ⟨qn, hqn⟩ : ∃ qn, l.length = qn := ⟨_, rfl⟩
  rw [hqn] at hkl
  have hkq : (k : Int) < qn := by omega
  go_enter Try.func34, Try.ntmps34
  go_wp2_with fail
  refine C.out.mono ?_
  rintro e w1 ⟨b, c, F1, rfl, ⟨m1, nk1, f1, hL, hfk⟩, hft, hF⟩
  have HL := Lib.hid hL
  have HFT := Lib.hid hft
  have HFK := Lib.hid hfk
  have hpe := ptr_eq_par b
  have hbx := (hL.box _ _ _ hfk).2.1
  rw [hql] at hbx
  have hroom := hbx.room
  rw [hqn] at hroom
  have HBX := Lib.hid hbx
  have hlen := len_par w1 b c 40 _ hbx
  rw [pvs_length, hqn] at hlen
  have C2 := Lib.hid hlen
  have hlt := hbx.lt
  clear hL hft hfk hlen hbx
  go_wp2_with fail
  refine C2.out.mono ?_
  rintro e w2 ⟨rfl, rfl⟩
  go_wp2_with fail
  refine C2.out.mono ?_
  rintro e w3 ⟨rfl, rfl⟩
  go_wp2_with fail
  go_loopw [33] (fun ix wr => ∃ (o : Nat), o ≤ qn ∧ ix = .int .i64 o ∧ IsP wr b c (l.drop o ++ (l.set k (spoiled x a y)).take o) ∧ w3.grownBy wr (some c)) (fun ix _ => qn - (intOf ix).toNat)
  case atStart => exact ⟨0, Nat.zero_le _, rfl, by simpa using HBX.out, World.grownBy.refl _ _⟩
  case round =>
    obtain ⟨o, ho, rfl, hxp, hg⟩ := hrel
    have HXP := Lib.hid hxp
    have HG := Lib.hid hg
    clear hxp hg
    by_cases hlo : o < qn
    · obtain ⟨z, hz1, hz2, _⟩ := split_at (l := l) (i := o) (by omega)
      have HT := Lib.hid (take_set (k := k) (spoiled x a y) (show o < l.length by omega))
      have HX2 : Hid (IsP wr b c (z :: (l.drop (o + 1) ++ (l.set k (spoiled x a y)).take o))) := by have := HXP.out; rwa [hz2] at this
      have hzz : l[o]'(by omega) = z := by rw [List.getElem?_eq_getElem (by omega)] at hz1; exact Option.some.inj hz1
      rw [hzz] at HT
      have hlen : (l.drop (o + 1) ++ (l.set k (spoiled x a y)).take o).length < 40 := by
        rw [List.length_append, List.length_drop, List.length_take, List.length_set]; omega
      by_cases hik : o = k
      · subst hik
        obtain rfl : z = x := Option.some.inj (hz1.symm.trans HX.out)
        rw [if_pos rfl] at HT
        clear hz1 hz2 hzz HXP
        go_wp2_with fail
        refine (take_par wr b c z _ HX2.out).mono ?_
        obtain ⟨ps, pa, pb⟩ := z
        rintro e w4 ⟨rfl, hx4, hg4⟩
        have HX4 := Lib.hid hx4
        have HG4 := Lib.hid (HG.out.trans hg4)
        clear hx4 hg4
        simp only [pv]
        rcases (show (a < 0 ∧ max a 0 = 0) ∨ (0 ≤ a ∧ max a 0 = a) by omega) with ⟨ha, hm⟩ | ⟨ha, hm⟩
        · have hsp : Hid (spoiled (ps, pa, pb) a y = (ps, 0, y)) := by show spoiled _ _ _ = _; simp only [spoiled]; rw [hm]
          clear hm
          go_wp2_with fail
          refine (put_par _ b c _ (ps, 0, y) (HX4.out.alloc _)).mono ?_
          rw [if_pos hlen]
          rintro e w5 ⟨rfl, hx5, hg5⟩
          have HX5 := Lib.hid hx5
          have HG5 := Lib.hid ((HG4.out.trans (World.grownBy_alloc _ _ _)).trans hg5)
          clear hx5 hg5
          go_wp2_with fail
          go_roundw
          case rel => exact ⟨o + 1, by omega, by go_num, by have h5 := HX5.out; rw [← hsp.out] at h5; rw [HT.out, ← List.append_assoc]; exact h5, HG5.out⟩
          case measure => simp [intOf]; omega
        · have hsp : Hid (spoiled (ps, pa, pb) a y = (ps, a, y)) := by show spoiled _ _ _ = _; simp only [spoiled]; rw [hm]
          clear hm
          go_wp2_with fail
          refine (put_par _ b c _ (ps, a, y) (HX4.out.alloc _)).mono ?_
          rw [if_pos hlen]
          rintro e w5 ⟨rfl, hx5, hg5⟩
          have HX5 := Lib.hid hx5
          have HG5 := Lib.hid ((HG4.out.trans (World.grownBy_alloc _ _ _)).trans hg5)
          clear hx5 hg5
          go_wp2_with fail
          go_roundw
          case rel => exact ⟨o + 1, by omega, by go_num, by have h5 := HX5.out; rw [← hsp.out] at h5; rw [HT.out, ← List.append_assoc]; exact h5, HG5.out⟩
          case measure => simp [intOf]; omega
      · rw [if_neg hik] at HT
        have hne : ((o : Int) = k) = False := by simp; omega
        clear hz1 hz2 hzz HXP
        go_wp2_with fail
        refine (take_par wr b c z _ HX2.out).mono ?_
        obtain ⟨ps, pa, pb⟩ := z
        rintro e w4 ⟨rfl, hx4, hg4⟩
        have HX4 := Lib.hid hx4
        have HG4 := Lib.hid (HG.out.trans hg4)
        clear hx4 hg4
        simp only [pv]
        go_wp2_with fail
        refine (put_par _ b c _ (ps, pa, pb) (HX4.out.alloc _)).mono ?_
        rw [if_pos hlen]
        rintro e w5 ⟨rfl, hx5, hg5⟩
        have HX5 := Lib.hid hx5
        have HG5 := Lib.hid ((HG4.out.trans (World.grownBy_alloc _ _ _)).trans hg5)
        clear hx5 hg5
        go_wp2_with fail
        go_roundw
        case rel => exact ⟨o + 1, by omega, by go_num, by rw [HT.out, ← List.append_assoc]; exact HX5.out, HG5.out⟩
        case measure => simp [intOf]; omega
    · obtain rfl : o = qn := by omega
      have ht : (l.set k (spoiled x a y)).take o = l.set k (spoiled x a y) := List.take_of_length_le (by rw [List.length_set]; omega)
      have hd : l.drop o = [] := List.drop_eq_nil_of_le (by omega)
      have HX2 : Hid (IsP wr b c (l.set k (spoiled x a y))) := by have := HXP.out; rwa [ht, hd] at this
      clear ht hd HXP
      go_wp2_with fail
      go_ret
      exact ⟨rfl, HL.out.stepG HFT.out hF HFK.out HG.out HX2.out⟩
end Box
end Go.Proofs.Ytdmpgoaemoiogaa
