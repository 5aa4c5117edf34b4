/- The walks: Pull of a box of numbers; slices.Equal, Clone, Delete of numbers. -/
import Derived.Test.YtdmpgoaemoiogaaBoxW5
import Derived.Deep.RegionLaw
import Derived.Shelf.RegionOpenPlain
import Derived.Lib.SlicesDelete
set_option linter.unusedVariables false
set_option linter.unusedSimpArgs false
set_option maxRecDepth 100000
namespace Go.Proofs.Ytdmpgoaemoiogaa
open Go.RowKit
namespace Box
def nums (xs : List Int) : List Value := xs.map (.int .i64)
theorem nums_length (xs : List Int) : (nums xs).length = xs.length := by simp [nums]
theorem erase_snoc_lt {α : Type} {l : List α} {x : α} {k : Nat} (h : k < l.length) : (l ++ [x]).eraseIdx k = l.eraseIdx k ++ [x] := List.eraseIdx_append_of_lt_length h [x]
theorem erase_snoc_eq {α : Type} {l : List α} {x : α} : (l ++ [x]).eraseIdx l.length = l := by
  rw [List.eraseIdx_append_of_length_le (Nat.le_refl _)]; simp

set_option maxHeartbeats 1000000 in
theorem pullNo_int (w : World) (b c cap : Nat) (l : List Value) (h : IsBox w b c cap l) (k : Int) (hk : k < 0 ∨ (l.length : Int) ≤ k) :
    Calls Try.prog 17 #[.pointer (some ⟨b, 0, none⟩), .int .i64 k] w fun e w' => e = .returned (.tuple #[.int .i64 0, .bool false]) ∧ w' = w := by
  have H := Lib.hid h
  clear h
  by_cases h0 : k < 0
  · go_enter Try.func17, Try.ntmps17
    go_wp2_with fail
    go_ret2
    exact ⟨rfl, rfl⟩
  · have hk2 : (l.length : Int) ≤ k := by omega
    generalize hn : l.length = n at *
    go_enter Try.func17, Try.ntmps17
    go_wp2_with fail
    refine (len_int w b c cap l H.out).mono ?_
    rw [hn]
    rintro e w1 ⟨rfl, rfl⟩
    go_wp2_with fail
    go_ret2
    exact ⟨rfl, rfl⟩
set_option maxHeartbeats 1000000 in
theorem pull_int (w : World) (b c cap : Nat) (xs : List Int) (h : IsBox w b c cap (nums xs)) (k : Nat) (hk : k < xs.length) :
    Calls Try.prog 17 #[.pointer (some ⟨b, 0, none⟩), .int .i64 k] w fun e w' => e = .returned (.tuple #[.int .i64 (xs.getD k 0), .bool true]) ∧ IsBox w' b c cap ((nums xs).eraseIdx k) ∧ w.grownBy w' (some c) ∧ w'.heap.size = w.heap.size := by
  have H := Lib.hid h
  have hroom := h.room
  have hn := nums_length xs
  clear h
  generalize hnn : xs.length = n at *
  rw [hn] at hroom
  have hkn : (k : Int) < n := by omega
  have hxk : Hid ((nums xs)[k]? = some (.int .i64 (xs.getD k 0))) := by
    show (nums xs)[k]? = _
    rw [nums, List.getElem?_map, List.getD_eq_getElem?_getD, List.getElem?_eq_getElem (by omega)]; rfl
  generalize xs.getD k 0 = z at *
  generalize nums xs = l at *
  go_enter Try.func17, Try.ntmps17
  go_wp2_with fail
  refine (len_int w b c cap l H.out).mono ?_
  rw [hn]
  rintro e w1 ⟨rfl, rfl⟩
  go_wp2_with fail
  refine (len_int _ b c cap l H.out).mono ?_
  rw [hn]
  rintro e w1 ⟨rfl, rfl⟩
  go_wp2_with fail
  go_loopw [6, 21] (fun out ix wr => ∃ i : Nat, i ≤ n ∧ ix = .int .i64 i ∧ out = .int .i64 (if k < i then z else 0) ∧ IsBox wr b c cap (l.drop i ++ (l.take i).eraseIdx k) ∧ w1.grownBy wr (some c) ∧ wr.heap.size = w1.heap.size) (fun _ ix _ => n - (intOf ix).toNat)
  case atStart => exact ⟨0, Nat.zero_le _, rfl, rfl, by simpa using H.out, World.grownBy.refl _ _, rfl⟩
  case round =>
    obtain ⟨i, hi, rfl, rfl, hx, hg, hs⟩ := hrel
    have HX := Lib.hid hx
    have HG := Lib.hid hg
    clear hx hg
    by_cases hl : i < n
    · obtain ⟨x, hx1, hx2, hx3⟩ := split_at (l := l) (i := i) (by omega)
      have hln : (l.take i).length = i := by simp; omega
      have HX2 : Hid (IsBox wr b c cap (x :: (l.drop (i + 1) ++ (l.take i).eraseIdx k))) := by have := HX.out; rwa [hx2] at this
      by_cases hik : i = k
      · subst hik
        have hxz : x = .int .i64 z := Option.some.inj (hx1.symm.trans hxk.out)
        subst hxz
        have HX3 : Hid (l.drop (i + 1) ++ (l.take i).eraseIdx i = l.drop (i + 1) ++ (l.take (i + 1)).eraseIdx i) := by
          show _ = _
          have e1 : (l.take i ++ [Value.int .i64 z]).eraseIdx i = l.take i := by
            have := erase_snoc_eq (l := l.take i) (x := Value.int .i64 z); rwa [hln] at this
          rw [hx3, e1, List.eraseIdx_of_length_le (by omega)]
        have hii : ¬ i < i := Nat.lt_irrefl _
        clear HX hx1 hx2 hx3
        rw [if_neg hii]
        go_wp2_with fail
        refine (take_int wr b c cap _ _ HX2.out).mono ?_
        rintro e w2 ⟨rfl, hx, hg, hs2⟩
        have HX4 := Lib.hid hx
        have HG4 := Lib.hid (HG.out.trans hg)
        clear hx hg
        go_wp2_with fail
        go_roundw
        case rel => exact ⟨i + 1, by omega, by go_num, by rw [if_pos (Nat.lt_succ_self i)], by rw [← HX3.out]; exact HX4.out, HG4.out, by omega⟩
        case measure => simp [intOf]; omega
      · have hne : ((i : Int) = k) = False := by simp; omega
        have HX3 : Hid (l.drop (i + 1) ++ (l.take i).eraseIdx k ++ [x] = l.drop (i + 1) ++ (l.take (i + 1)).eraseIdx k) := by
          show _ = _
          rw [hx3, List.append_assoc]
          by_cases h2 : k < i
          · rw [erase_snoc_lt (by omega)]
          · rw [List.eraseIdx_of_length_le (by omega), List.eraseIdx_of_length_le (by simp; omega)]
        have hout : (if k < i then z else 0) = if k < i + 1 then z else 0 := by
          by_cases h2 : k < i
          · rw [if_pos h2, if_pos (by omega)]
          · rw [if_neg h2, if_neg (by omega)]
        have hlen : (l.drop (i + 1) ++ (l.take i).eraseIdx k).length < cap := by
          rw [List.length_append, List.length_drop, List.length_eraseIdx]; split <;> omega
        clear HX hx1 hx2 hx3
        generalize (if k < i then z else 0) = out at *
        have HOUT := Lib.hid hout
        clear hout
        go_wp2_with fail
        refine (take_int wr b c cap _ _ HX2.out).mono ?_
        rintro e w2 ⟨rfl, hx, hg, hs2⟩
        have HX4 := Lib.hid hx
        have HG4 := Lib.hid (HG.out.trans hg)
        clear hx hg
        go_wp2_with fail
        refine (put_int w2 b c cap _ x HX4.out).mono ?_
        rw [if_pos hlen]
        rintro e w4 ⟨rfl, hx, hg, hs4⟩
        have HX6 := Lib.hid hx
        have HG6 := Lib.hid (HG4.out.trans hg)
        clear hx hg
        go_wp2_with fail
        go_roundw
        case rel => exact ⟨i + 1, by omega, by go_num, by rw [HOUT.out], by rw [← HX3.out]; exact HX6.out, HG6.out, by omega⟩
        case measure => simp [intOf]; omega
    · obtain rfl : i = n := by omega
      have ht : l.take i = l := List.take_of_length_le (by omega)
      have hd : l.drop i = [] := List.drop_eq_nil_of_le (by omega)
      have HX2 : Hid (IsBox wr b c cap (l.eraseIdx k)) := by have := HX.out; rwa [ht, hd] at this
      clear ht hd HX
      rw [if_pos hk]
      go_wp2_with fail
      go_ret2
      exact ⟨rfl, HX2.out, HG.out, hs⟩

set_option maxHeartbeats 1000000 in
/-- Two slices with the same numbers are equal. -/
theorem equal_int (w : World) (A : Option Addr) (n c : Nat) (A' : Option Addr) (c' : Nat) (xs : List Int) (h : IsSl w 1 A n c (nums xs)) (h' : IsSl w 1 A' n c' (nums xs)) :
    Calls Try.prog 24 #[.slice A n c, .slice A' n c'] w fun e w' => e = .returned (.bool true) ∧ Below w.heap.size w w' ∧ w'.heap = w.heap := by
  have hl : xs.length = n := by have := h.1; rw [nums_length] at this; omega
  have hc := h.2.1
  have hcm := h.2.2.1
  have hc' := h'.2.1
  have hcm' := h'.2.2.1
  unfold maxLen at hcm hcm'
  have H := Lib.hid h
  have H' := Lib.hid h'
  clear h h'
  go_enter Try.func24, Try.ntmps24
  go_wp2_with fail
  go_loopw [13] (fun ix wr => ∃ i : Nat, i ≤ n ∧ ix = .int .i64 i ∧ Below w.heap.size w wr ∧ wr.heap = w.heap) (fun ix _ => n - (intOf ix).toNat)
  case atStart => exact ⟨0, Nat.zero_le _, rfl, Below.refl _ _, rfl⟩
  case round =>
    obtain ⟨i, hi, rfl, hb, hh⟩ := hrel
    have HB := Lib.hid hb
    have HH := Lib.hid hh
    have H1 := Lib.hid (H.out.below hb)
    have H1' := Lib.hid (H'.out.below hb)
    clear hb hh
    by_cases hlt : i < n
    · obtain ⟨ad, rfl, hcell⟩ := H1.out.at_ hlt
      obtain ⟨ad', rfl, hcell'⟩ := H1'.out.at_ hlt
      obtain ⟨x, hx⟩ : ∃ x, (nums xs).getD i undef = .int .i64 x := ⟨xs[i]'(by omega), by simp [nums, List.getD_eq_getElem?_getD, List.getElem?_eq_getElem (show i < xs.length by omega)]⟩
      rw [hx] at hcell hcell'
      clear hx
      go_wp2_with fail
      go_region
      go_wp2_with fail
      exact ⟨⟨i + 1, by omega, by go_num, HB.out.trans ⟨rfl, rfl, rfl, Nat.le_refl _, fun _ _ => rfl⟩, HH.out⟩, by simp [intOf]; omega⟩
    · go_wp2_with fail
      go_ret
      exact ⟨rfl, HB.out, HH.out⟩

theorem nums_one (xs : List Int) : ∀ u ∈ nums xs, u.oneCell' = true := by
  intro u hu
  obtain ⟨_, _, rfl⟩ := List.mem_map.1 hu
  rfl
set_option maxHeartbeats 1000000 in
/-- A copy, in a row of the call's own, apart from all that was. -/
theorem clone_int (w : World) (ad : Addr) (n c : Nat) (xs : List Int) (hx : IsSl w 1 (some ad) n c (nums xs)) (hn : n ≤ 1000) :
    Calls Try.prog 23 #[.slice (some ad) n c] w fun e w' => ∃ v, e = .returned v ∧ w'.ownsRow w.heap.size 3 1 v n (nums xs) ∧ Below w.heap.size w w' := by
  have HX := Lib.hid hx
  clear hx
  have he := @Lib.run_eql_slice_nil Try.prog
  go_enter Try.func23, Try.ntmps23
  go_wp2_with (at_builtin; refine wpList_app_own _ rfl (.tmp 5) (.tmp 6) 43 rfl w.heap.size 3 (.int .i64 0) 1 8 Try.underlying43 inf_int rfl (by decide) _ 0 [] rfl (own_lit w #[] 3 w.heap.size 0 rfl (Nat.le_refl _) (by decide)) _ n c _ rfl (HX.out.alloc _) (nums_one _) (by unfold maxLen; omega) (by omega) (by simp) ?_)
  intro v1 w1 ho1 hg1 hb1
  have HO1 := Lib.hid ho1
  clear ho1 hg1
  go_wp2_with fail
  go_ret
  exact ⟨_, rfl, by simpa using HO1.out, ((Below.refl _ _).alloc (Nat.le_refl _) _).trans hb1⟩
end Box
end Go.Proofs.Ytdmpgoaemoiogaa
