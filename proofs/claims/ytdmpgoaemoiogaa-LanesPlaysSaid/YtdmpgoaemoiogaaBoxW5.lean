/- The walks: what is in a box, in order. Written by boxw5.py. -/
import Derived.Test.YtdmpgoaemoiogaaBoxW3
set_option linter.unusedVariables false
set_option linter.unusedSimpArgs false
set_option maxRecDepth 100000
namespace Go.Proofs.Ytdmpgoaemoiogaa
open Go.RowKit
namespace Box

theorem own_grown {w w' : World} {base : Nat} {e : TypeId} {size n : Nat} {v : Value} {xs : List Value} {row : Option Nat} (h : w.ownsRow base e size v n xs) (hg : w.grownBy w' row) (hne : ∀ g, v.ownBlock = some g → some g ≠ row) : w'.ownsRow base e size v n xs := by
  rcases h with ⟨h0, ⟨h1, h2⟩ | ⟨g, cp, cur, rfl, h3, h4, h5⟩⟩
  · exact ⟨h0, .inl ⟨h1, h2⟩⟩
  · exact ⟨h0, .inr ⟨g, cp, cur, rfl, h3, by rw [hg.block g (Array.getElem?_eq_some_iff.1 h4).1 (hne g rfl)]; exact h4, h5⟩⟩
/-- A box's content, and a row of the call's own, apart from all that was. -/
def Listed (w : World) (e : TypeId) (b c cap : Nat) (l : List Value) (x : Ending) (w' : World) : Prop :=
  ∃ v, x = .returned v ∧ w'.ownsRow w.heap.size e 1 v l.length l ∧ IsBox w' b c cap l ∧ w.grownBy w' (some c)
theorem split_at {α : Type} {l : List α} {i : Nat} (h : i < l.length) : ∃ x, l[i]? = some x ∧ l.drop i = x :: l.drop (i + 1) ∧ l.take (i + 1) = l.take i ++ [x] :=
  ⟨l[i], List.getElem?_eq_getElem h, List.drop_eq_getElem_cons h, by rw [List.take_add_one, List.getElem?_eq_getElem h]; rfl⟩
theorem ptr_inj {b : Nat} : (Value.pointer (some ⟨b, 0, none⟩)) = .pointer (some ⟨b, 0, none⟩) := rfl

theorem inf_int : (Try.prog.info? 3).map (fun i => (i.zero, i.size, i.bytes)) = some (some (.int .i64 0), 1, 8) := by kernel_rfl
set_option maxHeartbeats 1000000 in
theorem list_int (w : World) (b c cap : Nat) (l : List Value) (h : IsBox w b c cap l) (h1 : ∀ u ∈ l, ∃ a, u = .int .i64 a) :
    Calls Try.prog 20 #[.pointer (some ⟨b, 0, none⟩)] w (Listed w 3 b c cap l) := by
  have H := Lib.hid h
  have H1 := Lib.hid h1
  have hlt := h.lt
  have hroom := h.room
  clear h h1
  go_enter Try.func20, Try.ntmps20
  go_wp2_with fail
  refine (len_int w b c cap l H.out).mono ?_
  rintro e w1 ⟨rfl, rfl⟩
  go_wp2_with fail
  generalize hn : l.length = n at *
  go_loopw [3, 8] (fun out ix wr => ∃ i : Nat, i ≤ n ∧ ix = .int .i64 i ∧ wr.ownsRow w1.heap.size 3 1 out i (l.take i) ∧ IsBox wr b c cap (l.drop i ++ l.take i) ∧ w1.grownBy wr (some c)) (fun _ ix _ => n - (intOf ix).toNat)
  case atStart => exact ⟨0, Nat.zero_le _, rfl, World.ownsRow_nil _ _ _ _, by simpa using H.out, World.grownBy.refl _ _⟩
  case round =>
    obtain ⟨i, hi, rfl, ho, hx, hg⟩ := hrel
    obtain ⟨A, ca, rfl, hsl⟩ := own_form ho
    have HO := Lib.hid ho
    have HX := Lib.hid hx
    have HG := Lib.hid hg
    have hgs := hg.size
    clear ho hx hg hsl
    by_cases hl : i < n
    · obtain ⟨x, hx1, hx2, hx3⟩ := split_at (l := l) (i := i) (by omega)
      obtain ⟨a, rfl⟩ := H1.out x (List.mem_of_getElem? hx1)
      have HX2 : Hid (IsBox wr b c cap (.int .i64 a :: (l.drop (i + 1) ++ l.take i))) := by have := HX.out; rwa [hx2] at this
      have HX3 := Lib.hid hx3
      clear HX hx1 hx2 hx3
      go_wp2_with fail
      refine (take_int wr b c cap (.int .i64 a) _ HX2.out).mono ?_
      rintro e w2 ⟨rfl, hx, hg, hs2⟩
      have HX4 := Lib.hid hx
      have HG4 := Lib.hid (HG.out.trans hg)
      have HO4 := Lib.hid (own_grown HO.out hg (fun g hg => by have := (HO.out.lt g hg).1; intro e; simp only [Option.some.injEq] at e; omega))
      have hgs4 := HG4.out.size
      clear hx hg hs2
      go_wp2_with (at_builtin; refine wpList_app_own _ rfl (.tmp 15) (.tmp 17) 43 rfl w1.heap.size 3 (.int .i64 0) 1 8 Try.underlying43 inf_int rfl (by decide) _ i (l.take i) rfl (own_grown HO4.out (World.grownBy_alloc w2 _ none) (by simp)) _ 1 1 _ rfl (sl_lit _ _ _ 1 rfl (by decide)) (by simp [Value.oneCell']) (by unfold maxLen; omega) (by omega) (by simp; omega) ?_)
      intro v' w3 ho3 hg3 _
      have HG3 : Hid (w2.grownBy w3 (Value.slice A i ca).ownBlock) := (World.grownBy_alloc w2 _ _).trans hg3
      have hfar : ∀ g, (Value.slice A i ca).ownBlock = some g → w1.heap.size ≤ g := fun g hg => (HO.out.lt g hg).1
      have HX5 : Hid (IsBox w3 b c cap (l.drop (i + 1) ++ l.take i)) := HX4.out.keep HG3.out (fun e => by have := hfar b e.symm; omega) (fun e => by have := hfar c e.symm; omega)
      have HG5 : Hid (w1.grownBy w3 (some c)) := HG4.out.andThen HG3.out fun j hj => .inl (hfar j hj)
      have HO5 := Lib.hid ho3
      have hgs5 := HG5.out.size
      clear ho3 hg3
      go_wp2_with fail
      refine (put_int w3 b c cap _ (.int .i64 a) HX5.out).mono ?_
      have hlen : (l.drop (i + 1) ++ l.take i).length < cap := by simp; omega
      rw [if_pos hlen]
      rintro e w4 ⟨rfl, hx, hg, hs4⟩
      have HX6 := Lib.hid hx
      have HG6 := Lib.hid (HG5.out.trans hg)
      have HO6 := Lib.hid (own_grown HO5.out hg (fun g hg => by have := (HO5.out.lt g hg).1; intro e; simp only [Option.some.injEq] at e; omega))
      clear hx hg
      go_wp2_with fail
      go_roundw
      case rel =>
        refine ⟨i + 1, by omega, by go_num, ?_, ?_, HG6.out⟩
        · rw [HX3.out]; exact HO6.out
        · rw [HX3.out, ← List.append_assoc]; exact HX6.out
      case measure => simp [intOf]; omega
    · obtain rfl : i = n := by omega
      have ht : l.take i = l := List.take_of_length_le (by omega)
      have hd : l.drop i = [] := List.drop_eq_nil_of_le (by omega)
      have HT := Lib.hid ht
      have HD := Lib.hid hd
      clear ht hd
      go_wp2_with fail
      go_ret
      exact ⟨_, rfl, by have := HO.out; rw [HT.out] at this; rw [hn]; exact this, by have := HX.out; rw [HT.out, HD.out] at this; exact this, HG.out⟩

theorem inf_str : (Try.prog.info? 9).map (fun i => (i.zero, i.size, i.bytes)) = some (some (.string { data := #[] }), 1, 16) := by kernel_rfl
set_option maxHeartbeats 1000000 in
theorem list_str (w : World) (b c cap : Nat) (l : List Value) (h : IsBox w b c cap l) (h1 : ∀ u ∈ l, ∃ a, u = .string a) :
    Calls Try.prog 27 #[.pointer (some ⟨b, 0, none⟩)] w (Listed w 9 b c cap l) := by
  have H := Lib.hid h
  have H1 := Lib.hid h1
  have hlt := h.lt
  have hroom := h.room
  clear h h1
  go_enter Try.func27, Try.ntmps27
  go_wp2_with fail
  refine (len_str w b c cap l H.out).mono ?_
  rintro e w1 ⟨rfl, rfl⟩
  go_wp2_with fail
  generalize hn : l.length = n at *
  go_loopw [3, 8] (fun out ix wr => ∃ i : Nat, i ≤ n ∧ ix = .int .i64 i ∧ wr.ownsRow w1.heap.size 9 1 out i (l.take i) ∧ IsBox wr b c cap (l.drop i ++ l.take i) ∧ w1.grownBy wr (some c)) (fun _ ix _ => n - (intOf ix).toNat)
  case atStart => exact ⟨0, Nat.zero_le _, rfl, World.ownsRow_nil _ _ _ _, by simpa using H.out, World.grownBy.refl _ _⟩
  case round =>
    obtain ⟨i, hi, rfl, ho, hx, hg⟩ := hrel
    obtain ⟨A, ca, rfl, hsl⟩ := own_form ho
    have HO := Lib.hid ho
    have HX := Lib.hid hx
    have HG := Lib.hid hg
    have hgs := hg.size
    clear ho hx hg hsl
    by_cases hl : i < n
    · obtain ⟨x, hx1, hx2, hx3⟩ := split_at (l := l) (i := i) (by omega)
      obtain ⟨a, rfl⟩ := H1.out x (List.mem_of_getElem? hx1)
      have HX2 : Hid (IsBox wr b c cap (.string a :: (l.drop (i + 1) ++ l.take i))) := by have := HX.out; rwa [hx2] at this
      have HX3 := Lib.hid hx3
      clear HX hx1 hx2 hx3
      go_wp2_with fail
      refine (take_str wr b c cap (.string a) _ HX2.out).mono ?_
      rintro e w2 ⟨rfl, hx, hg, hs2⟩
      have HX4 := Lib.hid hx
      have HG4 := Lib.hid (HG.out.trans hg)
      have HO4 := Lib.hid (own_grown HO.out hg (fun g hg => by have := (HO.out.lt g hg).1; intro e; simp only [Option.some.injEq] at e; omega))
      have hgs4 := HG4.out.size
      clear hx hg hs2
      go_wp2_with (at_builtin; refine wpList_app_own _ rfl (.tmp 15) (.tmp 17) 24 rfl w1.heap.size 9 (.string { data := #[] }) 1 16 Try.underlying24 inf_str rfl (by decide) _ i (l.take i) rfl (own_grown HO4.out (World.grownBy_alloc w2 _ none) (by simp)) _ 1 1 _ rfl (sl_lit _ _ _ 1 rfl (by decide)) (by simp [Value.oneCell']) (by unfold maxLen; omega) (by omega) (by simp; omega) ?_)
      intro v' w3 ho3 hg3 _
      have HG3 : Hid (w2.grownBy w3 (Value.slice A i ca).ownBlock) := (World.grownBy_alloc w2 _ _).trans hg3
      have hfar : ∀ g, (Value.slice A i ca).ownBlock = some g → w1.heap.size ≤ g := fun g hg => (HO.out.lt g hg).1
      have HX5 : Hid (IsBox w3 b c cap (l.drop (i + 1) ++ l.take i)) := HX4.out.keep HG3.out (fun e => by have := hfar b e.symm; omega) (fun e => by have := hfar c e.symm; omega)
      have HG5 : Hid (w1.grownBy w3 (some c)) := HG4.out.andThen HG3.out fun j hj => .inl (hfar j hj)
      have HO5 := Lib.hid ho3
      have hgs5 := HG5.out.size
      clear ho3 hg3
      go_wp2_with fail
      refine (put_str w3 b c cap _ (.string a) HX5.out).mono ?_
      have hlen : (l.drop (i + 1) ++ l.take i).length < cap := by simp; omega
      rw [if_pos hlen]
      rintro e w4 ⟨rfl, hx, hg, hs4⟩
      have HX6 := Lib.hid hx
      have HG6 := Lib.hid (HG5.out.trans hg)
      have HO6 := Lib.hid (own_grown HO5.out hg (fun g hg => by have := (HO5.out.lt g hg).1; intro e; simp only [Option.some.injEq] at e; omega))
      clear hx hg
      go_wp2_with fail
      go_roundw
      case rel =>
        refine ⟨i + 1, by omega, by go_num, ?_, ?_, HG6.out⟩
        · rw [HX3.out]; exact HO6.out
        · rw [HX3.out, ← List.append_assoc]; exact HX6.out
      case measure => simp [intOf]; omega
    · obtain rfl : i = n := by omega
      have ht : l.take i = l := List.take_of_length_le (by omega)
      have hd : l.drop i = [] := List.drop_eq_nil_of_le (by omega)
      have HT := Lib.hid ht
      have HD := Lib.hid hd
      clear ht hd
      go_wp2_with fail
      go_ret
      exact ⟨_, rfl, by have := HO.out; rw [HT.out] at this; rw [hn]; exact this, by have := HX.out; rw [HT.out, HD.out] at this; exact this, HG.out⟩

end Box
end Go.Proofs.Ytdmpgoaemoiogaa
