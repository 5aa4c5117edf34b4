/- The walks of a box: New, made, Len, Room; and Put and Take said of a box. Written by boxw2.py. -/
import Derived.Test.YtdmpgoaemoiogaaBoxW1
import Derived.Test.YtdmpgoaemoiogaaSl
import Derived.Conc.LoneSelectN
set_option linter.unusedVariables false
set_option linter.unusedSimpArgs false
set_option maxRecDepth 100000
namespace Go.Proofs.Ytdmpgoaemoiogaa
open Go.RowKit
namespace Box

/-- A box: its block, its channel's block, its room, what is in. -/
def IsBox (w : World) (b c cap : Nat) (l : List Value) : Prop :=
  ∃ t s r, w.heap[b]? = some (.cells #[.chan (some c)] t (0, 0)) ∧ w.heap[c]? = some (.chan cap l.toArray false s r false) ∧ l.length ≤ cap ∧ cap ≤ 4096
theorem IsBox.lt {w : World} {b c cap : Nat} {l : List Value} (h : IsBox w b c cap l) : b < w.heap.size ∧ c < w.heap.size ∧ b ≠ c := by
  obtain ⟨t, s, r, hb, hc, _⟩ := h
  refine ⟨(Array.getElem?_eq_some_iff.1 hb).1, (Array.getElem?_eq_some_iff.1 hc).1, ?_⟩
  rintro rfl
  rw [hb] at hc; cases hc
theorem IsBox.room {w : World} {b c cap : Nat} {l : List Value} (h : IsBox w b c cap l) : l.length ≤ cap ∧ cap ≤ 4096 := by
  obtain ⟨t, s, r, hb, hc, h⟩ := h; exact h
theorem IsBox.keep {w w' : World} {b c cap : Nat} {l : List Value} {row : Option Nat} (h : IsBox w b c cap l) (hg : w.grownBy w' row) (hb : some b ≠ row) (hc : some c ≠ row) : IsBox w' b c cap l := by
  have hl := h.lt
  obtain ⟨t, s, r, h1, h2, h3⟩ := h
  exact ⟨t, s, r, by rw [hg.block b hl.1 hb]; exact h1, by rw [hg.block c hl.2.1 hc]; exact h2, h3⟩
theorem heap_chan (w : World) (o p : Obj) : ((w.alloc o).alloc p).heap[w.heap.size]? = some o := by
  rw [((Below.refl _ (w.alloc o)).alloc (Nat.le_refl _) p).block w.heap.size (by simp)]; exact heap_alloc_new _ _
theorem heap_box (w : World) (o p : Obj) : ((w.alloc o).alloc p).heap[w.heap.size + 1]? = some p := by
  have h := heap_alloc_new (w.alloc o) p
  rwa [show (w.alloc o).heap.size = w.heap.size + 1 by simp] at h
theorem grown_set {w : World} {c : Nat} (h : c < w.heap.size) (cap : Nat) (buf : Array Value) (cl : Bool) (s r : Nat) (tm : Bool) : w.grownBy (w.setChan c cap buf cl s r tm) (some c) :=
  ⟨rfl, rfl, rfl, by simp [World.setChan], fun k hk hne => by simp only [World.setChan]; rw [Array.getElem?_setIfInBounds_ne (fun e => hne (by rw [e]))]⟩
theorem IsBox.set {w : World} {b c cap : Nat} {l l' : List Value} (h : IsBox w b c cap l) (s r : Nat) (hl : l'.length ≤ cap) : IsBox (w.setChan c cap l'.toArray false s r false) b c cap l' := by
  have hlt := h.lt
  obtain ⟨t, s', r', h1, h2, h3⟩ := h
  exact ⟨t, s, r, by simp only [World.setChan]; rw [Array.getElem?_setIfInBounds_ne (fun e => hlt.2.2 e.symm)]; exact h1, Conc.heap_setChan _ _ _ _ _ _ _ _ hlt.2.1, hl, h3.2⟩

theorem neq_int (c : Nat) (W : World) : (binOp BinOp.neq 35 (.chan (some c)) (.chan none)).run Try.prog W = .ok (.bool true) W := by kernel_rfl
theorem eq_int (W : World) : (binOp BinOp.neq 35 (.chan none) (.chan none)).run Try.prog W = .ok (.bool false) W := by kernel_rfl
theorem info_int : ∃ i, Try.prog.info? 3 = some i ∧ i.bytes ≤ 16 := by
  have h : (Try.prog.info? 3).map (fun i => decide (i.bytes ≤ 16)) = some true := by kernel_rfl
  obtain ⟨i, hi, hb⟩ := Option.map_eq_some_iff.1 h
  exact ⟨i, hi, of_decide_eq_true hb⟩
set_option maxHeartbeats 400000 in
theorem made_int (w : World) (b c cap : Nat) (l : List Value) (h : IsBox w b c cap l) :
    Calls Try.prog 44 #[.pointer (some ⟨b, 0, none⟩)] w fun e w' => e = .returned (.bool true) ∧ w' = w := by
  obtain ⟨t, s, r, hb, hc, hl, hm⟩ := h
  have hcell : w.cell? ⟨b, 0, none⟩ = some (.chan (some c)) := by simp [World.cell?, hb]
  have hne := neq_int c
  clear hb hc
  go_enter Try.func44, Try.ntmps44
  go_wp2_with fail
  go_ret
  exact ⟨rfl, rfl⟩
/-- No call made it: nil. -/
theorem made_nil_int (w : World) :
    Calls Try.prog 44 #[.pointer none] w fun e w' => e = .returned (.bool false) ∧ w' = w := by
  go_enter Try.func44, Try.ntmps44
  go_wp2_with fail
  go_ret
  exact ⟨rfl, rfl⟩
/-- No call made it: the zero box. -/
theorem made_zero_int (w : World) (b : Nat) (hcell : w.cell? ⟨b, 0, none⟩ = some (.chan none)) :
    Calls Try.prog 44 #[.pointer (some ⟨b, 0, none⟩)] w fun e w' => e = .returned (.bool false) ∧ w' = w := by
  have hne := eq_int
  go_enter Try.func44, Try.ntmps44
  go_wp2_with fail
  go_ret
  exact ⟨rfl, rfl⟩

set_option maxHeartbeats 400000 in
theorem len_int (w : World) (b c cap : Nat) (l : List Value) (h : IsBox w b c cap l) :
    Calls Try.prog 19 #[.pointer (some ⟨b, 0, none⟩)] w fun e w' => e = .returned (.int .i64 l.length) ∧ w' = w := by
  have HB := Lib.hid h
  obtain ⟨t, s, r, hb, hc, hl, hm⟩ := h
  have hcell : w.cell? ⟨b, 0, none⟩ = some (.chan (some c)) := by simp [World.cell?, hb]
  have hlen := Conc.run_len_chan 35 3 Try.underlying35 hc
  clear hb hc
  go_enter Try.func19, Try.ntmps19
  go_wp2_with fail
  refine (made_int _ b c cap l HB.out).mono ?_
  rintro e w1 ⟨rfl, rfl⟩
  go_wp2_with fail
  go_ret
  exact ⟨ret_int (by simp), rfl⟩
set_option maxHeartbeats 400000 in
theorem room_int (w : World) (b c cap : Nat) (l : List Value) (h : IsBox w b c cap l) :
    Calls Try.prog 15 #[.pointer (some ⟨b, 0, none⟩)] w fun e w' => e = .returned (.int .i64 ((cap : Int) - l.length)) ∧ Below w.heap.size w w' ∧ w'.heap = w.heap := by
  have HB := Lib.hid h
  obtain ⟨t, s, r, hb, hc, hl, hm⟩ := h
  have hcell : w.cell? ⟨b, 0, none⟩ = some (.chan (some c)) := by simp [World.cell?, hb]
  have hlen := Conc.run_len_chan (w := w.drew) 35 3 Try.underlying35 hc
  have hcap := Conc.run_cap_chan (w := w.drew) 35 3 Try.underlying35 hc
  clear hb hc
  go_enter Try.func15, Try.ntmps15
  go_wp2_with fail
  refine (made_int _ b c cap l HB.out).mono ?_
  rintro e w1 ⟨rfl, rfl⟩
  go_wp2_with fail
  go_region
  go_wp2_with fail
  go_ret
  exact ⟨ret_int (by simp [List.size_toArray]), ⟨rfl, rfl, rfl, Nat.le_refl _, fun _ _ => rfl⟩, rfl⟩
set_option maxHeartbeats 400000 in
theorem put_int (w : World) (b c cap : Nat) (l : List Value) (x : Value) (h : IsBox w b c cap l) :
    Calls Try.prog 18 #[.pointer (some ⟨b, 0, none⟩), x] w fun e w' => e = .returned (.bool (decide (l.length < cap))) ∧ IsBox w' b c cap (if l.length < cap then l ++ [x] else l) ∧ w.grownBy w' (some c) ∧ w'.heap.size = w.heap.size := by
  have hlt := h.lt
  have h0 := h
  obtain ⟨t, s, r, hb, hc, hl, hm⟩ := h
  by_cases hr : l.length < cap
  · refine (putRoom_int w b c cap l.toArray s r x t hb hc (by simpa using hr)).mono ?_
    rintro e w' ⟨rfl, rfl⟩
    refine ⟨ret_bool (by simp [hr]), ?_, grown_set hlt.2.1 _ _ _ _ _ _, Conc.size_setChan _ _ _ _ _ _ _ _⟩
    rw [if_pos hr, List.push_toArray]
    exact h0.set _ _ (by simp; omega)
  · refine (putFull_int w b c cap l.toArray s r x t hb hc (by simp; omega)).mono ?_
    rintro e w' ⟨rfl, rfl⟩
    refine ⟨ret_bool (by simp [hr]), ?_, World.grownBy.refl _ _, rfl⟩
    rw [if_neg hr]
    exact h0
set_option maxHeartbeats 400000 in
theorem take_int (w : World) (b c cap : Nat) (x : Value) (l : List Value) (h : IsBox w b c cap (x :: l)) :
    Calls Try.prog 16 #[.pointer (some ⟨b, 0, none⟩)] w fun e w' => e = .returned (.tuple #[x, .bool true]) ∧ IsBox w' b c cap l ∧ w.grownBy w' (some c) ∧ w'.heap.size = w.heap.size := by
  have hlt := h.lt
  have h0 := h
  obtain ⟨t, s, r, hb, hc, hl, hm⟩ := h
  refine (takeSome_int w b c cap (x :: l).toArray s r x t hb hc (by simp) (by simp)).mono ?_
  rintro e w' ⟨rfl, rfl⟩
  refine ⟨rfl, ?_, grown_set hlt.2.1 _ _ _ _ _ _, Conc.size_setChan _ _ _ _ _ _ _ _⟩
  have e : (x :: l).toArray.extract 1 (x :: l).toArray.size = l.toArray := by simp
  rw [e]
  exact h0.set _ _ (by simp at hl; omega)
theorem takeNo_int (w : World) (b c cap : Nat) (h : IsBox w b c cap []) :
    Calls Try.prog 16 #[.pointer (some ⟨b, 0, none⟩)] w fun e w' => e = .returned (.tuple #[.int .i64 0, .bool false]) ∧ w' = w := by
  obtain ⟨t, s, r, hb, hc, hl, hm⟩ := h
  exact takeNone_int w b c cap _ s r t hb hc rfl
set_option maxHeartbeats 400000 in
theorem new_int (w : World) (room : Int) (hr : -9223372036854775808 ≤ room ∧ room ≤ 9223372036854775807) :
    Calls Try.prog 14 #[.int .i64 room] w fun e w' => ∃ b c, e = .returned (.pointer (some ⟨b, 0, none⟩)) ∧ IsBox w' b c (min (max room 0) 4096).toNat [] ∧ Below w.heap.size w w' ∧ w.heap.size ≤ b ∧ w.heap.size ≤ c := by
  obtain ⟨i, hi, hb⟩ := info_int
  have hk : ∀ (n : Nat), n ≤ 4096 → ∀ W : World, (Instr.makeChan 35 (.int .i64 n)).run Try.prog W = .ok (.chan (some W.heap.size)) (W.alloc (.chan n #[] false 0 0 false)) := fun n hn W => by
    have h1 : i.bytes * n ≤ 16 * 4096 := Nat.mul_le_mul hb hn
    have h2 : (i.bytes : Int) * n ≤ 16 * 4096 := by exact_mod_cast h1
    exact Conc.run_makeChan Try.underlying35 hi .i64 n (by omega) (by omega)
  refine (show Calls Try.prog 14 #[.int .i64 room] w fun e w' => e = .returned (.pointer (some ⟨w.heap.size + 1, 0, none⟩)) ∧
    w' = (w.alloc (.chan (min (max room 0) 4096).toNat #[] false 0 0 false)).alloc (.cells #[.chan (some w.heap.size)] 37 (0, 0)) from ?_).mono fun e w' ⟨h1, h2⟩ => by
      subst h1 h2
      exact ⟨_, w.heap.size, rfl, ⟨_, 0, 0, heap_box _ _ _, heap_chan _ _ _, by simp, by omega⟩, ((Below.refl _ _).alloc (Nat.le_refl _) _).alloc (by simp) _, by omega, Nat.le_refl _⟩
  by_cases h1 : room < 0
  · have e : (min (max room 0) 4096).toNat = 0 := by omega
    rw [e]
    have hmk : ∀ W : World, (Instr.makeChan 35 (.int .i64 0)).run Try.prog W = .ok (.chan (some W.heap.size)) (W.alloc (.chan 0 #[] false 0 0 false)) := hk 0 (by decide)
    clear hk
    go_enter Try.func14, Try.ntmps14
    go_wp2_with fail
    go_ret
    exact ⟨rfl, rfl⟩
  · by_cases h2 : 4096 < room
    · have e : (min (max room 0) 4096).toNat = 4096 := by omega
      rw [e]
      have hmk : ∀ W : World, (Instr.makeChan 35 (.int .i64 4096)).run Try.prog W = .ok (.chan (some W.heap.size)) (W.alloc (.chan 4096 #[] false 0 0 false)) := hk 4096 (by decide)
      clear hk
      go_enter Try.func14, Try.ntmps14
      go_wp2_with fail
      go_ret
      exact ⟨rfl, rfl⟩
    · obtain ⟨n, rfl⟩ := Int.eq_ofNat_of_zero_le (show 0 ≤ room by omega)
      have e : (min (max (n : Int) 0) 4096).toNat = n := by omega
      rw [e]
      have hmk : ∀ W : World, (Instr.makeChan 35 (.int .i64 n)).run Try.prog W = .ok (.chan (some W.heap.size)) (W.alloc (.chan n #[] false 0 0 false)) := hk n (by omega)
      clear hk
      go_enter Try.func14, Try.ntmps14
      go_wp2_with fail
      go_ret
      exact ⟨rfl, rfl⟩

theorem neq_str (c : Nat) (W : World) : (binOp BinOp.neq 107 (.chan (some c)) (.chan none)).run Try.prog W = .ok (.bool true) W := by kernel_rfl
theorem eq_str (W : World) : (binOp BinOp.neq 107 (.chan none) (.chan none)).run Try.prog W = .ok (.bool false) W := by kernel_rfl
theorem info_str : ∃ i, Try.prog.info? 9 = some i ∧ i.bytes ≤ 16 := by
  have h : (Try.prog.info? 9).map (fun i => decide (i.bytes ≤ 16)) = some true := by kernel_rfl
  obtain ⟨i, hi, hb⟩ := Option.map_eq_some_iff.1 h
  exact ⟨i, hi, of_decide_eq_true hb⟩
set_option maxHeartbeats 400000 in
theorem made_str (w : World) (b c cap : Nat) (l : List Value) (h : IsBox w b c cap l) :
    Calls Try.prog 62 #[.pointer (some ⟨b, 0, none⟩)] w fun e w' => e = .returned (.bool true) ∧ w' = w := by
  obtain ⟨t, s, r, hb, hc, hl, hm⟩ := h
  have hcell : w.cell? ⟨b, 0, none⟩ = some (.chan (some c)) := by simp [World.cell?, hb]
  have hne := neq_str c
  clear hb hc
  go_enter Try.func62, Try.ntmps62
  go_wp2_with fail
  go_ret
  exact ⟨rfl, rfl⟩
/-- No call made it: nil. -/
theorem made_nil_str (w : World) :
    Calls Try.prog 62 #[.pointer none] w fun e w' => e = .returned (.bool false) ∧ w' = w := by
  go_enter Try.func62, Try.ntmps62
  go_wp2_with fail
  go_ret
  exact ⟨rfl, rfl⟩
/-- No call made it: the zero box. -/
theorem made_zero_str (w : World) (b : Nat) (hcell : w.cell? ⟨b, 0, none⟩ = some (.chan none)) :
    Calls Try.prog 62 #[.pointer (some ⟨b, 0, none⟩)] w fun e w' => e = .returned (.bool false) ∧ w' = w := by
  have hne := eq_str
  go_enter Try.func62, Try.ntmps62
  go_wp2_with fail
  go_ret
  exact ⟨rfl, rfl⟩

set_option maxHeartbeats 400000 in
theorem len_str (w : World) (b c cap : Nat) (l : List Value) (h : IsBox w b c cap l) :
    Calls Try.prog 46 #[.pointer (some ⟨b, 0, none⟩)] w fun e w' => e = .returned (.int .i64 l.length) ∧ w' = w := by
  have HB := Lib.hid h
  obtain ⟨t, s, r, hb, hc, hl, hm⟩ := h
  have hcell : w.cell? ⟨b, 0, none⟩ = some (.chan (some c)) := by simp [World.cell?, hb]
  have hlen := Conc.run_len_chan 107 3 Try.underlying107 hc
  clear hb hc
  go_enter Try.func46, Try.ntmps46
  go_wp2_with fail
  refine (made_str _ b c cap l HB.out).mono ?_
  rintro e w1 ⟨rfl, rfl⟩
  go_wp2_with fail
  go_ret
  exact ⟨ret_int (by simp), rfl⟩
set_option maxHeartbeats 400000 in
theorem room_str (w : World) (b c cap : Nat) (l : List Value) (h : IsBox w b c cap l) :
    Calls Try.prog 45 #[.pointer (some ⟨b, 0, none⟩)] w fun e w' => e = .returned (.int .i64 ((cap : Int) - l.length)) ∧ Below w.heap.size w w' ∧ w'.heap = w.heap := by
  have HB := Lib.hid h
  obtain ⟨t, s, r, hb, hc, hl, hm⟩ := h
  have hcell : w.cell? ⟨b, 0, none⟩ = some (.chan (some c)) := by simp [World.cell?, hb]
  have hlen := Conc.run_len_chan (w := w.drew) 107 3 Try.underlying107 hc
  have hcap := Conc.run_cap_chan (w := w.drew) 107 3 Try.underlying107 hc
  clear hb hc
  go_enter Try.func45, Try.ntmps45
  go_wp2_with fail
  refine (made_str _ b c cap l HB.out).mono ?_
  rintro e w1 ⟨rfl, rfl⟩
  go_wp2_with fail
  go_region
  go_wp2_with fail
  go_ret
  exact ⟨ret_int (by simp [List.size_toArray]), ⟨rfl, rfl, rfl, Nat.le_refl _, fun _ _ => rfl⟩, rfl⟩
set_option maxHeartbeats 400000 in
theorem put_str (w : World) (b c cap : Nat) (l : List Value) (x : Value) (h : IsBox w b c cap l) :
    Calls Try.prog 42 #[.pointer (some ⟨b, 0, none⟩), x] w fun e w' => e = .returned (.bool (decide (l.length < cap))) ∧ IsBox w' b c cap (if l.length < cap then l ++ [x] else l) ∧ w.grownBy w' (some c) ∧ w'.heap.size = w.heap.size := by
  have hlt := h.lt
  have h0 := h
  obtain ⟨t, s, r, hb, hc, hl, hm⟩ := h
  by_cases hr : l.length < cap
  · refine (putRoom_str w b c cap l.toArray s r x t hb hc (by simpa using hr)).mono ?_
    rintro e w' ⟨rfl, rfl⟩
    refine ⟨ret_bool (by simp [hr]), ?_, grown_set hlt.2.1 _ _ _ _ _ _, Conc.size_setChan _ _ _ _ _ _ _ _⟩
    rw [if_pos hr, List.push_toArray]
    exact h0.set _ _ (by simp; omega)
  · refine (putFull_str w b c cap l.toArray s r x t hb hc (by simp; omega)).mono ?_
    rintro e w' ⟨rfl, rfl⟩
    refine ⟨ret_bool (by simp [hr]), ?_, World.grownBy.refl _ _, rfl⟩
    rw [if_neg hr]
    exact h0
set_option maxHeartbeats 400000 in
theorem take_str (w : World) (b c cap : Nat) (x : Value) (l : List Value) (h : IsBox w b c cap (x :: l)) :
    Calls Try.prog 43 #[.pointer (some ⟨b, 0, none⟩)] w fun e w' => e = .returned (.tuple #[x, .bool true]) ∧ IsBox w' b c cap l ∧ w.grownBy w' (some c) ∧ w'.heap.size = w.heap.size := by
  have hlt := h.lt
  have h0 := h
  obtain ⟨t, s, r, hb, hc, hl, hm⟩ := h
  refine (takeSome_str w b c cap (x :: l).toArray s r x t hb hc (by simp) (by simp)).mono ?_
  rintro e w' ⟨rfl, rfl⟩
  refine ⟨rfl, ?_, grown_set hlt.2.1 _ _ _ _ _ _, Conc.size_setChan _ _ _ _ _ _ _ _⟩
  have e : (x :: l).toArray.extract 1 (x :: l).toArray.size = l.toArray := by simp
  rw [e]
  exact h0.set _ _ (by simp at hl; omega)
theorem takeNo_str (w : World) (b c cap : Nat) (h : IsBox w b c cap []) :
    Calls Try.prog 43 #[.pointer (some ⟨b, 0, none⟩)] w fun e w' => e = .returned (.tuple #[.string { data := #[] }, .bool false]) ∧ w' = w := by
  obtain ⟨t, s, r, hb, hc, hl, hm⟩ := h
  exact takeNone_str w b c cap _ s r t hb hc rfl
set_option maxHeartbeats 400000 in
theorem new_str (w : World) (room : Int) (hr : -9223372036854775808 ≤ room ∧ room ≤ 9223372036854775807) :
    Calls Try.prog 41 #[.int .i64 room] w fun e w' => ∃ b c, e = .returned (.pointer (some ⟨b, 0, none⟩)) ∧ IsBox w' b c (min (max room 0) 4096).toNat [] ∧ Below w.heap.size w w' ∧ w.heap.size ≤ b ∧ w.heap.size ≤ c := by
  obtain ⟨i, hi, hb⟩ := info_str
  have hk : ∀ (n : Nat), n ≤ 4096 → ∀ W : World, (Instr.makeChan 107 (.int .i64 n)).run Try.prog W = .ok (.chan (some W.heap.size)) (W.alloc (.chan n #[] false 0 0 false)) := fun n hn W => by
    have h1 : i.bytes * n ≤ 16 * 4096 := Nat.mul_le_mul hb hn
    have h2 : (i.bytes : Int) * n ≤ 16 * 4096 := by exact_mod_cast h1
    exact Conc.run_makeChan Try.underlying107 hi .i64 n (by omega) (by omega)
  refine (show Calls Try.prog 41 #[.int .i64 room] w fun e w' => e = .returned (.pointer (some ⟨w.heap.size + 1, 0, none⟩)) ∧
    w' = (w.alloc (.chan (min (max room 0) 4096).toNat #[] false 0 0 false)).alloc (.cells #[.chan (some w.heap.size)] 109 (0, 0)) from ?_).mono fun e w' ⟨h1, h2⟩ => by
      subst h1 h2
      exact ⟨_, w.heap.size, rfl, ⟨_, 0, 0, heap_box _ _ _, heap_chan _ _ _, by simp, by omega⟩, ((Below.refl _ _).alloc (Nat.le_refl _) _).alloc (by simp) _, by omega, Nat.le_refl _⟩
  by_cases h1 : room < 0
  · have e : (min (max room 0) 4096).toNat = 0 := by omega
    rw [e]
    have hmk : ∀ W : World, (Instr.makeChan 107 (.int .i64 0)).run Try.prog W = .ok (.chan (some W.heap.size)) (W.alloc (.chan 0 #[] false 0 0 false)) := hk 0 (by decide)
    clear hk
    go_enter Try.func41, Try.ntmps41
    go_wp2_with fail
    go_ret
    exact ⟨rfl, rfl⟩
  · by_cases h2 : 4096 < room
    · have e : (min (max room 0) 4096).toNat = 4096 := by omega
      rw [e]
      have hmk : ∀ W : World, (Instr.makeChan 107 (.int .i64 4096)).run Try.prog W = .ok (.chan (some W.heap.size)) (W.alloc (.chan 4096 #[] false 0 0 false)) := hk 4096 (by decide)
      clear hk
      go_enter Try.func41, Try.ntmps41
      go_wp2_with fail
      go_ret
      exact ⟨rfl, rfl⟩
    · obtain ⟨n, rfl⟩ := Int.eq_ofNat_of_zero_le (show 0 ≤ room by omega)
      have e : (min (max (n : Int) 0) 4096).toNat = n := by omega
      rw [e]
      have hmk : ∀ W : World, (Instr.makeChan 107 (.int .i64 n)).run Try.prog W = .ok (.chan (some W.heap.size)) (W.alloc (.chan n #[] false 0 0 false)) := hk n (by omega)
      clear hk
      go_enter Try.func41, Try.ntmps41
      go_wp2_with fail
      go_ret
      exact ⟨rfl, rfl⟩

end Box
end Go.Proofs.Ytdmpgoaemoiogaa
