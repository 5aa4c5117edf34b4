/- The walks: made, New, Len of a box of parcels; Put and Take said of a box. Written by boxp2.py. -/
import Derived.Test.YtdmpgoaemoiogaaBoxP1
set_option linter.unusedVariables false
set_option linter.unusedSimpArgs false
set_option maxRecDepth 100000
namespace Go.Proofs.Ytdmpgoaemoiogaa
open Go.RowKit
namespace Box
theorem neq_par (c : Nat) (W : World) : (binOp BinOp.neq 113 (.chan (some c)) (.chan none)).run Try.prog W = .ok (.bool true) W := by kernel_rfl
theorem eq_par (W : World) : (binOp BinOp.neq 113 (.chan none) (.chan none)).run Try.prog W = .ok (.bool false) W := by kernel_rfl
theorem info_par : ∃ i, Try.prog.info? 97 = some i ∧ i.bytes ≤ 32 := by
  have h : (Try.prog.info? 97).map (fun i => decide (i.bytes ≤ 32)) = some true := by kernel_rfl
  obtain ⟨i, hi, hb⟩ := Option.map_eq_some_iff.1 h
  exact ⟨i, hi, of_decide_eq_true hb⟩
set_option maxHeartbeats 400000 in
theorem made_par (w : World) (b c cap : Nat) (l : List Value) (h : IsBox w b c cap l) :
    Calls Try.prog 64 #[.pointer (some ⟨b, 0, none⟩)] w fun e w' => e = .returned (.bool true) ∧ w' = w := by
  obtain ⟨t, s, r, hb, hc, hl, hm⟩ := h
  have hcell : w.cell? ⟨b, 0, none⟩ = some (.chan (some c)) := by simp [World.cell?, hb]
  have hne := neq_par c
  clear hb hc
  go_enter Try.func64, Try.ntmps64
  go_wp2_with fail
  go_ret
  exact ⟨rfl, rfl⟩
/-- No call made it: nil. -/
theorem made_nil_par (w : World) :
    Calls Try.prog 64 #[.pointer none] w fun e w' => e = .returned (.bool false) ∧ w' = w := by
  go_enter Try.func64, Try.ntmps64
  go_wp2_with fail
  go_ret
  exact ⟨rfl, rfl⟩
/-- No call made it: the zero box. -/
theorem made_zero_par (w : World) (b : Nat) (hcell : w.cell? ⟨b, 0, none⟩ = some (.chan none)) :
    Calls Try.prog 64 #[.pointer (some ⟨b, 0, none⟩)] w fun e w' => e = .returned (.bool false) ∧ w' = w := by
  have hne := eq_par
  go_enter Try.func64, Try.ntmps64
  go_wp2_with fail
  go_ret
  exact ⟨rfl, rfl⟩

set_option maxHeartbeats 400000 in
theorem len_par (w : World) (b c cap : Nat) (l : List Value) (h : IsBox w b c cap l) :
    Calls Try.prog 50 #[.pointer (some ⟨b, 0, none⟩)] w fun e w' => e = .returned (.int .i64 l.length) ∧ w' = w := by
  have HB := Lib.hid h
  obtain ⟨t, s, r, hb, hc, hl, hm⟩ := h
  have hcell : w.cell? ⟨b, 0, none⟩ = some (.chan (some c)) := by simp [World.cell?, hb]
  have hlen := Conc.run_len_chan 113 3 Try.underlying113 hc
  clear hb hc
  go_enter Try.func50, Try.ntmps50
  go_wp2_with fail
  refine (made_par _ b c cap l HB.out).mono ?_
  rintro e w1 ⟨rfl, rfl⟩
  go_wp2_with fail
  go_ret
  exact ⟨ret_int (by simp), rfl⟩
/-- A parcel: its bytes, which of them is turned, and by what. -/
abbrev Par := ByteArray × Int × Int
def pv (p : Par) : Value := .agg #[.string p.1, .int .i64 p.2.1, .int .u8 p.2.2]
def pvs (l : List Par) : List Value := l.map pv
theorem pvs_length (l : List Par) : (pvs l).length = l.length := by simp [pvs]
theorem pvs_append (l m : List Par) : pvs (l ++ m) = pvs l ++ pvs m := by simp [pvs]
/-- A box of parcels, of the room that a way has. -/
def IsP (w : World) (b c : Nat) (l : List Par) : Prop := IsBox w b c 40 (pvs l)
theorem IsP.keep {w w' : World} {b c : Nat} {l : List Par} {row : Option Nat} (h : IsP w b c l) (hg : w.grownBy w' row) (hb : some b ≠ row) (hc : some c ≠ row) : IsP w' b c l := IsBox.keep h hg hb hc
theorem IsP.room {w : World} {b c : Nat} {l : List Par} (h : IsP w b c l) : l.length ≤ 40 := by have := (IsBox.room h).1; rwa [pvs_length] at this
theorem IsP.lt {w : World} {b c : Nat} {l : List Par} (h : IsP w b c l) : b < w.heap.size ∧ c < w.heap.size ∧ b ≠ c := IsBox.lt h
theorem grown_alloc_set {w : World} {c : Nat} (o : Obj) (h : c < w.heap.size) (cap : Nat) (buf : Array Value) (cl : Bool) (s r : Nat) (tm : Bool) : w.grownBy ((w.alloc o).setChan c cap buf cl s r tm) (some c) :=
  (World.grownBy_alloc w o _).trans (grown_set (by simp; omega) _ _ _ _ _ _)
set_option maxHeartbeats 400000 in
theorem put_par (w : World) (b c : Nat) (l : List Par) (p : Par) (h : IsP w b c l) :
    Calls Try.prog 49 #[.pointer (some ⟨b, 0, none⟩), pv p] w fun e w' => e = .returned (.bool (decide (l.length < 40))) ∧ IsP w' b c (if l.length < 40 then l ++ [p] else l) ∧ w.grownBy w' (some c) := by
  have hlt := h.lt
  have h0 := h
  obtain ⟨t, s, r, hb, hc, hl, hm⟩ := h
  rw [pvs_length] at hl
  by_cases hr : l.length < 40
  · refine (putRoom_par w b c 40 (pvs l).toArray s r p.1 p.2.1 p.2.2 t hb hc (by simpa [pvs_length] using hr)).mono ?_
    rintro e w' ⟨rfl, rfl⟩
    refine ⟨ret_bool (by simp [hr]), ?_, grown_alloc_set _ hlt.2.1 _ _ _ _ _ _⟩
    rw [if_pos hr, List.push_toArray]
    have hk : ∀ o, IsP (w.alloc o) b c l := fun o => h0.keep (World.grownBy_alloc w o none) (by simp) (by simp)
    have := IsBox.set (l' := pvs (l ++ [p])) (hk (.cells #[.string p.1, .int .i64 p.2.1, .int .u8 p.2.2] 97)) (s + 1) r (by simp [pvs_length]; omega)
    rw [pvs_append] at this
    unfold IsP
    rw [pvs_append]
    exact this
  · refine (putFull_par w b c 40 (pvs l).toArray s r p.1 p.2.1 p.2.2 t hb hc (by simp [pvs_length]; omega)).mono ?_
    rintro e w' ⟨rfl, rfl⟩
    refine ⟨ret_bool (by simp [hr]), ?_, World.grownBy_alloc w _ _⟩
    rw [if_neg hr]
    exact h0.keep (World.grownBy_alloc w _ none) (by simp) (by simp)
set_option maxHeartbeats 400000 in
theorem take_par (w : World) (b c : Nat) (p : Par) (l : List Par) (h : IsP w b c (p :: l)) :
    Calls Try.prog 51 #[.pointer (some ⟨b, 0, none⟩)] w fun e w' => e = .returned (.tuple #[pv p, .bool true]) ∧ IsP w' b c l ∧ w.grownBy w' (some c) := by
  have hlt := h.lt
  have h0 := h
  obtain ⟨t, s, r, hb, hc, hl, hm⟩ := h
  rw [pvs_length] at hl
  refine (takeSome_par w b c 40 (pvs (p :: l)).toArray s r p.1 p.2.1 p.2.2 t hb hc (by simp [pvs]) (by simp [pvs, pv])).mono ?_
  rintro e w' ⟨rfl, ⟨s', r', h'⟩, hg⟩
  refine ⟨rfl, ⟨t, s', r', ?_, ?_, ?_, by omega⟩, hg⟩
  · rw [hg.block b hlt.1 (fun e => hlt.2.2 (Option.some.inj e))]; exact hb
  · rw [h']; simp [pvs]; exact List.take_of_length_le (by simp)
  · rw [pvs_length]; simp at hl; omega
theorem ptr_eq_par (b : Nat) : ∀ W : World, (binOp BinOp.eql 93 (.pointer (some ⟨b, 0, none⟩)) (.pointer none)).run Try.prog W = .ok (.bool false) W := fun W => by kernel_rfl

set_option maxHeartbeats 400000 in
theorem new_par (w : World) (room : Int) (hr : -9223372036854775808 ≤ room ∧ room ≤ 9223372036854775807) :
    Calls Try.prog 63 #[.int .i64 room] w fun e w' => ∃ b c, e = .returned (.pointer (some ⟨b, 0, none⟩)) ∧ IsBox w' b c (min (max room 0) 4096).toNat [] ∧ Below w.heap.size w w' ∧ w.heap.size ≤ b ∧ w.heap.size ≤ c := by
  obtain ⟨i, hi, hb⟩ := info_par
  have hk : ∀ (n : Nat), n ≤ 4096 → ∀ W : World, (Instr.makeChan 113 (.int .i64 n)).run Try.prog W = .ok (.chan (some W.heap.size)) (W.alloc (.chan n #[] false 0 0 false)) := fun n hn W => by
    have h1 : i.bytes * n ≤ 32 * 4096 := Nat.mul_le_mul hb hn
    have h2 : (i.bytes : Int) * n ≤ 32 * 4096 := by exact_mod_cast h1
    exact Conc.run_makeChan Try.underlying113 hi .i64 n (by omega) (by omega)
  refine (show Calls Try.prog 63 #[.int .i64 room] w fun e w' => e = .returned (.pointer (some ⟨w.heap.size + 1, 0, none⟩)) ∧
    w' = (w.alloc (.chan (min (max room 0) 4096).toNat #[] false 0 0 false)).alloc (.cells #[.chan (some w.heap.size)] 115 (0, 0)) from ?_).mono fun e w' ⟨h1, h2⟩ => by
      subst h1 h2
      exact ⟨_, w.heap.size, rfl, ⟨_, 0, 0, heap_box _ _ _, heap_chan _ _ _, by simp, by omega⟩, ((Below.refl _ _).alloc (Nat.le_refl _) _).alloc (by simp) _, by omega, Nat.le_refl _⟩
  by_cases h1 : room < 0
  · have e : (min (max room 0) 4096).toNat = 0 := by omega
    rw [e]
    have hmk : ∀ W : World, (Instr.makeChan 113 (.int .i64 0)).run Try.prog W = .ok (.chan (some W.heap.size)) (W.alloc (.chan 0 #[] false 0 0 false)) := hk 0 (by decide)
    clear hk
    go_enter Try.func63, Try.ntmps63
    go_wp2_with fail
    go_ret
    exact ⟨rfl, rfl⟩
  · by_cases h2 : 4096 < room
    · have e : (min (max room 0) 4096).toNat = 4096 := by omega
      rw [e]
      have hmk : ∀ W : World, (Instr.makeChan 113 (.int .i64 4096)).run Try.prog W = .ok (.chan (some W.heap.size)) (W.alloc (.chan 4096 #[] false 0 0 false)) := hk 4096 (by decide)
      clear hk
      go_enter Try.func63, Try.ntmps63
      go_wp2_with fail
      go_ret
      exact ⟨rfl, rfl⟩
    · obtain ⟨n, rfl⟩ := Int.eq_ofNat_of_zero_le (show 0 ≤ room by omega)
      have e : (min (max (n : Int) 0) 4096).toNat = n := by omega
      rw [e]
      have hmk : ∀ W : World, (Instr.makeChan 113 (.int .i64 n)).run Try.prog W = .ok (.chan (some W.heap.size)) (W.alloc (.chan n #[] false 0 0 false)) := hk n (by omega)
      clear hk
      go_enter Try.func63, Try.ntmps63
      go_wp2_with fail
      go_ret
      exact ⟨rfl, rfl⟩

end Box
end Go.Proofs.Ytdmpgoaemoiogaa
