/- Export: documents in memory; the heads of lines; Begins, Head; a prefix, a suffix cut off. -/
import Derived.Test.YtfohollhdaedlaaDoorExp5
set_option linter.unusedVariables false
set_option linter.unusedSimpArgs false
set_option maxRecDepth 100000
namespace Go.Proofs.YtfohollhdaedlaaDoor
open Go.RowKit
namespace Exp
def dCells (l : List DocM) : List Value := l.flatMap fun d => [.string d.id, .string d.t0, .string d.t1, .string d.t2, .string d.t3]
theorem dCells_cons (d : DocM) (l : List DocM) : dCells (d :: l) = .string d.id :: .string d.t0 :: .string d.t1 :: .string d.t2 :: .string d.t3 :: dCells l := rfl
theorem dCells_append (l m : List DocM) : dCells (l ++ m) = dCells l ++ dCells m := by simp [dCells]
theorem dCells_length : ∀ l : List DocM, (dCells l).length = l.length * 5
  | [] => rfl
  | x :: l => by
    have := dCells_length l
    rw [dCells_cons]
    simp only [List.length_cons]; omega
theorem dCells_at : ∀ (l : List DocM) (i : Nat) (d : DocM) (h : l[i]? = some d), (dCells l)[i * 5]? = some (.string d.id) ∧ (dCells l)[i * 5 + 1]? = some (.string d.t0) ∧ (dCells l)[i * 5 + 2]? = some (.string d.t1) ∧ (dCells l)[i * 5 + 3]? = some (.string d.t2) ∧ (dCells l)[i * 5 + 4]? = some (.string d.t3)
  | [], _, _, h => by simp at h
  | y :: l, 0, x, h => by
    obtain rfl : y = x := by simpa using h
    exact ⟨rfl, rfl, rfl, rfl, rfl⟩
  | y :: l, i + 1, x, h => by
    have := dCells_at l i x (by simpa using h)
    rw [dCells_cons, show (i + 1) * 5 = i * 5 + 1 + 1 + 1 + 1 + 1 by omega]
    simpa [Nat.add_right_comm _ 5] using this
theorem dCells_one (l : List DocM) : ∀ u ∈ dCells l, u.oneCell' = true := by
  intro u hu
  obtain ⟨x, _, hx⟩ := List.mem_flatMap.1 hu
  simp only [List.mem_cons, List.not_mem_nil, or_false] at hx
  rcases hx with rfl | rfl | rfl | rfl | rfl <;> rfl
theorem spot_nil {w : World} {ad : Addr} {u : Value} (h : w.cell? ad = some u) : ad.spot = none := by
  cases hs : ad.spot with
  | none => rfl
  | some x =>
    unfold World.cell? at h
    split at h
    · rw [hs] at h; simp at h
    · cases h
theorem d_at {w : World} {A : Option Addr} {n c : Nat} {l : List DocM} (h : IsSl w 5 A n c (dCells l)) {i : Nat} {d : DocM} (hx : l[i]? = some d) :
    ∃ b o, A = some ⟨b, o, none⟩ ∧ w.cell? ⟨b, o + i * 5, none⟩ = some (.string d.id) ∧ w.cell? ⟨b, o + i * 5 + 1, none⟩ = some (.string d.t0) ∧ w.cell? ⟨b, o + i * 5 + 2, none⟩ = some (.string d.t1) ∧ w.cell? ⟨b, o + i * 5 + 3, none⟩ = some (.string d.t2) ∧ w.cell? ⟨b, o + i * 5 + 4, none⟩ = some (.string d.t3) := by
  obtain ⟨h1, h2, h3, h4, h5⟩ := h
  obtain ⟨e0, e1, e2, e3, e4⟩ := dCells_at l i d hx
  rw [dCells_length] at h1
  have hi := (List.getElem?_eq_some_iff.1 hx).1
  cases A with
  | none => have := h4 rfl; omega
  | some ad =>
    obtain ⟨ab, ao, sp⟩ := ad
    have f0 := h5 _ rfl (i * 5) _ e0
    have f1 := h5 _ rfl (i * 5 + 1) _ e1
    have f2 := h5 _ rfl (i * 5 + 2) _ e2
    have f3 := h5 _ rfl (i * 5 + 3) _ e3
    have f4 := h5 _ rfl (i * 5 + 4) _ e4
    have g0 := h5 _ rfl 0 ((dCells l)[0]'(by rw [dCells_length]; omega)) (List.getElem?_eq_getElem _)
    have hsp := spot_nil g0
    have hsp : sp = none := by simpa [Addr.add] using hsp
    subst hsp
    rw [Addr.add_lit] at f0 f1 f2 f3 f4
    exact ⟨ab, ao, rfl, f0, f1, f2, f3, f4⟩
/-- The program's table of heads. -/
def headCells : Array Value := #[.string (mk8 (head 0)), .string (mk8 (head 1)), .string (mk8 (head 2)), .string (mk8 (head 3))]
def LaidH (w : World) : Prop := ∃ t, w.heap[0]? = some (.cells headCells t (0, 0))
theorem LaidH.below {w w' : World} (h : LaidH w) (hb : Below w.heap.size w w') : LaidH w' := by
  obtain ⟨t, h⟩ := h
  exact ⟨t, by rw [hb.block _ (Array.getElem?_eq_some_iff.1 h).1]; exact h⟩
theorem LaidH.cell {w : World} (h : LaidH w) (i : Nat) (hi : i < 4) : w.cell? ⟨0, i, none⟩ = some (.string (mk8 (head i))) := by
  obtain ⟨t, h⟩ := h
  rcases (show i = 0 ∨ i = 1 ∨ i = 2 ∨ i = 3 by omega) with rfl | rfl | rfl | rfl <;> simp [World.cell?, h, headCells]
theorem begins_calls (s p : ByteArray) (w : World) :
    Calls Tryd.prog 85 #[.string s, .string p] w fun e w' => e = .returned (.bool ((by8 p).isPrefixOf (by8 s))) ∧ w' = w := by
  obtain ⟨bv, hbv⟩ : ∃ bv, (by8 p).isPrefixOf (by8 s) = bv := ⟨_, rfl⟩
  have HBV := Lib.hid hbv
  rw [hbv]
  clear hbv
  by_cases hlt : s.size < p.size
  · have HR : Hid (bv = false) := by
      show _ = false
      rw [← HBV.out, Bool.eq_false_iff]
      intro h
      have := (List.isPrefixOf_iff_prefix.1 h).length_le
      rw [by8_len, by8_len] at this
      omega
    have hlt' : (s.size : Int) < p.size := by omega
    go_enter Tryd.func85, Tryd.ntmps85
    go_wp2_with fail
    go_ret
    exact ⟨ret_bool HR.out.symm, rfl⟩
  · have hsl := slice_str_to (P := Tryd.prog) Tryd.underlying9 s .i64 (p.size : Int) p.size rfl (by omega)
    have hlt' : ¬ (s.size : Int) < p.size := by omega
    have HE : Hid (s.extract 0 p.size = mk8 ((by8 s).take p.size)) := by
      apply ByteArray.ext
      apply Array.ext'
      rw [ByteArray.data_extract, Array.toList_extract, List.extract_eq_take_drop]
      simp [mk8]
    have HR : Hid (((mk8 ((by8 s).take p.size)).toList == p.toList) = bv) := by
      show _ = _
      rw [← HBV.out, toList_beq, Bool.eq_iff_iff, decide_eq_true_iff, List.isPrefixOf_iff_prefix, List.prefix_iff_eq_take, by8_len]
      exact ⟨fun h => by have h2 := congrArg by8 h; rw [by8_mk] at h2; exact h2.symm, fun h => by rw [← h]; exact mk8_by p⟩
    rw [HE.out] at hsl
    obtain ⟨x, hx⟩ : ∃ x, mk8 ((by8 s).take p.size) = x := ⟨_, rfl⟩
    rw [hx] at hsl HR
    clear hx HE hlt
    go_enter Tryd.func85, Tryd.ntmps85
    go_wp2_with fail
    go_ret
    exact ⟨ret_bool HR.out, rfl⟩
theorem head_calls (i : Nat) (hi : i < 4) (w : World) :
    Calls Tryd.prog 86 #[.int .i64 (i : Int)] w fun e w' => e = .returned (.string (mk8 (head i))) ∧ Below w.heap.size w w' := by
  have HB : ∀ o, Hid (Below w.heap.size w (w.alloc o)) := fun o => (Below.refl _ _).alloc (Nat.le_refl _) _
  rcases (show i = 0 ∨ i = 1 ∨ i = 2 ∨ i = 3 by omega) with rfl | rfl | rfl | rfl
  · go_enter Tryd.func86, Tryd.ntmps86
    go_wp2_with fail
    go_ret
    exact ⟨rfl, (HB _).out⟩
  · go_enter Tryd.func86, Tryd.ntmps86
    go_wp2_with fail
    go_ret
    exact ⟨rfl, (HB _).out⟩
  · go_enter Tryd.func86, Tryd.ntmps86
    go_wp2_with fail
    go_ret
    exact ⟨rfl, (HB _).out⟩
  · go_enter Tryd.func86, Tryd.ntmps86
    go_wp2_with fail
    go_ret
    exact ⟨rfl, (HB _).out⟩
theorem cutPre (s p : ByteArray) (w : World) :
    Calls Tryd.prog 79 #[.string s, .string p] w fun e w' => e = .returned (.tuple #[.string (mk8 (Lib.trimPrefix (by8 s) (by8 p))), .bool ((by8 p).isPrefixOf (by8 s))]) ∧ w' = w :=
  Go.Proofs.Any.strings_CutPrefix lays_n103 s p w
theorem cutSuf (s p : ByteArray) (hs : s.size ≤ 9223372036854775807) (w : World) :
    Calls Tryd.prog 38 #[.string s, .string p] w fun e w' => e = .returned (.tuple #[.string (mk8 (Lib.trimSuffix (by8 s) (by8 p))), .bool (Lib.hasSuffix (by8 s) (by8 p))]) ∧ w' = w :=
  Go.Proofs.Any.strings_CutSuffix lays_n104 s p w hs
theorem idxByte (s : ByteArray) (w : World) :
    Calls Tryd.prog 77 #[.string s, .int .u8 10] w fun e w' => e = .returned (.int .i64 (Lib.indexByte (by8 s) 10)) ∧ w' = w :=
  Go.Proofs.Any.strings_IndexByte lays_n137 s 10 w
end Exp
end Go.Proofs.YtfohollhdaedlaaDoor
