/- Export: whether a document may be written. Written by exp4.py. -/
import Derived.Test.YtfohollhdaedlaaDoorExp3
set_option linter.unusedVariables false
set_option linter.unusedSimpArgs false
set_option maxRecDepth 100000
namespace Go.Proofs.YtfohollhdaedlaaDoor
open Go.RowKit
namespace Exp
def docC (d : DocM) : Array Value := #[.string d.id, .string d.t0, .string d.t1, .string d.t2, .string d.t3]
def docV (d : DocM) : Value := .agg (docC d)
theorem idx_arr (d : DocM) (i : Nat) (hi : i < 4) (W : World) : (Instr.index 31 (.agg #[.string d.t0, .string d.t1, .string d.t2, .string d.t3]) (.int .i64 (i : Int))).run Tryd.prog W = .ok (.string (d.get i)) W := by
  obtain ⟨id, t0, t1, t2, t3⟩ := d
  rcases (show i = 0 ∨ i = 1 ∨ i = 2 ∨ i = 3 by omega) with rfl | rfl | rfl | rfl <;> kernel_rfl
theorem mayD_get (d : DocM) : mayD okT d = true ↔ (∀ i, i < 4 → okT (d.get i) = true) ∧ nameOk (by8 d.id) = true := by
  unfold mayD
  constructor
  · intro h
    simp only [Bool.and_eq_true] at h
    obtain ⟨⟨⟨⟨h0, h1⟩, h2⟩, h3⟩, h4⟩ := h
    refine ⟨fun i hi => ?_, h4⟩
    rcases (show i = 0 ∨ i = 1 ∨ i = 2 ∨ i = 3 by omega) with rfl | rfl | rfl | rfl
    · exact h0
    · exact h1
    · exact h2
    · exact h3
  · rintro ⟨h, h4⟩
    simp only [Bool.and_eq_true]
    exact ⟨⟨⟨⟨h 0 (by decide), h 1 (by decide)⟩, h 2 (by decide)⟩, h 3 (by decide)⟩, h4⟩
set_option maxHeartbeats 4000000 in
theorem may_calls (d : DocM) (w : World) :
    Calls Tryd.prog 40 #[docV d] w fun e w' => e = .returned (.bool (mayD okT d)) ∧ Below w.heap.size w w' := by
  have HBA : Hid (Below w.heap.size w (w.alloc (.cells (docC d) 33))) := (Below.refl _ _).alloc (Nat.le_refl _) _
  have HX0 : Hid ((w.alloc (.cells (docC d) 33)).heap[w.heap.size]? = some (.cells (docC d) 33 (0, 0))) := heap_alloc_new _ _
  have HIX := Lib.hid (idx_arr d)
  have HM := Lib.hid (mayD_get d)
  obtain ⟨id, t0, t1, t2, t3⟩ := d
  simp only [docV, docC] at HBA HX0 ⊢
  go_enter Tryd.func40, Tryd.ntmps40
  go_wp2_with fail
  generalize w.alloc (.cells #[.string id, .string t0, .string t1, .string t2, .string t3] 33) = w1 at *
  go_loopw [7] (fun ix wr => ∃ i : Nat, i ≤ 4 ∧ ix = .int .i64 i ∧ Below w1.heap.size w1 wr ∧ ∀ j, j < i → okT (DocM.get ⟨id, t0, t1, t2, t3⟩ j) = true) (fun ix _ => 4 - (intOf ix).toNat)
  case atStart => exact ⟨0, Nat.zero_le _, rfl, Below.refl _ _, fun j h => by omega⟩
  case round =>
    obtain ⟨i, hi, rfl, hb, hall⟩ := hrel
    have HB := Lib.hid hb
    have HA := Lib.hid hall
    clear hb hall
    by_cases hlt : i < 4
    · have hix := fun W => HIX.out i hlt W
      obtain ⟨x, hx⟩ : ∃ x, DocM.get ⟨id, t0, t1, t2, t3⟩ i = x := ⟨_, rfl⟩
      rw [hx] at hix
      have HX := Lib.hid hx
      clear hx
      have hw1 : IntKind.i64.wrap ((i : Int) + 1) = (i : Int) + 1 := by rw [IntKind.wrap_i64]; omega
      have C := Lib.hid (text_calls i hlt x wr)
      rcases textC_eq x with ⟨h, ho⟩ | ⟨h, ho⟩ | ⟨h, ho⟩
      · rw [h] at C
        have HO := Lib.hid ho
        clear h ho
        go_wp2_with fail
        refine C.out.mono ?_
        rintro e w2 ⟨rfl, hb2⟩
        have HB2 := Lib.hid (below_next HB.out hb2)
        clear hb2
        go_wp2_with fail
        go_roundw
        case rel => exact ⟨i + 1, by omega, by go_num, HB2.out, fun j hj => by
          by_cases e : j = i
          · rw [e, HX.out]; exact HO.out
          · exact HA.out j (by omega)⟩
        case measure => simp [intOf]; omega
      · rw [h] at C
        have HO : Hid (mayD okT ⟨id, t0, t1, t2, t3⟩ = false) := by
          show _ = false
          rw [Bool.eq_false_iff]
          intro hm
          have := (HM.out.1 hm).1 i hlt
          rw [HX.out, ho] at this
          cases this
        clear h ho
        go_wp2_with fail
        refine C.out.mono ?_
        rintro e w2 ⟨rfl, hb2⟩
        have HB2 := Lib.hid (below_next HBA.out (below_next HB.out hb2))
        clear hb2
        go_wp2_with fail
        go_ret
        exact ⟨ret_bool HO.out.symm, HB2.out⟩
      · rw [h] at C
        have HO : Hid (mayD okT ⟨id, t0, t1, t2, t3⟩ = false) := by
          show _ = false
          rw [Bool.eq_false_iff]
          intro hm
          have := (HM.out.1 hm).1 i hlt
          rw [HX.out, ho] at this
          cases this
        clear h ho
        go_wp2_with fail
        refine C.out.mono ?_
        rintro e w2 ⟨rfl, hb2⟩
        have HB2 := Lib.hid (below_next HBA.out (below_next HB.out hb2))
        clear hb2
        go_wp2_with fail
        go_ret
        exact ⟨ret_bool HO.out.symm, HB2.out⟩
    · have c0 : wr.cell? ⟨w.heap.size, 0, none⟩ = some (.string id) := by
        have h := (HB.out.block w.heap.size (Array.getElem?_eq_some_iff.1 HX0.out).1).trans HX0.out
        simp [World.cell?, h]
      have C := Lib.hid (name_calls id wr)
      have HO : Hid (mayD okT ⟨id, t0, t1, t2, t3⟩ = nameOk (by8 id)) := by
        show _ = _
        have h : ∀ j, j < 4 → okT (DocM.get ⟨id, t0, t1, t2, t3⟩ j) = true := fun j hj => HA.out j (by omega)
        unfold mayD
        rw [show okT t0 = true from h 0 (by decide), show okT t1 = true from h 1 (by decide), show okT t2 = true from h 2 (by decide), show okT t3 = true from h 3 (by decide)]
        rfl
      go_wp2_with fail
      refine C.out.mono ?_
      rintro e w2 ⟨rfl, hb2⟩
      have HB2 := Lib.hid (below_next HBA.out (below_next HB.out hb2))
      clear hb2
      go_wp2_with fail
      go_ret
      exact ⟨ret_bool HO.out.symm, HB2.out⟩
set_option maxHeartbeats 4000000 in
theorem rmay_calls (d : DocM) (w : World) :
    Calls Tryd.prog 17 #[docV d] w fun e w' => e = .returned (.bool (mayD okT d)) ∧ Below w.heap.size w w' := by
  have HBA : Hid (Below w.heap.size w (w.alloc (.cells (docC d) 33))) := (Below.refl _ _).alloc (Nat.le_refl _) _
  have HX0 : Hid ((w.alloc (.cells (docC d) 33)).heap[w.heap.size]? = some (.cells (docC d) 33 (0, 0))) := heap_alloc_new _ _
  have HIX := Lib.hid (idx_arr d)
  have HM := Lib.hid (mayD_get d)
  obtain ⟨id, t0, t1, t2, t3⟩ := d
  simp only [docV, docC] at HBA HX0 ⊢
  go_enter Tryd.func17, Tryd.ntmps17
  go_wp2_with fail
  generalize w.alloc (.cells #[.string id, .string t0, .string t1, .string t2, .string t3] 33) = w1 at *
  go_loopw [7] (fun ix wr => ∃ i : Nat, i ≤ 4 ∧ ix = .int .i64 i ∧ Below w1.heap.size w1 wr ∧ ∀ j, j < i → okT (DocM.get ⟨id, t0, t1, t2, t3⟩ j) = true) (fun ix _ => 4 - (intOf ix).toNat)
  case atStart => exact ⟨0, Nat.zero_le _, rfl, Below.refl _ _, fun j h => by omega⟩
  case round =>
    obtain ⟨i, hi, rfl, hb, hall⟩ := hrel
    have HB := Lib.hid hb
    have HA := Lib.hid hall
    clear hb hall
    by_cases hlt : i < 4
    · have hix := fun W => HIX.out i hlt W
      obtain ⟨x, hx⟩ : ∃ x, DocM.get ⟨id, t0, t1, t2, t3⟩ i = x := ⟨_, rfl⟩
      rw [hx] at hix
      have HX := Lib.hid hx
      clear hx
      have hw1 : IntKind.i64.wrap ((i : Int) + 1) = (i : Int) + 1 := by rw [IntKind.wrap_i64]; omega
      have C := Lib.hid (rtext_calls i hlt x wr)
      rcases textC_eq x with ⟨h, ho⟩ | ⟨h, ho⟩ | ⟨h, ho⟩
      · rw [h] at C
        have HO := Lib.hid ho
        clear h ho
        go_wp2_with fail
        refine C.out.mono ?_
        rintro e w2 ⟨rfl, hb2⟩
        have HB2 := Lib.hid (below_next HB.out hb2)
        clear hb2
        go_wp2_with fail
        go_roundw
        case rel => exact ⟨i + 1, by omega, by go_num, HB2.out, fun j hj => by
          by_cases e : j = i
          · rw [e, HX.out]; exact HO.out
          · exact HA.out j (by omega)⟩
        case measure => simp [intOf]; omega
      · rw [h] at C
        have HO : Hid (mayD okT ⟨id, t0, t1, t2, t3⟩ = false) := by
          show _ = false
          rw [Bool.eq_false_iff]
          intro hm
          have := (HM.out.1 hm).1 i hlt
          rw [HX.out, ho] at this
          cases this
        clear h ho
        go_wp2_with fail
        refine C.out.mono ?_
        rintro e w2 ⟨rfl, hb2⟩
        have HB2 := Lib.hid (below_next HBA.out (below_next HB.out hb2))
        clear hb2
        go_wp2_with fail
        go_ret
        exact ⟨ret_bool HO.out.symm, HB2.out⟩
      · rw [h] at C
        have HO : Hid (mayD okT ⟨id, t0, t1, t2, t3⟩ = false) := by
          show _ = false
          rw [Bool.eq_false_iff]
          intro hm
          have := (HM.out.1 hm).1 i hlt
          rw [HX.out, ho] at this
          cases this
        clear h ho
        go_wp2_with fail
        refine C.out.mono ?_
        rintro e w2 ⟨rfl, hb2⟩
        have HB2 := Lib.hid (below_next HBA.out (below_next HB.out hb2))
        clear hb2
        go_wp2_with fail
        go_ret
        exact ⟨ret_bool HO.out.symm, HB2.out⟩
    · have c0 : wr.cell? ⟨w.heap.size, 0, none⟩ = some (.string id) := by
        have h := (HB.out.block w.heap.size (Array.getElem?_eq_some_iff.1 HX0.out).1).trans HX0.out
        simp [World.cell?, h]
      have C := Lib.hid (rname_calls id wr)
      have HO : Hid (mayD okT ⟨id, t0, t1, t2, t3⟩ = nameOk (by8 id)) := by
        show _ = _
        have h : ∀ j, j < 4 → okT (DocM.get ⟨id, t0, t1, t2, t3⟩ j) = true := fun j hj => HA.out j (by omega)
        unfold mayD
        rw [show okT t0 = true from h 0 (by decide), show okT t1 = true from h 1 (by decide), show okT t2 = true from h 2 (by decide), show okT t3 = true from h 3 (by decide)]
        rfl
      go_wp2_with fail
      refine C.out.mono ?_
      rintro e w2 ⟨rfl, hb2⟩
      have HB2 := Lib.hid (below_next HBA.out (below_next HB.out hb2))
      clear hb2
      go_wp2_with fail
      go_ret
      exact ⟨ret_bool HO.out.symm, HB2.out⟩
end Exp
end Go.Proofs.YtfohollhdaedlaaDoor
