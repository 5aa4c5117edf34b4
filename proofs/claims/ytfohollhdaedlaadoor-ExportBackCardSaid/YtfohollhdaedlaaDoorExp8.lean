/- Export: the reference's lines, and its Write. -/
import Derived.Test.YtfohollhdaedlaaDoorExp7
set_option linter.unusedVariables false
set_option linter.unusedSimpArgs false
set_option maxRecDepth 100000
namespace Go.Proofs.YtfohollhdaedlaaDoor
open Go.RowKit
namespace Exp
theorem inf_str : (Tryd.prog.info? 9).map (fun i => (i.zero, i.size, i.bytes)) = some (some (.string { data := #[] }), 1, 16) := by kernel_rfl
def fls (d : DocM) : Nat → List B8
  | 0 => [docHead ++ by8 d.id]
  | j + 1 => fls d j ++ (if by8 (d.get j) = [] then [] else [head j ++ esc (by8 (d.get j))])
def strs (l : List B8) : List Value := l.map fun x => .string (mk8 x)
theorem strs_length (l : List B8) : (strs l).length = l.length := by simp [strs]
theorem strs_app (l m : List B8) : strs (l ++ m) = strs l ++ strs m := by simp [strs]
theorem strs_one (l : List B8) : ∀ u ∈ strs l, u.oneCell' = true := by
  intro u hu
  obtain ⟨_, _, rfl⟩ := List.mem_map.1 hu
  rfl
def ends (l : List B8) : B8 := l.flatMap (· ++ [10])
theorem ends_app (l m : List B8) : ends (l ++ m) = ends l ++ ends m := by simp [ends]
theorem ends_fls (d : DocM) : ∀ j, ends (fls d j) = docHead ++ by8 d.id ++ [10] ++ fl d j
  | 0 => by simp [ends, fls, fl]
  | j + 1 => by
    show ends (fls d j ++ _) = _ ++ (fl d j ++ fieldLine d j)
    rw [ends_app, ends_fls d j, List.append_assoc (docHead ++ by8 d.id ++ [10])]
    congr 1
    congr 1
    unfold fieldLine
    by_cases h : by8 (d.get j) = []
    · rw [if_pos h, if_pos h]; rfl
    · rw [if_neg h, if_neg h]; simp [ends]
theorem docLines_ends (d : DocM) : docLines d = ends (fls d 4) := by rw [docLines_fl, ends_fls]
theorem fls_len (d : DocM) : ∀ j, (fls d j).length ≤ j + 1
  | 0 => Nat.le_refl _
  | j + 1 => by
    have := fls_len d j
    show (fls d j ++ _).length ≤ _
    rw [List.length_append]
    split <;> simp <;> omega
set_option maxHeartbeats 8000000 in
theorem lines_calls (d : DocM) (hid : d.id.size ≤ 12) (hg : ∀ j, j < 4 → (d.get j).size ≤ 160) (w : World) :
    Calls Tryd.prog 46 #[docV d] w fun e w' => ∃ A c, e = .returned (.slice A (fls d 4).length c) ∧ IsSl w' 1 A (fls d 4).length c (strs (fls d 4)) ∧ Below w.heap.size w w' := by
  have HIX := Lib.hid (idx_arr d)
  have HG := Lib.hid hg
  obtain ⟨f0, hf0⟩ : ∃ f0, fls d 0 = f0 := ⟨_, rfl⟩
  have HF0 := Lib.hid hf0
  obtain ⟨id, t0, t1, t2, t3⟩ := d
  obtain ⟨ids, hids⟩ : ∃ ids : ByteArray, ({ data := #[100, 111, 99, 32] } : ByteArray) ++ id = ids := ⟨_, rfl⟩
  have hs0 : Hid (strs f0 = [.string ids]) := by
    show _ = _
    rw [← HF0.out, ← hids]
    show [Value.string (mk8 (docHead ++ by8 id))] = _
    rw [← mk8_app]; rfl
  have hf1 : Hid (f0.length = 1) := by show _ = _; rw [← HF0.out]; rfl
  have HBA : Hid (Below w.heap.size w ((w.alloc (.cells (docC ⟨id, t0, t1, t2, t3⟩) 33)).alloc (.cells #[.string ids] 9))) := ((Below.refl _ _).alloc (Nat.le_refl _) _).alloc (by simp) _
  have HO : Hid (((w.alloc (.cells (docC ⟨id, t0, t1, t2, t3⟩) 33)).alloc (.cells #[.string ids] 9)).ownsRow w.heap.size 9 1 (.slice (some ⟨w.heap.size + 1, 0, none⟩) 1 1) 1 (strs f0)) := by
    have := own_lit (w.alloc (.cells (docC ⟨id, t0, t1, t2, t3⟩) 33)) #[.string ids] 9 w.heap.size 1 rfl (by simp) (by decide)
    show World.ownsRow _ _ _ _ _ _ _
    rw [hs0.out]
    simpa using this
  simp only [docV, docC] at HBA HO hid ⊢
  clear hg hf0
  go_enter Tryd.func46, Tryd.ntmps46
  go_wp2_with fail
  go_loopw [3, 12] (fun v ix wr => ∃ i : Nat, i ≤ 4 ∧ ix = .int .i64 i ∧ wr.ownsRow w.heap.size 9 1 v (fls ⟨id, t0, t1, t2, t3⟩ i).length (strs (fls ⟨id, t0, t1, t2, t3⟩ i)) ∧ Below w.heap.size w wr) (fun _ ix _ => 4 - (intOf ix).toNat)
  case atStart => exact ⟨0, Nat.zero_le _, rfl, by rw [HF0.out, hf1.out]; simpa using HO.out, by simpa using HBA.out⟩
  case round =>
    clear HO HBA
    obtain ⟨i, hi, rfl, ho, hb⟩ := hrel
    have HO := Lib.hid ho
    have HB := Lib.hid hb
    clear ho hb
    by_cases hlt : i < 4
    · have hix := fun W => HIX.out i hlt W
      obtain ⟨x, hx⟩ : ∃ x, DocM.get ⟨id, t0, t1, t2, t3⟩ i = x := ⟨_, rfl⟩
      have hxs : x.size ≤ 160 := by rw [← hx]; exact HG.out i hlt
      rw [hx] at hix
      have HXX := Lib.hid hx
      clear hx
      have HLI := Lib.hid (fls_len ⟨id, t0, t1, t2, t3⟩ i)
      by_cases hx0 : by8 x = []
      · have e1 : x.toList.isEmpty = true := by rw [ByteArray.toList_eq]; exact List.isEmpty_iff.2 hx0
        have e2 : (x.toList == []) = true := by rw [ByteArray.toList_eq]; exact beq_iff_eq.2 hx0
        have e3 : (x.toList != []) = false := by rw [bne, e2]; rfl
        have HF : Hid (fls ⟨id, t0, t1, t2, t3⟩ (i + 1) = fls ⟨id, t0, t1, t2, t3⟩ i) := by
          show fls _ i ++ _ = _
          rw [HXX.out, if_pos hx0, List.append_nil]
        clear hx0
        go_wp2_with fail
        go_roundw
        case rel => exact ⟨i + 1, by omega, by go_num, by rw [HF.out]; exact HO.out, HB.out⟩
        case measure => simp [intOf]; omega
      · have e1 : x.toList.isEmpty = false := by rw [ByteArray.toList_eq, Bool.eq_false_iff]; intro h; exact hx0 (List.isEmpty_iff.1 h)
        have e2 : (x.toList == []) = false := by rw [ByteArray.toList_eq, Bool.eq_false_iff]; intro h; exact hx0 (beq_iff_eq.1 h)
        have e3 : (x.toList != []) = true := by rw [bne, e2]; rfl
        have HF : Hid (fls ⟨id, t0, t1, t2, t3⟩ (i + 1) = fls ⟨id, t0, t1, t2, t3⟩ i ++ [head i ++ esc (by8 x)]) := by
          show fls _ i ++ _ = _
          rw [HXX.out, if_neg hx0]
        obtain ⟨hd, hhd⟩ : ∃ hd, mk8 (head i) = hd := ⟨_, rfl⟩
        obtain ⟨ex, hex⟩ : ∃ ex, mk8 (esc (by8 x)) = ex := ⟨_, rfl⟩
        have hhs : hd.size ≤ 6 := by
          rw [← hhd, mk8_size]; unfold head
          split
          · decide
          · split
            · decide
            · split <;> decide
        have hes : ex.size ≤ 320 := by
          rw [← hex, mk8_size]
          have h1 := esc_len (by8 x)
          have h2 := by8_len x
          omega
        have HSF : Hid (strs (fls ⟨id, t0, t1, t2, t3⟩ (i + 1)) = strs (fls ⟨id, t0, t1, t2, t3⟩ i) ++ [.string (hd ++ ex)]) := by
          show _ = _
          rw [HF.out, strs_app, ← hhd, ← hex, mk8_app]; rfl
        have HLF : Hid ((fls ⟨id, t0, t1, t2, t3⟩ (i + 1)).length = (fls ⟨id, t0, t1, t2, t3⟩ i).length + 1) := by
          show _ = _
          rw [HF.out, List.length_append]; rfl
        have CH := Lib.hid (head_calls i hlt wr)
        have CE : Hid (∀ W : World, Calls Tryd.prog 88 #[.string x] W fun e w' => e = .returned (.string ex) ∧ Below W.heap.size W w') := fun W => by
          rw [← hex]; exact rescape_calls x (by omega) W
        rw [hhd] at CH
        clear hx0 hhd hex
        go_wp2_with fail
        refine CH.out.mono ?_
        rintro e w1 ⟨rfl, hb1⟩
        have HB1 := Lib.hid (below_next HB.out hb1)
        have HO1 := Lib.hid (own_below HO.out hb1)
        clear hb1
        go_wp2_with fail
        refine (CE.out _).mono ?_
        rintro e w2 ⟨rfl, hb2⟩
        have HB2 := Lib.hid (below_next HB1.out hb2)
        have HO2 := Lib.hid (own_below HO1.out hb2)
        have HSZ2 := Lib.hid HB2.out.size
        clear hb2
        have hli := HLI.out
        have hal := HB2.out.size
        go_wp2_with (at_builtin; go_loud (refine wpList_app_own _ rfl (.tmp 18) (.tmp 24) 85 rfl w.heap.size 9 (.string { data := #[] }) 1 16 Tryd.underlying85 inf_str rfl (by decide) _ (fls ⟨id, t0, t1, t2, t3⟩ i).length (strs (fls ⟨id, t0, t1, t2, t3⟩ i)) rfl (own_below HO2.out ((Below.refl _ _).alloc (Nat.le_refl _) _)) _ 1 1 _ rfl (sl_lit _ _ _ 1 rfl (by decide)) (by simp [Value.oneCell']) (by unfold maxLen; omega) (by omega) (by simp; omega) ?_))
        intro v3 w3 ho3 hg3 hb3
        have HO3 := Lib.hid ho3
        have HB3 := Lib.hid (HB2.out.trans (((Below.refl w.heap.size w2).alloc (by omega) _).trans hb3))
        clear ho3 hg3 hb3
        go_wp2_with fail
        go_roundw
        case rel => exact ⟨i + 1, by omega, by go_num, by rw [HSF.out, HLF.out]; exact HO3.out, HB3.out⟩
        case measure => simp [intOf]; omega
    · obtain rfl : i = 4 := by omega
      obtain ⟨A, c, rfl, hsl⟩ := own_form HO.out
      have HS := Lib.hid hsl
      clear hsl
      go_wp2_with fail
      go_ret
      exact ⟨_, _, rfl, HS.out, HB.out⟩
end Exp
end Go.Proofs.YtfohollhdaedlaaDoor
