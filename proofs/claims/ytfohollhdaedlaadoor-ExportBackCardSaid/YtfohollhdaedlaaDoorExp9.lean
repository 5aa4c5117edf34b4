/- Export: the reference's Write. -/
import Derived.Test.YtfohollhdaedlaaDoorExp8
set_option linter.unusedVariables false
set_option linter.unusedSimpArgs false
set_option maxRecDepth 100000
namespace Go.Proofs.YtfohollhdaedlaaDoor
open Go.RowKit
namespace Exp
theorem str_at {w : World} {A : Option Addr} {n c : Nat} {l : List B8} (h : IsSl w 1 A n c (strs l)) {i : Nat} {x : B8} (hx : l[i]? = some x) :
    ∃ b o, A = some ⟨b, o, none⟩ ∧ w.cell? ⟨b, o + i, none⟩ = some (.string (mk8 x)) := by
  obtain ⟨h1, h2, h3, h4, h5⟩ := h
  rw [strs_length] at h1
  have hi := (List.getElem?_eq_some_iff.1 hx).1
  cases A with
  | none => have := h4 rfl; omega
  | some ad =>
    obtain ⟨ab, ao, sp⟩ := ad
    have f0 := h5 _ rfl i (.string (mk8 x)) (by simp [strs, hx])
    have g0 := h5 _ rfl 0 ((strs l)[0]'(by rw [strs_length]; omega)) (List.getElem?_eq_getElem _)
    have hsp := spot_nil g0
    have hsp : sp = none := by simpa [Addr.add] using hsp
    subst hsp
    rw [Addr.add_lit] at f0
    exact ⟨ab, ao, rfl, f0⟩
theorem ends_take {l : List B8} {j : Nat} {x : B8} (h : l[j]? = some x) : ends (l.take (j + 1)) = ends (l.take j) ++ x ++ [10] := by
  rw [List.take_add_one, h, ends_app, List.append_assoc]
  simp [ends]
theorem ends_le (l : List B8) (j : Nat) : (ends (l.take j)).length ≤ (ends l).length := by
  have h : ends l = ends (l.take j) ++ ends (l.drop j) := by rw [← ends_app, List.take_append_drop]
  rw [h, List.length_append]; omega
theorem ends_fls_len (d : DocM) (hi : d.id.size ≤ 12) (h : ∀ j, j < 4 → (d.get j).size ≤ 160) : (ends (fls d 4)).length ≤ 1340 := by
  rw [ends_fls, List.length_append, List.length_append, List.length_append]
  have h1 := fl_len d h 4 (Nat.le_refl _)
  have h2 := by8_len d.id
  have h3 : docHead.length = 4 := rfl
  have h4 : ([10] : B8).length = 1 := rfl
  omega
set_option maxHeartbeats 8000000 in
theorem rwrite_calls (w : World) (A : Option Addr) (n c : Nat) (l : List DocM) (hsl : IsSl w 5 A n c (dCells l)) (hn : n ≤ 1000000) :
    Calls Tryd.prog 15 #[.slice A n c] w fun e w' => e = .returned (.string (mk8 (writeD okT l))) ∧ Below w.heap.size w w' := by
  have hnc := hsl.2.1
  have hcm := hsl.2.2.1
  unfold maxLen at hcm
  have HLN : Hid (l.length = n) := by have := hsl.1; rw [dCells_length] at this; show _ = _; omega
  have HSL := Lib.hid hsl
  clear hsl
  go_enter Tryd.func15, Tryd.ntmps15
  go_wp2_with fail
  go_loopw [3, 10] (fun v ix wr => ∃ i : Nat, i ≤ n ∧ ix = .int .i64 i ∧ v = .string (mk8 (writeD okT (l.take i))) ∧ Below w.heap.size w wr ∧ (writeD okT (l.take i)).length ≤ 1400 * i) (fun _ ix _ => n - (intOf ix).toNat)
  case atStart => exact ⟨0, Nat.zero_le _, rfl, rfl, Below.refl _ _, Nat.zero_le _⟩
  case round =>
    obtain ⟨i, hi, rfl, hv, hw, hlen⟩ := hrel
    obtain ⟨os, hos⟩ : ∃ os, mk8 (writeD okT (l.take i)) = os := ⟨_, rfl⟩
    rw [hos] at hv
    subst hv
    have HOS := Lib.hid hos
    have HW := Lib.hid hw
    have HLE := Lib.hid hlen
    clear hos hw hlen
    by_cases hlt : i < n
    · obtain ⟨d, hd⟩ : ∃ d, l[i]? = some d := ⟨_, List.getElem?_eq_getElem (by rw [HLN.out]; exact hlt)⟩
      have HT := Lib.hid (writeD_take l hd)
      obtain ⟨ab, ao, rfl, z0, z1, z2, z3, z4⟩ := d_at (HSL.out.below HW.out) hd
      clear hd
      have hba : Below wr.heap.size wr (wr.alloc (.cells (docC d) 33)) := (Below.refl _ _).alloc (Nat.le_refl _) _
      have HWA := Lib.hid (below_next HW.out hba)
      have HX := Lib.hid (heap_alloc_new wr (.cells (docC d) 33))
      have CM := Lib.hid (rmay_calls d (wr.alloc (.cells (docC d) 33)))
      clear hba
      by_cases hm : mayD okT d = true
      · rw [hm] at CM
        rw [if_pos hm] at HT
        obtain ⟨hg, hnm⟩ := (mayD_get d).1 hm
        have hidl : d.id.size ≤ 12 := by rw [← by8_len]; exact id_len hnm
        have HEL := Lib.hid (ends_fls_len d hidl (fun j hj => okT_size (hg j hj)))
        have CL := Lib.hid (lines_calls d hidl (fun j hj => okT_size (hg j hj)))
        rw [docLines_ends] at HT
        have HFN := Lib.hid (fls_len d 4)
        obtain ⟨fs, hfs⟩ : ∃ fs, fls d 4 = fs := ⟨_, rfl⟩
        rw [hfs] at HEL CL HT HFN
        clear hg hnm hm hfs hidl
        obtain ⟨id, t0, t1, t2, t3⟩ := d
        simp only [docC, docV] at HWA HX CM CL z0 z1 z2 z3 z4
        go_wp2_with fail
        refine CM.out.mono ?_
        rintro e w2 ⟨rfl, hb2⟩
        have hx2 := (hb2.block _ (by simp)).trans HX.out
        have q0 : w2.cell? ⟨wr.heap.size, 0, none⟩ = some (.string id) := by simp [World.cell?, hx2]
        have q1 : w2.cell? ⟨wr.heap.size, 1, none⟩ = some (.string t0) := by simp [World.cell?, hx2]
        have q2 : w2.cell? ⟨wr.heap.size, 2, none⟩ = some (.string t1) := by simp [World.cell?, hx2]
        have q3 : w2.cell? ⟨wr.heap.size, 3, none⟩ = some (.string t2) := by simp [World.cell?, hx2]
        have q4 : w2.cell? ⟨wr.heap.size, 4, none⟩ = some (.string t3) := by simp [World.cell?, hx2]
        have HW2 := Lib.hid (below_next HWA.out hb2)
        clear hb2 hx2
        go_wp2_with fail
        refine (CL.out _).mono ?_
        rintro e w3 ⟨LA, lc, rfl, hls, hb3⟩
        have HLS := Lib.hid hls
        have HW3 := Lib.hid (below_next HW2.out hb3)
        have hlc := hls.2.1
        have hlm := hls.2.2.1
        unfold maxLen at hlm
        clear hls hb3 q0 q1 q2 q3 q4
        go_wp2_with fail
        obtain ⟨wz, hwz⟩ : ∃ wz, wz = wr := ⟨_, rfl⟩
        subst hwz
        go_loopw [3, 20] (fun v jx wr => ∃ j : Nat, j ≤ fs.length ∧ jx = .int .i64 j ∧ v = .string (mk8 (writeD okT (l.take i) ++ ends (fs.take j))) ∧ wr = w3) (fun _ jx _ => fs.length - (intOf jx).toNat)
        case atStart => exact ⟨0, Nat.zero_le _, rfl, by rw [← HOS.out]; show _ = Value.string (mk8 (_ ++ [])); rw [List.append_nil], rfl⟩
        case round =>
          obtain ⟨j, hj, rfl, hv, rfl⟩ := hrel
          obtain ⟨pt, hpt⟩ : ∃ pt, mk8 (writeD okT (l.take i) ++ ends (fs.take j)) = pt := ⟨_, rfl⟩
          rw [hpt] at hv
          subst hv
          have HPT := Lib.hid hpt
          clear hpt
          by_cases hj4 : j < fs.length
          · obtain ⟨y, hy⟩ : ∃ y, fs[j]? = some y := ⟨_, List.getElem?_eq_getElem hj4⟩
            obtain ⟨lb, lo, rfl, hc⟩ := str_at HLS.out hy
            obtain ⟨ys, hys⟩ : ∃ ys, mk8 y = ys := ⟨_, rfl⟩
            rw [hys] at hc
            have HY := Lib.hid (ends_take hy)
            have hsz : pt.size + ys.size + 1 ≤ 1500000000 := by
              rw [← HPT.out, ← hys, mk8_size, mk8_size, List.length_append]
              have h1 := HLE.out
              have h2 := HEL.out
              have h3 := ends_le fs (j + 1)
              rw [HY.out, List.length_append, List.length_append] at h3
              have h4 : ([10] : B8).length = 1 := rfl
              omega
            have HPY : Hid (Value.string (pt ++ ys ++ { data := #[10] }) = .string (mk8 (writeD okT (l.take i) ++ ends (fs.take (j + 1))))) := by
              show _ = _
              rw [HY.out, ← HPT.out, ← hys, mk8_app]
              show Value.string (mk8 _ ++ mk8 [10]) = _
              rw [mk8_app]
              simp only [List.append_assoc]
            have hp1 : ¬ 9223372036854775807 < pt.size + ys.size := by omega
            have hp2 : ¬ 9223372036854775807 < pt.size + ys.size + 1 := by omega
            have hp3 : ∀ W, (Op.stringOp .add pt ys).run Tryd.prog W = .ok (.string (pt ++ ys)) W := fun W => run_string_add_sum W pt ys (by omega)
            have hp4 : ∀ W, (Op.stringOp .add (pt ++ ys) { data := #[10] }).run Tryd.prog W = .ok (.string (pt ++ ys ++ { data := #[10] })) W := fun W => run_string_add_sum W _ _ (by rw [ByteArray.size_append]; show _ + 1 ≤ _; omega)
            clear hy hys
            go_wp2_with fail
            go_roundw
            case rel => exact ⟨j + 1, by omega, by go_num, HPY.out, trivial⟩
            case measure => simp [intOf]; omega
          · have ht : fs.take j = fs := List.take_of_length_le (by omega)
            have HE : Hid (Value.string pt = .string (mk8 (writeD okT (l.take (i + 1))))) := by
              show _ = _
              rw [← HPT.out, HT.out, ht]
            clear ht
            go_wp2_with fail
            go_roundw
            case rel => exact ⟨i + 1, by omega, by go_num, HE.out, HW3.out, by
              rw [HT.out, List.length_append]
              have h1 := HLE.out
              have h2 := HEL.out
              omega⟩
            case measure => simp [intOf]; omega
      · rw [if_neg hm, List.append_nil] at HT
        have hmf : mayD okT d = false := by simpa using hm
        rw [hmf] at CM
        clear hm hmf
        obtain ⟨id, t0, t1, t2, t3⟩ := d
        simp only [docC, docV] at HWA HX CM z0 z1 z2 z3 z4
        go_wp2_with fail
        refine CM.out.mono ?_
        rintro e w2 ⟨rfl, hb2⟩
        have HW2 := Lib.hid (below_next HWA.out hb2)
        clear hb2
        go_wp2_with fail
        go_roundw
        case rel => exact ⟨i + 1, by omega, by go_num, by rw [HT.out, HOS.out], HW2.out, by rw [HT.out]; have := HLE.out; omega⟩
        case measure => simp [intOf]; omega
    · have ht : l.take i = l := List.take_of_length_le (by rw [HLN.out]; omega)
      rw [ht] at HOS
      clear ht
      go_wp2_with fail
      go_ret
      exact ⟨by rw [HOS.out]; rfl, HW.out⟩
end Exp
end Go.Proofs.YtfohollhdaedlaaDoor
