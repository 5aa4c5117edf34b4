/- Export: the law: what was written is read. -/
import Derived.Test.YtfohollhdaedlaaDoorExp24
set_option linter.unusedVariables false
set_option linter.unusedSimpArgs false
set_option maxRecDepth 100000
namespace Go.Proofs.YtfohollhdaedlaaDoor
open Go.RowKit
namespace Exp
theorem writeD_len (l : List DocM) : (writeD okT l).length ≤ 1340 * l.length := by
  rw [writeD_ends]
  have h : ∀ m : List DocM, (∀ d ∈ m, mayD okT d = true) → (ends (m.flatMap fun d => fls d 4)).length ≤ 1340 * m.length := by
    intro m
    induction m with
    | nil => intro _; exact Nat.le_refl _
    | cons d m ih =>
      intro hm
      have h1 := ih fun x hx => hm x (List.mem_cons_of_mem _ hx)
      obtain ⟨hg, hn⟩ := (mayD_get d).1 (hm d (List.mem_cons_self ..))
      have h2 := ends_fls_len d (by rw [← by8_len]; exact id_len hn) (fun j hj => okT_size (hg j hj))
      rw [List.flatMap_cons, ends_app, List.length_append, List.length_cons]
      omega
  have h1 := h (l.filter (mayD okT)) fun d hd => (List.mem_filter.1 hd).2
  have h2 := List.length_filter_le (mayD okT) l
  have : 1340 * (l.filter (mayD okT)).length ≤ 1340 * l.length := Nat.mul_le_mul_left _ h2
  omega
theorem filter_take {l : List DocM} {i : Nat} {d : DocM} (h : l[i]? = some d) : (l.take (i + 1)).filter (mayD okT) = (l.take i).filter (mayD okT) ++ (if mayD okT d then [d] else []) := by
  rw [List.take_add_one, h, List.filter_append]
  congr 1
  cases hm : mayD okT d <;> simp [hm]
set_option maxHeartbeats 8000000 in
theorem back_proof (w : World) (hH : LaidH w) (A : Option Addr) (n c : Nat) (l : List DocM) (hsl : IsSl w 5 A n c (dCells l)) :
    Calls Tryd.prog 5 #[.slice A n c] w fun e w' => e = .returned (.bool true) ∧ Below w.heap.size w w' := by
  have hnc := hsl.2.1
  have hcm := hsl.2.2.1
  unfold maxLen at hcm
  have HLN : Hid (l.length = n) := by have := hsl.1; rw [dCells_length] at this; show _ = _; omega
  have HH := Lib.hid hH
  have HSL := Lib.hid hsl
  have hba : Below w.heap.size w (w.alloc (.cells #[.slice A n c] 23)) := (Below.refl _ _).alloc (Nat.le_refl _) _
  have HBA := Lib.hid hba
  have CS := Lib.hid (short_calls (w.alloc (.cells #[.slice A n c] 23)) w.heap.size A n c l (hsl.below hba) (by rw [cell_new]; rfl))
  clear hH hsl hba
  go_enter Tryd.func5, Tryd.ntmps5
  go_wp2_with fail
  refine CS.out.mono ?_
  rintro e w1 ⟨⟨b, rfl, hb20⟩, hb1⟩
  have HB1 := Lib.hid (below_next HBA.out hb1)
  clear hb1 CS
  cases b
  · go_wp2_with fail
    refine (awake_calls _ (HH.out.below HB1.out)).mono ?_
    rintro e w3 ⟨rfl, hb3⟩
    have HB3 := Lib.hid (below_next HB1.out hb3)
    clear hb3
    go_wp2_with fail
    go_ret
    exact ⟨rfl, HB3.out⟩
  · have hn : n ≤ 20 := hb20 rfl
    have hn2 : n ≤ 1000000 := by omega
    have HZ := Lib.hid HB1.out.size
    clear hb20
    go_wp2_with fail
    go_loopw [3, 16] (fun v ix wr => ∃ i : Nat, i ≤ n ∧ ix = .int .i64 i ∧ wr.ownsRow w.heap.size 33 5 v ((l.take i).filter (mayD okT)).length (dCells ((l.take i).filter (mayD okT))) ∧ Below w.heap.size w wr) (fun _ ix _ => n - (intOf ix).toNat)
    case atStart => exact ⟨0, Nat.zero_le _, rfl, ⟨rfl, .inl ⟨rfl, rfl⟩⟩, HB1.out⟩
    case round =>
      clear HBA HB1 HZ
      obtain ⟨i, hi, rfl, ho, hb⟩ := hrel
      have HB := Lib.hid hb
      by_cases hlt : i < n
      · obtain ⟨d, hd⟩ : ∃ d, l[i]? = some d := ⟨_, List.getElem?_eq_getElem (by rw [HLN.out]; exact hlt)⟩
        have HT := Lib.hid (filter_take hd)
        obtain ⟨ab, ao, rfl, z0, z1, z2, z3, z4⟩ := d_at (HSL.out.below HB.out) hd
        have hba : Below wr.heap.size wr (wr.alloc (.cells (docC d) 33)) := (Below.refl _ _).alloc (Nat.le_refl _) _
        have HWA := Lib.hid (below_next HB.out hba)
        have HX := Lib.hid (heap_alloc_new wr (.cells (docC d) 33))
        have CM := Lib.hid (rmay_calls d (wr.alloc (.cells (docC d) 33)))
        have HO := Lib.hid (own_below ho hba)
        have hlf : ((l.take i).filter (mayD okT)).length ≤ 20 := by
          have h1 := List.length_filter_le (mayD okT) (l.take i)
          rw [List.length_take] at h1
          omega
        obtain ⟨fs, hfs⟩ : ∃ fs, (l.take i).filter (mayD okT) = fs := ⟨_, rfl⟩
        rw [hfs] at HT HO hlf
        clear hd hba ho hb hfs
        by_cases hm : mayD okT d = true
        · rw [hm] at CM
          rw [if_pos hm] at HT
          clear hm
          simp only [docC, docV] at HWA HX CM HO
          go_wp2_with fail
          refine CM.out.mono ?_
          rintro e w2 ⟨rfl, hb2⟩
          have hx2 := (hb2.block _ (by simp)).trans HX.out
          have q0 : w2.cell? ⟨wr.heap.size, 0, none⟩ = some (.string d.id) := by simp [World.cell?, hx2]
          have q1 : w2.cell? ⟨wr.heap.size, 1, none⟩ = some (.string d.t0) := by simp [World.cell?, hx2]
          have q2 : w2.cell? ⟨wr.heap.size, 2, none⟩ = some (.string d.t1) := by simp [World.cell?, hx2]
          have q3 : w2.cell? ⟨wr.heap.size, 3, none⟩ = some (.string d.t2) := by simp [World.cell?, hx2]
          have q4 : w2.cell? ⟨wr.heap.size, 4, none⟩ = some (.string d.t3) := by simp [World.cell?, hx2]
          have HW2 := Lib.hid (below_next HWA.out hb2)
          have HO2 := Lib.hid (own_below HO.out hb2)
          have HZ2 := Lib.hid HW2.out.size
          have HAL : Hid (Below w2.heap.size w2 (w2.alloc (.cells #[.string d.id, .string d.t0, .string d.t1, .string d.t2, .string d.t3] 33))) := (Below.refl _ _).alloc (Nat.le_refl _) _
          clear hb2 hx2 CM z0 z1 z2 z3 z4
          go_wp2_with (at_builtin; go_loud (refine wpList_app_own _ rfl (.tmp 22) (.tmp 24) 23 rfl w.heap.size 33 (.agg #[.string { data := #[] }, .string { data := #[] }, .string { data := #[] }, .string { data := #[] }, .string { data := #[] }]) 5 80 Tryd.underlying23 inf_doc rfl (by decide) _ fs.length (dCells fs) rfl (own_below HO2.out HAL.out) _ 1 1 [.string d.id, .string d.t0, .string d.t1, .string d.t2, .string d.t3] rfl (sl_lit2 _ #[.string d.id, .string d.t0, .string d.t1, .string d.t2, .string d.t3] 33 5 1 rfl (by decide)) (by simp [Value.oneCell']) (by unfold maxLen; omega) (by omega) (by have := HZ2.out; simp; omega) ?_))
          intro v3 w3 ho3 hg3 hb3
          have HO3 := Lib.hid ho3
          have HB3 := Lib.hid ((HW2.out.alloc HZ2.out _).trans hb3)
          clear ho3 hg3 hb3 q0 q1 q2 q3 q4
          go_wp2_with fail
          go_roundw
          case rel => exact ⟨i + 1, by omega, by go_num, by rw [HT.out, List.length_append, dCells_append]; exact HO3.out, HB3.out⟩
          case measure => simp [intOf]; omega
        · rw [if_neg hm, List.append_nil] at HT
          have hmf : mayD okT d = false := by simpa using hm
          rw [hmf] at CM
          clear hm hmf
          simp only [docC, docV] at HWA HX CM HO
          go_wp2_with fail
          refine CM.out.mono ?_
          rintro e w2 ⟨rfl, hb2⟩
          have HW2 := Lib.hid (below_next HWA.out hb2)
          have HO2 := Lib.hid (own_below HO.out hb2)
          clear hb2 CM z0 z1 z2 z3 z4
          go_wp2_with fail
          go_roundw
          case rel => exact ⟨i + 1, by omega, by go_num, by rw [HT.out]; exact HO2.out, HW2.out⟩
          case measure => simp [intOf]; omega
      · have ht : l.take i = l := List.take_of_length_le (by rw [HLN.out]; omega)
        rw [ht] at ho
        obtain ⟨A2, c2, rfl, hsl2⟩ := own_form ho
        have HSL2 := Lib.hid hsl2
        have HWL : Hid ((mk8 (writeD okT l)).size ≤ 65536) := by
          show _ ≤ _
          rw [mk8_size]
          have := writeD_len l
          rw [HLN.out] at this
          omega
        have HRD : Hid (readF (by8 (mk8 (writeD okT l))) = (l.filter (mayD okT), none)) := by rw [by8_mk8]; exact readF_write l
        obtain ⟨x, hx⟩ : ∃ x, mk8 (writeD okT l) = x := ⟨_, rfl⟩
        rw [hx] at HWL HRD
        have HXX := Lib.hid hx
        clear ht ho hb hsl2 hx
        go_wp2_with fail
        refine (write_calls wr (HH.out.below HB.out) A n c l (HSL.out.below HB.out) hn2).mono ?_
        rintro e w4 ⟨rfl, hb4⟩
        rw [HXX.out]
        have HB4 := Lib.hid (below_next HB.out hb4)
        have HSL4 := Lib.hid (HSL2.out.below hb4)
        clear hb4
        go_wp2_with fail
        refine (read_calls x HWL.out _ (HH.out.below HB4.out)).mono ?_
        rintro e w5 ⟨hb5, (⟨l1, A1, c1, hr, rfl, hsl1⟩ | ⟨k, hr, rfl⟩)⟩
        · rw [HRD.out] at hr
          obtain rfl := (Prod.mk.inj hr).1
          have HB5 := Lib.hid (below_next HB4.out hb5)
          have HSL5 := Lib.hid (HSL4.out.below hb5)
          have CE := Lib.hid (equal_calls w5 A1 c1 _ hsl1 A2 c2 _ HSL5.out)
          rw [decide_eq_true (rfl : l.filter (mayD okT) = l.filter (mayD okT))] at CE
          clear hb5 hr hsl1
          generalize (l.filter (mayD okT)).length = q at *
          go_wp2_with fail
          refine CE.out.mono ?_
          rintro e w6 ⟨rfl, hb6⟩
          have HB6 := Lib.hid (below_next HB5.out hb6)
          clear hb6 CE
          go_wp2_with fail
          refine (awake_calls _ (HH.out.below HB6.out)).mono ?_
          rintro e w7 ⟨rfl, hb7⟩
          have HB7 := Lib.hid (below_next HB6.out hb7)
          clear hb7
          go_wp2_with fail
          go_ret
          exact ⟨rfl, HB7.out⟩
        · rw [HRD.out] at hr
          cases (Prod.mk.inj hr).2
end Exp
end Go.Proofs.YtfohollhdaedlaaDoor
