/- Export: Write. -/
import Derived.Test.YtfohollhdaedlaaDoorExp6
import Derived.Deep.RegionHeld3
import Derived.Shelf.Strings.BuilderK
set_option linter.unusedVariables false
set_option linter.unusedSimpArgs false
set_option maxRecDepth 100000
namespace Go.Proofs.YtfohollhdaedlaaDoor
open Go.RowKit
namespace Exp
/-- A builder, whatever of it is frozen. -/
def IsBF (B b : Nat) (l : B8) (w : World) : Prop := Lib.IsBuilderF 75 5 B b (Lib.byteCells l) w
theorem IsB.f {B b : Nat} {l : B8} {w : World} (h : IsB B b l w) : IsBF B b l w := Lib.IsBuilderF.of h
theorem ownF_below {w w' : World} {base : Nat} {e : TypeId} {size n : Nat} {v : Value} {xs : List Value} (h : w.ownsRowF base e size v n xs) (hb : Below w.heap.size w w') : w'.ownsRowF base e size v n xs := by
  refine ⟨h.1, ?_⟩
  rcases h.2 with hn | ⟨g, cap, cur, fz, hv, hbs, hg, rest⟩
  · exact .inl hn
  · exact .inr ⟨g, cap, cur, fz, hv, hbs, (hb.block g (Array.getElem?_eq_some_iff.1 hg).1).trans hg, rest⟩
theorem IsBF.below {B b : Nat} {l : B8} {w w' : World} (h : IsBF B b l w) (hb : Below w.heap.size w w') : IsBF B b l w' := by
  rcases h with ⟨hB, v, h1, h2, h3⟩ | ⟨hB, v, h1, h2, h3⟩
  · exact .inl ⟨hB, v, (hb.block b (Array.getElem?_eq_some_iff.1 h1).1).trans h1, ownF_below h2 hb, h3⟩
  · exact .inr ⟨hB, v, (hb.block b (Array.getElem?_eq_some_iff.1 h1).1).trans h1, ownF_below h2 hb, h3⟩
/-- What is no row of bytes, and not the builder's block, stays as it is. -/
def Kept (b : Nat) (w w' : World) : Prop := Lib.OthersKept 5 (some b) w w'
theorem Kept.at_ {b : Nat} {w w' : World} (h : Kept b w w') {k : Nat} {cs : Array Value} {t : TypeId} {fr : Nat × Nat} (hk : w.heap[k]? = some (.cells cs t fr)) (hb : k ≠ b) (ht : t ≠ 5) : w'.heap[k]? = some (.cells cs t fr) :=
  h k _ hk (fun e => hb (Option.some.inj e)) (fun c fz e => ht (by cases e; rfl))
theorem wStrK {B b : Nat} {l : B8} {w : World} (s : ByteArray) (h : IsBF B b l w) (hlen : l.length + s.size ≤ 140737488355328) (hB : B ≤ w.heap.size) :
    Calls Tryd.prog 41 #[.pointer (some ⟨b, 0, none⟩), .string s] w fun e w' => e = .returned (.tuple #[.int .i64 s.size, .nilIface]) ∧ IsBF B b (l ++ by8 s) w' ∧ Below B w w' ∧ Kept b w w' :=
  (Go.Proofs.Any.Builder_WriteString_k lays_n166 extra B b (Lib.byteCells l) s w h (by rw [Lib.byteCells_length]; exact hlen) hB).mono fun e w' ⟨h1, h2, h3, h4⟩ => ⟨h1, .inr (by
    have e : Lib.byteCells l ++ Lib.strCells s = Lib.byteCells (l ++ by8 s) := by simp [Lib.byteCells, Lib.strCells]
    rw [e] at h2; exact h2), h3, h4⟩
theorem bStrK {B b : Nat} {l : B8} {w : World} (h : IsBF B b l w) (hB : B ≤ w.heap.size) :
    Calls Tryd.prog 43 #[.pointer (some ⟨b, 0, none⟩)] w fun e w' => e = .returned (.string (mk8 l)) ∧ Below B w w' :=
  (Go.Proofs.Any.Builder_String_any_k lays_n169 extra B b l w h hB).mono fun e w' ⟨h1, _, h3, _⟩ => ⟨h1, h3⟩
theorem by8_app (a b : ByteArray) : by8 (a ++ b) = by8 a ++ by8 b := by
  show (a ++ b).data.toList = _
  simp
/-- The lines of a document's first fields. -/
def fl (d : DocM) : Nat → B8
  | 0 => []
  | j + 1 => fl d j ++ fieldLine d j
theorem docLines_fl (d : DocM) : docLines d = docHead ++ by8 d.id ++ [10] ++ fl d 4 := by
  simp [docLines, fl, List.append_assoc]
theorem writeD_take (l : List DocM) {i : Nat} {d : DocM} (h : l[i]? = some d) : writeD okT (l.take (i + 1)) = writeD okT (l.take i) ++ (if mayD okT d then docLines d else []) := by
  unfold writeD
  rw [List.take_add_one, h, List.filter_append, List.flatMap_append]
  congr 1
  by_cases hm : mayD okT d = true
  · simp [hm]
  · simp [hm]
theorem fieldLine_len (d : DocM) (j : Nat) (h : (d.get j).size ≤ 160) : (fieldLine d j).length ≤ 330 := by
  unfold fieldLine
  split
  · exact Nat.zero_le _
  · have h1 := esc_len (d.get j).data.toList
    have h2 : (d.get j).data.toList.length = (d.get j).size := by8_len _
    have h3 : (head j).length ≤ 6 := by
      unfold head
      split
      · decide
      · split
        · decide
        · split <;> decide
    rw [List.length_append, List.length_append]
    have h4 : ([10] : B8).length = 1 := rfl
    omega
theorem fl_len (d : DocM) (h : ∀ j, j < 4 → (d.get j).size ≤ 160) : ∀ j, j ≤ 4 → (fl d j).length ≤ 330 * j
  | 0, _ => Nat.le_refl _
  | j + 1, hj => by
    have h1 := fl_len d h j (by omega)
    have h2 := fieldLine_len d j (h j (by omega))
    show (fl d j ++ fieldLine d j).length ≤ _
    rw [List.length_append]; omega
theorem id_len {s : B8} (h : nameOk s = true) : s.length ≤ 12 := by
  unfold nameOk at h
  rw [Bool.and_eq_true, decide_eq_true_iff] at h
  exact h.1.2
set_option maxHeartbeats 8000000 in
theorem write_calls (w : World) (hH : LaidH w) (A : Option Addr) (n c : Nat) (l : List DocM) (hsl : IsSl w 5 A n c (dCells l)) (hn : n ≤ 1000000) :
    Calls Tryd.prog 12 #[.slice A n c] w fun e w' => e = .returned (.string (mk8 (writeD okT l))) ∧ Below w.heap.size w w' := by
  have hnc := hsl.2.1
  have hcm := hsl.2.2.1
  unfold maxLen at hcm
  have HLN : Hid (l.length = n) := by have := hsl.1; rw [dCells_length] at this; show _ = _; omega
  have HSL := Lib.hid hsl
  have HH := Lib.hid hH
  have HI := Lib.hid (IsB.new w).f
  have HW : Hid (Below w.heap.size w (w.alloc (.cells #[.pointer none, .slice none 0 0] 75))) := (Below.refl _ _).alloc (Nat.le_refl _) _
  clear hsl hH
  go_enter Tryd.func12, Tryd.ntmps12
  go_wp2_with fail
  go_loopw [10] (fun ix wr => ∃ i : Nat, i ≤ n ∧ ix = .int .i64 i ∧ IsBF w.heap.size w.heap.size (writeD okT (l.take i)) wr ∧ Below w.heap.size w wr ∧ (writeD okT (l.take i)).length ≤ 1400 * i) (fun ix _ => n - (intOf ix).toNat)
  case atStart => exact ⟨0, Nat.zero_le _, rfl, HI.out, HW.out, Nat.zero_le _⟩
  case round =>
    clear HI HW
    obtain ⟨i, hi, rfl, hb, hw, hlen⟩ := hrel
    have HB := Lib.hid hb
    have HW := Lib.hid hw
    have HLE := Lib.hid hlen
    clear hb hw hlen
    by_cases hlt : i < n
    · obtain ⟨d, hd⟩ : ∃ d, l[i]? = some d := ⟨_, List.getElem?_eq_getElem (by rw [HLN.out]; exact hlt)⟩
      have HT := Lib.hid (writeD_take l hd)
      obtain ⟨ab, ao, rfl, z0, z1, z2, z3, z4⟩ := d_at (HSL.out.below HW.out) hd
      clear hd
      have hba : Below wr.heap.size wr (wr.alloc (.cells (docC d) 33)) := (Below.refl _ _).alloc (Nat.le_refl _) _
      have HBA := Lib.hid (HB.out.below hba)
      have HWA := Lib.hid (below_next HW.out hba)
      have HX := Lib.hid (heap_alloc_new wr (.cells (docC d) 33))
      have CM := Lib.hid (may_calls d (wr.alloc (.cells (docC d) 33)))
      clear hba
      by_cases hm : mayD okT d = true
      · rw [hm] at CM
        rw [if_pos hm] at HT
        obtain ⟨hg, hnm⟩ := (mayD_get d).1 hm
        have HG := Lib.hid (fun j hj => okT_size (hg j hj))
        have HNM := Lib.hid (id_len hnm)
        have HIX := Lib.hid (idx_arr d)
        have hidl : d.id.size ≤ 12 := by rw [← by8_len]; exact id_len hnm
        clear hg hnm hm
        obtain ⟨id, t0, t1, t2, t3⟩ := d
        simp only [docC, docV] at HBA HWA HX CM hidl z0 z1 z2 z3 z4
        go_wp2_with fail
        refine CM.out.mono ?_
        rintro e w2 ⟨rfl, hb2⟩
        have hx2 := (hb2.block _ (by simp)).trans HX.out
        have q0 : w2.cell? ⟨wr.heap.size, 0, none⟩ = some (.string id) := by simp [World.cell?, hx2]
        have q1 : w2.cell? ⟨wr.heap.size, 1, none⟩ = some (.string t0) := by simp [World.cell?, hx2]
        have q2 : w2.cell? ⟨wr.heap.size, 2, none⟩ = some (.string t1) := by simp [World.cell?, hx2]
        have q3 : w2.cell? ⟨wr.heap.size, 3, none⟩ = some (.string t2) := by simp [World.cell?, hx2]
        have q4 : w2.cell? ⟨wr.heap.size, 4, none⟩ = some (.string t3) := by simp [World.cell?, hx2]
        have HX2 := Lib.hid hx2
        have HB2 := Lib.hid (HBA.out.below hb2)
        have HW2 := Lib.hid (below_next HWA.out hb2)
        clear hb2 hx2
        go_wp2_with fail
        have hlen : Hid ((writeD okT (l.take i) ++ (docHead ++ by8 id ++ [10])).length ≤ 1400 * i + 17) := by
          have h1 := HLE.out
          have h2 := HNM.out
          show _ ≤ _
          rw [List.length_append, List.length_append, List.length_append]
          have h3 : docHead.length = 4 := rfl
          have h4 : ([10] : B8).length = 1 := rfl
          omega
        have C1 := Lib.hid (wStrK ({ data := #[100, 111, 99, 32] } ++ id ++ { data := #[10] }) HB2.out (by
          have h1 := HLE.out
          have h2 := by8_len ({ data := #[100, 111, 99, 32] } ++ id ++ { data := #[10] })
          rw [by8_app, by8_app, List.length_append, List.length_append] at h2
          have h5 := HNM.out
          have h3 : (by8 { data := #[100, 111, 99, 32] }).length = 4 := rfl
          have h4 : (by8 { data := #[10] }).length = 1 := rfl
          omega) HW2.out.size)
        rw [by8_app, by8_app] at C1
        refine C1.out.mono ?_
        rintro e w3 ⟨rfl, hb3, hw3, hk3⟩
        have HB3 : Hid (IsBF w.heap.size w.heap.size (writeD okT (l.take i) ++ (docHead ++ by8 id ++ [10])) w3) := hb3
        have HW3 := Lib.hid (HW2.out.trans hw3)
        have hbl : w.heap.size < wr.heap.size := by
          obtain ⟨hB, v, h1, _⟩ | ⟨hB, v, h1, _⟩ := HB.out
          · exact (Array.getElem?_eq_some_iff.1 h1).1
          · exact (Array.getElem?_eq_some_iff.1 h1).1
        have hx3 := hk3.at_ HX2.out (by omega) (by decide)
        have q1 : w3.cell? ⟨wr.heap.size, 1, none⟩ = some (.string t0) := by simp [World.cell?, hx3]
        have q2 : w3.cell? ⟨wr.heap.size, 2, none⟩ = some (.string t1) := by simp [World.cell?, hx3]
        have q3 : w3.cell? ⟨wr.heap.size, 3, none⟩ = some (.string t2) := by simp [World.cell?, hx3]
        have q4 : w3.cell? ⟨wr.heap.size, 4, none⟩ = some (.string t3) := by simp [World.cell?, hx3]
        clear hb3 hw3 hk3 hx3 hbl C1
        have HHH := Lib.hid (fun W (hW : Below w.heap.size w W) => HH.out.below hW)
        go_wp2_with fail
        obtain ⟨wz, hwz⟩ : ∃ wz, wz = wr := ⟨_, rfl⟩
        subst hwz
        go_loopw [24] (fun jx wr => ∃ j : Nat, j ≤ 4 ∧ jx = .int .i64 j ∧ IsBF w.heap.size w.heap.size ((writeD okT (l.take i) ++ (docHead ++ by8 id ++ [10])) ++ fl ⟨id, t0, t1, t2, t3⟩ j) wr ∧ Below w.heap.size w wr) (fun jx _ => 4 - (intOf jx).toNat)
        case atStart => exact ⟨0, Nat.zero_le _, rfl, by show IsBF _ _ (_ ++ []) _; rw [List.append_nil]; exact HB3.out, HW3.out⟩
        case round =>
          clear HB3 HW3 HB2 HW2 HX2 q0 q1 q2 q3 q4
          obtain ⟨j, hj, rfl, hb, hw⟩ := hrel
          have HBJ := Lib.hid hb
          have HWJ := Lib.hid hw
          clear hb hw
          by_cases hj4 : j < 4
          · have hix := fun W => HIX.out j hj4 W
            obtain ⟨x, hx⟩ : ∃ x, DocM.get ⟨id, t0, t1, t2, t3⟩ j = x := ⟨_, rfl⟩
            have hxs : x.size ≤ 160 := by rw [← hx]; exact HG.out j hj4
            rw [hx] at hix
            have HXX := Lib.hid hx
            clear hx
            by_cases hx0 : by8 x = []
            · have e1 : x.toList.isEmpty = true := by rw [ByteArray.toList_eq]; exact List.isEmpty_iff.2 hx0
              have e2 : (x.toList == []) = true := by rw [ByteArray.toList_eq]; exact beq_iff_eq.2 hx0
              have e3 : (x.toList != []) = false := by rw [bne, e2]; rfl
              have HF : Hid (fl ⟨id, t0, t1, t2, t3⟩ (j + 1) = fl ⟨id, t0, t1, t2, t3⟩ j) := by
                show fl _ j ++ fieldLine _ j = _
                unfold fieldLine
                rw [HXX.out, if_pos hx0, List.append_nil]
              clear hx0
              go_wp2_with fail
              go_roundw
              case rel => exact ⟨j + 1, by omega, by go_num, by rw [HF.out]; exact HBJ.out, HWJ.out⟩
              case measure => simp [intOf]; omega
            · have e1 : x.toList.isEmpty = false := by rw [ByteArray.toList_eq, Bool.eq_false_iff]; intro h; exact hx0 (List.isEmpty_iff.1 h)
              have e2 : (x.toList == []) = false := by rw [ByteArray.toList_eq, Bool.eq_false_iff]; intro h; exact hx0 (beq_iff_eq.1 h)
              have e3 : (x.toList != []) = true := by rw [bne, e2]; rfl
              have HF : Hid (fl ⟨id, t0, t1, t2, t3⟩ (j + 1) = fl ⟨id, t0, t1, t2, t3⟩ j ++ (head j ++ esc (by8 x) ++ [10])) := by
                show fl _ j ++ fieldLine _ j = _
                unfold fieldLine
                rw [HXX.out, if_neg hx0]
              have HFL := Lib.hid (fl_len ⟨id, t0, t1, t2, t3⟩ HG.out j (by omega))
              have hc := (HHH.out wr HWJ.out).cell j hj4
              obtain ⟨hd, hhd⟩ : ∃ hd, mk8 (head j) = hd := ⟨_, rfl⟩
              obtain ⟨ex, hex⟩ : ∃ ex, mk8 (esc (by8 x)) = ex := ⟨_, rfl⟩
              have hhs : hd.size ≤ 6 := by
                rw [← hhd, mk8_size]; unfold head
                split
                · decide
                · split
                  · decide
                  · split <;> decide
              have hes : ex.size ≤ 320 := by
                rw [← hex, mk8_size]
                have h1 := esc_len (by8 x)
                have h2 := by8_len x
                omega
              have CE : Hid (∀ W : World, Calls Tryd.prog 42 #[.string x] W fun e w' => e = .returned (.string ex) ∧ Below W.heap.size W w') := fun W => by
                rw [← hex]; exact escape_calls x (by omega) W
              have HBD := Lib.hid (HBJ.out.below ((Below.refl _ wr).drew))
              have HWD : Hid (Below w.heap.size w wr.drew) := HWJ.out.trans ⟨rfl, rfl, rfl, Nat.le_refl _, fun _ _ => rfl⟩
              have HSZ : Hid (((writeD okT (l.take i) ++ (docHead ++ by8 id ++ [10])) ++ fl ⟨id, t0, t1, t2, t3⟩ j).length + (hd ++ ex ++ { data := #[10] }).size ≤ 140737488355328) := by
                have h1 := hlen.out
                have h2 := HFL.out
                have h3 := by8_len (hd ++ ex ++ { data := #[10] })
                rw [by8_app, by8_app, List.length_append, List.length_append, by8_len, by8_len] at h3
                have h4 : (by8 { data := #[10] }).length = 1 := rfl
                show _ ≤ _
                rw [List.length_append]
                omega
              have HEQ : Hid (by8 (hd ++ ex ++ { data := #[10] }) = head j ++ esc (by8 x) ++ [10]) := by
                show _ = _
                rw [by8_app, by8_app, ← hhd, ← hex]; rfl
              have hp1 : ¬ 9223372036854775807 < hd.size + ex.size := by omega
              have hp2 : ¬ 9223372036854775807 < hd.size + ex.size + 1 := by omega
              have hp3 : ∀ W, (Op.stringOp .add hd ex).run Tryd.prog W = .ok (.string (hd ++ ex)) W := fun W => run_string_add_sum W hd ex (by omega)
              have hp4 : ∀ W, (Op.stringOp .add (hd ++ ex) { data := #[10] }).run Tryd.prog W = .ok (.string (hd ++ ex ++ { data := #[10] })) W := fun W => run_string_add_sum W _ _ (by rw [ByteArray.size_append]; show _ + 1 ≤ _; omega)
              rw [hhd] at hc
              have HHD := Lib.hid hhd
              clear hx0 hhd hex
              go_wp2_with fail
              go_region_held3 (fun W => W.cell? ⟨0, j, none⟩ = some (.string hd))
                (first
                  | go_keep
                  | (go_split_ands; assumption)
                  | assumption)
                (first
                  | (go_at_call 42
                     refine (CE.out _).mono ?_
                     rintro e w5 ⟨rfl, hb5⟩
                     have hc5 := (hb5.cell (World.block_lt_of_cell? _ _ (show wr.drew.cell? _ = _ from hc))).trans (show wr.drew.cell? _ = _ from hc)
                     have HB5 := Lib.hid (HBD.out.below hb5)
                     have HW5 := Lib.hid (below_next HWD.out hb5)
                     clear hb5)
                  | (go_at_call 41
                     refine (wStrK _ HB5.out HSZ.out HW5.out.size).mono ?_
                     rintro e w6 ⟨rfl, hb6, hw6, hk6⟩
                     have HB6 := Lib.hid hb6
                     have HW6 := Lib.hid (HW5.out.trans hw6)
                     have hc6 := (HHH.out w6 HW6.out).cell j hj4
                     rw [HHD.out] at hc6
                     clear hb6 hw6 hk6))
              all_goals (
                go_wp2_with fail
                go_roundw
                case rel => exact ⟨j + 1, by omega, by go_num, by rw [HF.out, ← List.append_assoc]; have := HB6.out; rw [HEQ.out] at this; exact this, HW6.out⟩
                case measure => simp [intOf]; omega)
          · obtain rfl : j = 4 := by omega
            go_wp2_with fail
            go_roundw
            case rel => exact ⟨i + 1, by omega, by go_num, by rw [HT.out, docLines_fl, ← List.append_assoc]; exact HBJ.out, HWJ.out, by
              rw [HT.out, docLines_fl, ← List.append_assoc]
              show ((writeD okT (l.take i) ++ (docHead ++ by8 id ++ [10])) ++ fl ⟨id, t0, t1, t2, t3⟩ 4).length ≤ _
              rw [List.length_append]
              have h1 := hlen.out
              have h2 := fl_len ⟨id, t0, t1, t2, t3⟩ HG.out 4 (Nat.le_refl _)
              omega⟩
            case measure => simp [intOf]; omega
      · rw [if_neg hm, List.append_nil] at HT
        have hmf : mayD okT d = false := by simpa using hm
        rw [hmf] at CM
        clear hm hmf
        obtain ⟨id, t0, t1, t2, t3⟩ := d
        simp only [docC, docV] at HBA HWA HX CM z0 z1 z2 z3 z4
        go_wp2_with fail
        refine CM.out.mono ?_
        rintro e w2 ⟨rfl, hb2⟩
        have HB2 := Lib.hid (HBA.out.below hb2)
        have HW2 := Lib.hid (below_next HWA.out hb2)
        clear hb2
        go_wp2_with fail
        go_roundw
        case rel => exact ⟨i + 1, by omega, by go_num, by rw [HT.out]; exact HB2.out, HW2.out, by rw [HT.out]; have := HLE.out; omega⟩
        case measure => simp [intOf]; omega
    · have ht : l.take i = l := List.take_of_length_le (by rw [HLN.out]; omega)
      rw [ht] at HB
      have C := Lib.hid (bStrK HB.out HW.out.size)
      clear ht
      go_wp2_with fail
      refine C.out.mono ?_
      rintro e w2 ⟨rfl, hw2⟩
      have HW2 := Lib.hid (HW.out.trans hw2)
      clear hw2
      go_wp2_with fail
      go_ret
      exact ⟨rfl, HW2.out⟩
end Exp
end Go.Proofs.YtfohollhdaedlaaDoor
