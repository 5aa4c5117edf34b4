/- Export: two lists of documents held against each other. -/
import Derived.Test.YtfohollhdaedlaaDoorExp19
import Derived.Laws.StructEq
import Derived.ChangeKeysEq
set_option linter.unusedVariables false
set_option linter.unusedSimpArgs false
set_option maxRecDepth 100000
namespace Go.Proofs.YtfohollhdaedlaaDoor
open Go.RowKit
namespace Exp
theorem cells_str : Tryd.prog.cellsOf 9 = 1 := by kernel_rfl
theorem neq_doc (d e : DocM) (w : World) : (binOp .neq 33 (docV d) (docV e)).run Tryd.prog w = .ok (.bool (!((d.id.toList == e.id.toList) && (d.t0.toList == e.t0.toList) && (d.t1.toList == e.t1.toList) && (d.t2.toList == e.t2.toList) && (d.t3.toList == e.t3.toList)))) w := by
  have hS : Tryd.prog.underlying 33 = some (.struct (Tryd.prog.fieldsOf 33)) := by kernel_rfl
  have hp : Tryd.prog.stoodInHeld 33 = false := by kernel_rfl
  obtain ⟨i0, hi0, hz0, hz1, hz2⟩ := info_parts inf_str
  have hA : ∀ (xs ys : Array Value) (w : World), (Op.equalIn 9999 31 (.agg xs) (.agg ys)).run Tryd.prog w = (Op.eqItems 9998 9 1 xs ys [0, 1, 2, 3]).run Tryd.prog w := fun xs ys w => by
    have := run_equalIn_array (P := Tryd.prog) (w := w) 9998 xs ys (t := 31) (e := 9) (n := 4) Tryd.underlying31 hi0
    rw [cells_str] at this
    exact this
  obtain ⟨d0, d1, d2, d3, d4⟩ := d
  obtain ⟨e0, e1, e2, e3, e4⟩ := e
  simp only [docV, docC]
  rw [run_neq_struct, show (10000 : Nat) = 9999 + 1 from rfl, run_equalIn_agg w 9999 33 _ _ hS hp]
  simp only [Program.fieldsOf, Tryd.underlying33]
  go_simp
  simp only [Op.eqItems]
  go_simp
  by_cases h0 : d0.toList = e0.toList <;> by_cases h1 : d1.toList = e1.toList <;> by_cases h2 : d2.toList = e2.toList <;> by_cases h3 : d3.toList = e3.toList <;> by_cases h4 : d4.toList = e4.toList <;> simp [h0, h1, h2, h3, h4]
theorem guard_doc (xs ys : Array Value) (x y : Operand) (w : World) : (eqGuard .neq 33 x y (.agg xs) (.agg ys)).run Tryd.prog w = .ok () w := run_eqGuard_agg w .neq 33 x y xs ys (by kernel_rfl)
theorem str_eq {a b : ByteArray} : (a.toList == b.toList) = decide (a = b) := toList_beq a b
instance : DecidableEq DocM := fun a b => decidable_of_iff (a.id = b.id ∧ a.t0 = b.t0 ∧ a.t1 = b.t1 ∧ a.t2 = b.t2 ∧ a.t3 = b.t3) (by
  obtain ⟨a0, a1, a2, a3, a4⟩ := a
  obtain ⟨b0, b1, b2, b3, b4⟩ := b
  simp [DocM.mk.injEq])
theorem bdrewN {B n : Nat} {w w1 : World} (h : Below B w w1) : Below B w (w1.drewN n) := ⟨h.os, h.tape, h.output, h.size, h.block⟩
theorem neq_doc2 (d e : DocM) (b : Bool) (hb : decide (d = e) = b) (w : World) : (binOp .neq 33 (.agg #[.string d.id, .string d.t0, .string d.t1, .string d.t2, .string d.t3]) (.agg #[.string e.id, .string e.t0, .string e.t1, .string e.t2, .string e.t3])).run Tryd.prog w = .ok (.bool (!b)) w := by
  have h := neq_doc d e w
  simp only [docV, docC] at h
  rw [h, ← hb]
  congr 2
  congr 1
  obtain ⟨d0, d1, d2, d3, d4⟩ := d
  obtain ⟨e0, e1, e2, e3, e4⟩ := e
  simp only [str_eq, DocM.mk.injEq]
  simp [Bool.decide_and, Bool.and_assoc]
set_option maxHeartbeats 8000000 in
theorem equal_calls (w : World) (A : Option Addr) (c : Nat) (xs : List DocM) (hx : IsSl w 5 A xs.length c (dCells xs)) (B : Option Addr) (e : Nat) (ys : List DocM) (hy : IsSl w 5 B ys.length e (dCells ys)) :
    Calls Tryd.prog 16 #[.slice A xs.length c, .slice B ys.length e] w fun r w' => r = .returned (.bool (decide (xs = ys))) ∧ Below w.heap.size w w' := by
  have h1 := hx.2.1
  have h2 := hx.2.2.1
  have h3 := hy.2.1
  have h4 := hy.2.2.1
  unfold maxLen at h2 h4
  by_cases hl : xs.length = ys.length
  · have HX := Lib.hid hx
    have HY := Lib.hid hy
    have HLY : Hid (ys.length = xs.length) := hl.symm
    rw [← hl] at h3 ⊢
    obtain ⟨n, hn⟩ : ∃ n, xs.length = n := ⟨_, rfl⟩
    have HN := Lib.hid hn
    rw [hn] at h1 h3 ⊢
    rw [hn] at HX HLY
    rw [← hl, hn] at HY
    clear hn hl hx hy
    go_enter Tryd.func16, Tryd.ntmps16
    go_wp2_with fail
    go_loopw [13] (fun ix wr => ∃ i : Nat, i ≤ n ∧ ix = .int .i64 i ∧ Hid (∀ j, j < i → xs[j]? = ys[j]?) ∧ Below w.heap.size w wr) (fun ix _ => n - (intOf ix).toNat)
    case atStart => exact ⟨0, Nat.zero_le _, rfl, fun j hj => absurd hj (Nat.not_lt_zero j), Below.refl _ _⟩
    case round =>
      obtain ⟨i, hi, rfl, HV, hb⟩ := hrel
      have HB := Lib.hid hb
      clear hb
      by_cases hlt : i < n
      · obtain ⟨x, hx⟩ : ∃ x, xs[i]? = some x := ⟨_, List.getElem?_eq_getElem (by rw [HN.out]; exact hlt)⟩
        obtain ⟨y, hy⟩ : ∃ y, ys[i]? = some y := ⟨_, List.getElem?_eq_getElem (by rw [HLY.out]; exact hlt)⟩
        obtain ⟨ab, ao, rfl, z0, z1, z2, z3, z4⟩ := d_at (HX.out.below HB.out) hx
        obtain ⟨bb, bo, rfl, y0, y1, y2, y3, y4⟩ := d_at (HY.out.below HB.out) hy
        obtain ⟨b, hb⟩ : ∃ b, decide (x = y) = b := ⟨_, rfl⟩
        have heq := neq_doc2 x y b hb
        have hgu := guard_doc
        have HXX := Lib.hid hx
        have HYY := Lib.hid hy
        have HBB := Lib.hid hb
        clear hx hy hb
        cases b
        · have HR : Hid (decide (xs = ys) = false) := by
            show _ = _
            rw [decide_eq_false_iff_not]
            rintro rfl
            have := of_decide_eq_false HBB.out
            rw [HXX.out] at HYY
            exact this (Option.some.inj HYY.out)
          go_wp2_with fail
          go_quiet (fail)
          go_wp2_with fail
          go_ret
          exact ⟨ret_bool HR.out.symm, bdrewN HB.out⟩
        · have HN1 : Hid (∀ j, j < i + 1 → xs[j]? = ys[j]?) := fun j hj => by
            by_cases e : j = i
            · rw [e, HXX.out, HYY.out, of_decide_eq_true HBB.out]
            · exact HV.out j (by omega)
          go_wp2_with fail
          go_quiet (fail)
          go_wp2_with fail
          go_roundw
          case rel => exact ⟨i + 1, by omega, by go_num, HN1, bdrewN HB.out⟩
          case measure => simp [intOf]; omega
      · have HR : Hid (decide (xs = ys) = true) := by
          show _ = _
          rw [decide_eq_true_iff]
          apply List.ext_getElem?
          intro j
          by_cases hj : j < n
          · exact HV.out j (by omega)
          · rw [List.getElem?_eq_none (by rw [HN.out]; omega), List.getElem?_eq_none (by rw [HLY.out]; omega)]
        go_wp2_with fail
        go_ret
        exact ⟨ret_bool HR.out.symm, HB.out⟩
  · have HR : Hid (decide (xs = ys) = false) := by
      show _ = _
      rw [decide_eq_false_iff_not]
      rintro rfl
      exact hl rfl
    have hne : ((xs.length : Int) != ys.length) = true := by simp; omega
    have hne2 : (xs.length != ys.length) = true := by simpa using hl
    clear hx hy hl
    generalize xs.length = n at *
    generalize ys.length = m at *
    go_enter Tryd.func16, Tryd.ntmps16
    go_wp2_with fail
    go_ret
    exact ⟨ret_bool HR.out.symm, Below.refl _ _⟩
end Exp
end Go.Proofs.YtfohollhdaedlaaDoor
