/- Terms: may documents be gone through here: the walk of the law's guard short. -/
import Derived.Test.YtfohollhdaedlaaGreatDoorTrm22
import Derived.Test.YtfohollhdaedlaaGreatDoorDocs
set_option linter.unusedVariables false
set_option linter.unusedSimpArgs false
set_option maxRecDepth 100000
namespace Go.Proofs.YtfohollhdaedlaaGreatDoor
open Go.RowKit
namespace Trm
def RDocs (w : World) (v : Value) (ds : List Exp.DocM) : Prop := ∃ A c, v = .slice A ds.length c ∧ IsSl w 5 A ds.length c (Exp.dCells ds)
theorem RDocs.below {w w' : World} {v : Value} {ds : List Exp.DocM} (h : RDocs w v ds) (hb : Below w.heap.size w w') : RDocs w' v ds := by
  obtain ⟨A, c, h1, h2⟩ := h
  exact ⟨A, c, h1, h2.below hb⟩
/-- What the guard holds for sure: few documents. A text may be of any length: the guard counts at most 4800 bytes of each, and lets 4800 pass. -/
def Few (dss : List (List Exp.DocM)) : Prop := (dss.map List.length).sum ≤ 16
theorem sl_at {w : World} {A : Option Addr} {n c : Nat} {l : List Value} (h : IsSl w 1 A n c l) {i : Nat} {x : Value} (hx : l[i]? = some x) : ∃ ad, A = some ad ∧ w.cell? (ad.add i) = some x := by
  have hl := h.1
  rw [Nat.mul_one] at hl
  have hi := (List.getElem?_eq_some_iff.1 hx).1
  obtain ⟨ad, h1, h2⟩ := h.at_ (i := i) (by omega)
  refine ⟨ad, h1, ?_⟩
  rw [h2, List.getD_eq_getElem?_getD, hx]; rfl
set_option maxHeartbeats 16000000 in
theorem short_calls (w : World) (A : Option Addr) (n c : Nat) (ls : List (Value × List Exp.DocM)) (hn : ls.length = n) (h : IsSl w 1 A n c (ls.map (·.1))) (hr : ∀ x ∈ ls, RDocs w x.1 x.2) :
    Calls Tryz.prog 4 #[.slice A n c] w fun e w' => (∃ b, e = .returned (.bool b) ∧ (b = true → Few (ls.map (·.2)))) ∧ Below w.heap.size w w' := by
  have H := Lib.hid h
  have HR := Lib.hid hr
  have hnc := h.2.1
  have hcm := h.2.2.1
  unfold maxLen at hcm
  have HN := Lib.hid hn
  clear h hr hn
  go_enter Tryz.func4, Tryz.ntmps4
  go_wp2_with fail
  go_loopw [3, 4, 13] (fun a b ix wr => ∃ (i k q : Nat), i ≤ n ∧ ix = .int .i64 i ∧ a = .int .i64 k ∧ b = .int .i64 q ∧ k ≤ 16 ∧ q ≤ 4800 ∧ ((ls.take i).map fun x => x.2.length).sum = k ∧ Below w.heap.size w wr) (fun _ _ ix _ => n - (intOf ix).toNat)
  case atStart => exact ⟨0, 0, 0, Nat.zero_le _, rfl, rfl, rfl, by omega, by omega, rfl, Below.refl _ _⟩
  case round =>
    obtain ⟨i, k, q, hi, rfl, rfl, rfl, hk, hq, hsum, hb⟩ := hrel
    have HB := Lib.hid hb
    have HSM := Lib.hid hsum
    by_cases hlt : i < n
    · obtain ⟨x, hx⟩ : ∃ x, ls[i]? = some x := ⟨_, List.getElem?_eq_getElem (by rw [HN.out]; exact hlt)⟩
      obtain ⟨ad, rfl, z0⟩ := sl_at (H.out.below hb) (i := i) (x := x.1) (by rw [List.getElem?_map, hx]; rfl)
      obtain ⟨DA, dc, hv, hds⟩ := (HR.out x (List.mem_of_getElem? hx)).below hb
      rw [hv] at z0
      obtain ⟨N, hN⟩ : ∃ N, x.2.length = N := ⟨_, rfl⟩
      rw [hN] at z0 hds
      have hNc := hds.2.1
      have hNm := hds.2.2.1
      unfold maxLen at hNm
      have HDS := Lib.hid hds
      have HNN := Lib.hid hN
      have HTK : Hid (ls.take (i + 1) = ls.take i ++ [x]) := by show _ = _; rw [List.take_add_one, hx]; rfl
      clear hx hv hds hN hb hsum
      obtain ⟨wz, hwz⟩ : ∃ wz, wz = wr := ⟨_, rfl⟩
      subst hwz
      obtain ⟨q0, hq0⟩ : ∃ q0, q0 = q := ⟨_, rfl⟩
      subst hq0
      go_wp2_with fail
      · go_ret
        exact ⟨⟨false, rfl, fun h => by cases h⟩, HB.out⟩
      · rename_i hle
        have hN16 : N ≤ 16 := by omega
        have hmin : min (N : Int) 30 = (N : Int) := by omega
        rw [hmin] at hle ⊢
        have hkN : k + N ≤ 16 := by omega
        clear hmin
        go_loopw [4, 26] (fun b ix wr => ∃ (j q : Nat), j ≤ N ∧ ix = .int .i64 j ∧ b = .int .i64 q ∧ q ≤ 4800 ∧ Below wz.heap.size wz wr) (fun _ ix _ => N - (intOf ix).toNat)
        case atStart => exact ⟨0, q0, Nat.zero_le _, rfl, rfl, hq, Below.refl _ _⟩
        case round =>
          obtain ⟨j, q, hj, rfl, rfl, hq2, hb2⟩ := hrel
          have HB2 := Lib.hid hb2
          by_cases hjN : j < N
          · obtain ⟨d, hd⟩ : ∃ d, x.2[j]? = some d := ⟨_, List.getElem?_eq_getElem (by rw [HNN.out]; exact hjN)⟩
            obtain ⟨bb, oo, rfl, e0, e1, e2, e3, e4⟩ := Exp.d_at (HDS.out.below hb2) hd
            have HT2 : Hid (x.2.take (j + 1) = x.2.take j ++ [d]) := by show _ = _; rw [List.take_add_one, hd]; rfl
            have HIX := Lib.hid (Exp.idx_arr d)
            obtain ⟨w0, hw0⟩ : ∃ w0, wr.alloc (.cells #[.string d.id, .string d.t0, .string d.t1, .string d.t2, .string d.t3] 27) = w0 := ⟨_, rfl⟩
            have hb0 : Below wr.heap.size wr w0 := by rw [← hw0]; exact (Below.refl _ _).alloc (Nat.le_refl _) _
            have k0 : w0.cell? ⟨wr.heap.size, 0, none⟩ = some (.string d.id) := by rw [← hw0]; exact cell_new _ _ _ _ 0
            have k1 : w0.cell? ⟨wr.heap.size, 1, none⟩ = some (.string d.t0) := by rw [← hw0]; exact cell_new _ _ _ _ 1
            have k2 : w0.cell? ⟨wr.heap.size, 2, none⟩ = some (.string d.t1) := by rw [← hw0]; exact cell_new _ _ _ _ 2
            have k3 : w0.cell? ⟨wr.heap.size, 3, none⟩ = some (.string d.t2) := by rw [← hw0]; exact cell_new _ _ _ _ 3
            have k4 : w0.cell? ⟨wr.heap.size, 4, none⟩ = some (.string d.t3) := by rw [← hw0]; exact cell_new _ _ _ _ 4
            have HW0 := Lib.hid hw0
            have HB0 := Lib.hid (below_next HB2.out hb0)
            have hwj : IntKind.i64.wrap ((j : Int) + 1) = (j : Int) + 1 := by rw [IntKind.wrap_i64]; omega
            clear hd hb2 hb0 hw0
            go_wp2_with fail
            rw [HW0.out]
            clear k0 k1 k2 k3 k4 e0 e1 e2 e3 e4
            obtain ⟨wy, hwy⟩ : ∃ wy, wy = wr := ⟨_, rfl⟩
            subst hwy
            obtain ⟨q1, hq1⟩ : ∃ q1, q1 = q := ⟨_, rfl⟩
            subst hq1
            go_loopw [4, 32] (fun b ix wr => ∃ (t q : Nat), t ≤ 4 ∧ ix = .int .i64 t ∧ b = .int .i64 q ∧ q ≤ 4800 ∧ Below w0.heap.size w0 wr) (fun _ ix _ => 4 - (intOf ix).toNat)
            case atStart => exact ⟨0, q1, Nat.zero_le _, rfl, rfl, hq2, Below.refl _ _⟩
            case round =>
              obtain ⟨t, q, ht, rfl, rfl, hq3, hb3⟩ := hrel
              have HB3 := Lib.hid hb3
              have HBF := Lib.hid (below_next HB.out (below_next HB0.out hb3))
              clear hb3
              by_cases ht4 : t < 4
              · have hix := fun W => HIX.out t ht4 W
                obtain ⟨y, hy⟩ : ∃ y, d.get t = y := ⟨_, rfl⟩
                rw [hy] at hix
                have HY := Lib.hid hy
                clear hy
                obtain ⟨L, hL⟩ : ∃ L, y.size = L := ⟨_, rfl⟩
                have HLL := Lib.hid hL
                have hwt : IntKind.i64.wrap ((t : Int) + 1) = (t : Int) + 1 := by rw [IntKind.wrap_i64]; omega
                clear hL
                go_wp2_with fail
                · go_ret
                  exact ⟨⟨false, rfl, fun h => by cases h⟩, HBF.out⟩
                · rename_i hle2
                  obtain ⟨M, hM⟩ : ∃ M : Nat, min (y.size : Int) 4800 = (M : Int) := ⟨min y.size 4800, by omega⟩
                  rw [hM]
                  rw [hM] at hle2
                  go_roundw
                  case rel => exact ⟨t + 1, q + M, by omega, by go_num, by go_num, by omega, HB3.out⟩
                  case measure => simp [intOf]; omega
              · obtain rfl : t = 4 := by omega
                have HB4 := Lib.hid (below_next HB0.out HB3.out)
                go_wp2_with fail
                go_roundw
                case rel => exact ⟨j + 1, q, by omega, by go_num, rfl, hq3, HB4.out⟩
                case measure => simp [intOf]; omega
          · obtain rfl : j = N := by omega
            have HB4 := Lib.hid (below_next HB.out HB2.out)
            have HTA : Hid (x.2.take j = x.2) := List.take_of_length_le (by rw [HNN.out]; exact Nat.le_refl _)
            clear hb2
            go_wp2_with fail
            go_roundw
            case rel => exact ⟨i + 1, k + j, q, by omega, by go_num, by go_num, rfl, hkN, hq2, (by
              rw [HTK.out, List.map_append, List.sum_append, HSM.out]
              simp [HNN.out]), HB4.out⟩
            case measure => simp [intOf]; omega
    · obtain rfl : i = n := by omega
      have HTA : Hid (ls.take i = ls) := List.take_of_length_le (by rw [HN.out]; exact Nat.le_refl _)
      clear hb hsum
      go_wp2_with fail
      go_ret
      refine ⟨⟨true, rfl, fun _ => ?_⟩, HB.out⟩
      have h := HSM.out
      rw [HTA.out] at h
      unfold Few
      rw [List.map_map]
      show (ls.map fun x => x.2.length).sum ≤ 16
      omega
end Trm
end Go.Proofs.YtfohollhdaedlaaGreatDoor
