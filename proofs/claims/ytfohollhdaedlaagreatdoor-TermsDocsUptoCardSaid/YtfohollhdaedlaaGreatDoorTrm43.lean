/- Terms: the law TermsDocs: the walk. -/
import Derived.Test.YtfohollhdaedlaaGreatDoorTrm42
import Derived.Test.YtfohollhdaedlaaGreatDoorTrm24
import Derived.Deep.RegionHeld3
set_option linter.unusedVariables false
set_option linter.unusedSimpArgs false
set_option maxRecDepth 100000
namespace Go.Proofs.YtfohollhdaedlaaGreatDoor
open Go.RowKit
namespace Trm
open Tok
theorem below_drew0 (w : World) : Below w.heap.size w w.drew := ⟨rfl, rfl, rfl, Nat.le_refl _, fun _ _ => rfl⟩
theorem below_alloc0 {w0 w : World} (h : Below w0.heap.size w0 w) (o : Obj) : Below w0.heap.size w0 (w.alloc o) := h.alloc h.size o
theorem docs_one {w : World} {b : Nat} {d : Exp.DocM} (h : w.heap[b]? = some (.cells (Exp.docC d) 27 (0, 0))) : IsSl w 5 (some ⟨b, 0, none⟩) 1 1 (Exp.dCells [d]) := by
  refine ⟨rfl, Nat.le_refl _, by decide, fun ha => (by cases ha), fun ad ha j u hu => ?_⟩
  obtain rfl := Option.some.inj ha
  rw [Addr.add_lit, Nat.zero_add]
  have hu2 : (Exp.docC d)[j]? = some u := by
    have hu3 : (Exp.docC d).toList[j]? = some u := hu
    rw [← hu3]; simp
  simp only [World.cell?, h]
  simpa using hu2
set_option maxHeartbeats 16000000 in
theorem docs_proof (w : World) (hL : LaidT w) (A : Option Addr) (n c : Nat) (l : List Exp.DocM) (h1 : IsSl w 5 A n c (Exp.dCells l)) (z1 : ∀ d ∈ l, ∀ i, (d.get i).size ≤ 16777216) (f : Int) (hf : -9223372036854775808 ≤ f ∧ f ≤ 9223372036854775807) :
    Calls Tryz.prog 3 #[.slice A n c, .int .i64 f] w fun e w' => e = .returned (.bool true) ∧ Below w.heap.size w w' := by
  have e1 : l.length = n := by have := h1.1; rw [Exp.dCells_length] at this; omega
  have E1 := Lib.hid e1
  have HL := Lib.hid hL
  have H1 := Lib.hid h1
  have Z1 := Lib.hid z1
  have HF := Lib.hid hf
  have hnc := h1.2.1
  have hcm := h1.2.2.1
  unfold maxLen at hcm
  obtain ⟨wA, hwA⟩ : ∃ wA, w.alloc (.cells #[.slice A n c] 22) = wA := ⟨_, rfl⟩
  have hbA : Below w.heap.size w wA := by rw [← hwA]; exact (Below.refl _ _).alloc (Nat.le_refl _) _
  have hslA : IsSl wA 1 (some ⟨w.heap.size, 0, none⟩) 1 1 [.slice A n c] := by
    rw [← hwA]
    exact sl_lit w #[.slice A n c] 22 1 rfl (by decide)
  have CS := Lib.hid (short_calls wA _ 1 1 [(.slice A n c, l)] rfl hslA (fun x hx => by
    rw [List.mem_singleton.1 hx]
    exact ⟨A, c, by rw [e1], by rw [e1]; exact h1.below hbA⟩))
  have HBA := Lib.hid hbA
  have HWA := Lib.hid hwA
  clear hwA hbA hslA hL h1 z1 e1 hf
  go_enter Tryz.func3, Tryz.ntmps3
  go_wp2_with fail
  rw [HWA.out]
  refine CS.out.mono ?_
  rintro e w2 ⟨⟨b, rfl, hfew⟩, hb⟩
  have HB2 := Lib.hid (below_next HBA.out hb)
  clear hb CS
  cases b
  · clear hfew
    go_wp2_with fail
    refine (awake_calls _ (HL.out.below HB2.out)).mono ?_
    rintro e w3 ⟨rfl, hb⟩
    have HB3 := Lib.hid (below_next HB2.out hb)
    clear hb
    go_wp2_with fail
    go_ret
    exact ⟨rfl, HB3.out⟩
  · have hsum : n ≤ 16 := by
      have h := hfew rfl
      unfold Few at h
      simp only [List.map_cons, List.map_nil, List.sum_cons, List.sum_nil] at h
      rw [E1.out] at h
      omega
    clear hfew
    go_wp2_with fail
    go_loopw [14] (fun ix wr => ∃ (i : Nat), i ≤ n ∧ ix = .int .i64 i ∧ Hid (Below w.heap.size w wr)) (fun ix _ => n - (intOf ix).toNat)
    case atStart => exact ⟨0, Nat.zero_le _, rfl, HB2⟩
    case round =>
      obtain ⟨i, hi, rfl, HB⟩ := hrel
      by_cases hlt : i < n
      · obtain ⟨d, hd⟩ : ∃ d, l[i]? = some d := ⟨_, List.getElem?_eq_getElem (by rw [E1.out]; exact hlt)⟩
        obtain ⟨bb, oo, rfl, e0, e1, e2, e3, e4⟩ := Exp.d_at (H1.out.below HB.out) hd
        have hwi : IntKind.i64.wrap ((i : Int) + 1) = (i : Int) + 1 := by rw [IntKind.wrap_i64]; omega
        have hsd := Z1.out d (List.mem_of_getElem? hd)
        obtain ⟨q, hq⟩ : ∃ q, wr.heap.size = q := ⟨_, rfl⟩
        obtain ⟨w4, hw4⟩ : ∃ w4, wr.alloc (.cells (Exp.docC d) 27) = w4 := ⟨_, rfl⟩
        have hb4 : Below wr.heap.size wr w4 := by rw [← hw4]; exact (Below.refl _ _).alloc (Nat.le_refl _) _
        have hx4 : w4.heap[q]? = some (.cells (Exp.docC d) 27 (0, 0)) := by rw [← hw4, ← hq]; exact heap_alloc_new _ _
        have HB4 := Lib.hid (below_next HB.out hb4)
        have CD : Hid (∀ W, Below w4.heap.size w4 W → Calls Tryz.prog 7 #[Exp.docV d, .int .i64 f] W (fun e w' => ∃ v, e = .returned v ∧ RTerms w' v (allT [d] f) ∧ Below W.heap.size W w')) := fun W hW =>
          (doc_own_calls d hsd f W ((HL.out.below HB4.out).below hW)).mono fun e w' ⟨v, ts, h1, h2, h3, _, h4⟩ => by
            have htk : ts.length = (docM d).length := by
              have h5 := congrArg List.length h3.2
              rw [List.length_map] at h5
              rw [h5]; unfold docT; exact List.length_map ..
            rw [← htk] at h2
            rw [docT_allT] at h3
            exact ⟨v, h1, terms_of (rt_own h2) h3, h4⟩
        have CA : Hid (∀ W b, W.heap[b]? = some (.cells (Exp.docC d) 27 (0, 0)) → Calls Tryz.prog 8 #[.slice (some ⟨b, 0, none⟩) 1 1, .int .i64 f] W (fun e w' => ∃ v, e = .returned v ∧ RTerms w' v (allT [d] f) ∧ Below W.heap.size W w')) := fun W b hx =>
          (rall_calls W (some ⟨b, 0, none⟩) 1 1 [d] rfl (docs_one hx) (fun x hx => by rw [List.mem_singleton.1 hx]; exact hsd) (by decide) f (fun j hj => by have := HF.out; rw [IntKind.wrap_i64]; omega)).mono fun e w' ⟨v, ts, h1, h2, h3, h4⟩ => ⟨v, h1, terms_of (rt_own h2) h3, h4⟩
        have CE : Hid (∀ W u v, RTerms W u (allT [d] f) → RTerms W v (allT [d] f) → Calls Tryz.prog 6 #[u, v] W (fun e w' => e = .returned (.bool true) ∧ Below W.heap.size W w')) := fun W u v hu hv => by
          have h := tsame_calls W u v _ _ hu hv
          rwa [decide_eq_true (Eq.refl (allT [d] f))] at h
        have HX4 := Lib.hid hx4
        have HW4 := Lib.hid hw4
        have HK : Hid (∀ W, Below w4.heap.size w4 W → W.heap[q]? = some (.cells (Exp.docC d) 27 (0, 0))) := fun W hW => (hW.block q (Array.getElem?_eq_some_iff.1 hx4).1).trans hx4
        obtain ⟨id, t0, t1, t2, t3⟩ := d
        simp only [Exp.docV, Exp.docC] at CD CA HX4 HW4 HK
        have HS : Hid (∀ W, Below w4.heap.size w4 W → W.cell? ⟨q, 0, none⟩ = some (.string id) ∧ W.cell? ⟨q, 1, none⟩ = some (.string t0) ∧ W.cell? ⟨q, 2, none⟩ = some (.string t1) ∧ W.cell? ⟨q, 3, none⟩ = some (.string t2) ∧ W.cell? ⟨q, 4, none⟩ = some (.string t3) ∧ Below w4.heap.size w4 W) := fun W hW => by
          have h := HK.out W hW
          exact ⟨by simp [World.cell?, h], by simp [World.cell?, h], by simp [World.cell?, h], by simp [World.cell?, h], by simp [World.cell?, h], hW⟩
        simp only at e0 e1 e2 e3 e4
        clear hd hw4 hb4 hx4 hsd
        go_wp2_with fail
        rw [HW4.out]
        clear e0 e1 e2 e3 e4
        go_region_held3 (fun W => W.cell? ⟨q, 0, none⟩ = some (.string id) ∧ W.cell? ⟨q, 1, none⟩ = some (.string t0) ∧ W.cell? ⟨q, 2, none⟩ = some (.string t1) ∧ W.cell? ⟨q, 3, none⟩ = some (.string t2) ∧ W.cell? ⟨q, 4, none⟩ = some (.string t3) ∧ Below w4.heap.size w4 W)
          (first
            | exact HS.out _ (below_drew0 _)
            | (go_split_ands; exact HS.out _ (by assumption))
            | (go_split_ands; exact HS.out _ (below_alloc0 (by assumption) _)))
          (first
            | (go_at_call 7
               go_split_ands
               refine (CD.out _ (by assumption)).mono ?_
               rintro e w1 ⟨v1, rfl, hr1, hb1⟩
               have hw1 : Below w4.heap.size w4 w1 := below_next (by assumption) hb1)
            | (go_at_call 8
               go_split_ands
               refine (CA.out _ _ (by first | exact heap_alloc_new _ _ | exact (hb1.block _ (by simp)).trans (heap_alloc_new _ _))).mono ?_
               rintro e w5 ⟨v2, rfl, hr2, hb2⟩
               have hr12 := by first | exact hr1.below hb2 | exact (hr1.below ((Below.refl _ _).alloc (Nat.le_refl _) _)).below hb2
               have hw5 : Below w4.heap.size w4 w5 := below_next (by assumption) hb2)
            | (go_at_call 6
               go_split_ands
               refine (CE.out _ _ _ hr12 hr2).mono ?_
               rintro e w6 ⟨rfl, hb3⟩
               have hw6 : Below w4.heap.size w4 w6 := below_next (by assumption) hb3))
        all_goals (
          have HB6 := Lib.hid (below_next HB4.out hw6)
          go_wp2_with fail
          go_roundw
          case rel => exact ⟨i + 1, by omega, by go_num, HB6⟩
          case measure => simp [intOf]; omega)
      · obtain rfl : i = n := by omega
        have C := Lib.hid (tall_calls wr (HL.out.below HB.out) A i c l E1.out (H1.out.below HB.out) Z1.out hsum)
        go_wp2_with fail
        refine C.out.mono ?_
        rintro e w5 ⟨v1, rfl, hr, hb⟩
        have HR5 := Lib.hid hr
        have HB5 := Lib.hid (below_next HB.out hb)
        have C2 := Lib.hid (rall_calls w5 A i c l E1.out (H1.out.below HB5.out) Z1.out hsum 0 (fun j hj => by rw [IntKind.wrap_i64]; omega))
        clear hr hb C
        go_wp2_with fail
        refine C2.out.mono ?_
        rintro e w6 ⟨v2, ts, rfl, ho, hok, hb⟩
        have C3 := Lib.hid (rsame_calls w6 v1 v2 _ _ (HR5.out.below hb) (terms_of (rt_own ho) hok))
        rw [decide_eq_true (Eq.refl (allT l 0))] at C3
        have HB6 := Lib.hid (below_next HB5.out hb)
        clear ho hok hb C2 HR5
        go_wp2_with fail
        refine C3.out.mono ?_
        rintro e w7 ⟨rfl, hb⟩
        have HB7 := Lib.hid (below_next HB6.out hb)
        clear hb C3
        go_wp2_with fail
        refine (awake_calls _ (HL.out.below HB7.out)).mono ?_
        rintro e w8 ⟨rfl, hb⟩
        have HB8 := Lib.hid (below_next HB7.out hb)
        clear hb
        go_wp2_with fail
        go_ret
        exact ⟨rfl, HB8.out⟩
end Trm
end Go.Proofs.YtfohollhdaedlaaGreatDoor
