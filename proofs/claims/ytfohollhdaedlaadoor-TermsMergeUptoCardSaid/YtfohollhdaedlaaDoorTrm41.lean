/- Terms: the law TermsMerge: the walk. -/
import Derived.Test.YtfohollhdaedlaaDoorTrmW
set_option linter.unusedVariables false
set_option linter.unusedSimpArgs false
set_option maxRecDepth 100000
namespace Go.Proofs.YtfohollhdaedlaaDoor
open Go.RowKit
namespace Trm
open Tok
set_option maxHeartbeats 16000000 in
theorem merge_proof (w : World) (hL : LaidT w) (A1 : Option Addr) (n1 c1 : Nat) (l1 : List Exp.DocM) (h1 : IsSl w 5 A1 n1 c1 (Exp.dCells l1)) (z1 : ∀ d ∈ l1, ∀ i, (d.get i).size ≤ 16777216)
    (A2 : Option Addr) (n2 c2 : Nat) (l2 : List Exp.DocM) (h2 : IsSl w 5 A2 n2 c2 (Exp.dCells l2)) (z2 : ∀ d ∈ l2, ∀ i, (d.get i).size ≤ 16777216) :
    Calls Tryd.prog 9 #[.slice A1 n1 c1, .slice A2 n2 c2] w fun e w' => e = .returned (.bool true) ∧ Below w.heap.size w w' := by
  have e1 : l1.length = n1 := by have := h1.1; rw [Exp.dCells_length] at this; omega
  have e2 : l2.length = n2 := by have := h2.1; rw [Exp.dCells_length] at this; omega
  have E1 := Lib.hid e1
  have E2 := Lib.hid e2
  have HL := Lib.hid hL
  have H1 := Lib.hid h1
  have H2 := Lib.hid h2
  have Z1 := Lib.hid z1
  have Z2 := Lib.hid z2
  have hnc1 := h1.2.1
  have hnc2 := h2.2.1
  have hcm1 := h1.2.2.1
  have hcm2 := h2.2.2.1
  unfold maxLen at hcm1 hcm2
  obtain ⟨wA, hwA⟩ : ∃ wA, w.alloc (.cells #[.slice A1 n1 c1, .slice A2 n2 c2] 23) = wA := ⟨_, rfl⟩
  have hbA : Below w.heap.size w wA := by rw [← hwA]; exact (Below.refl _ _).alloc (Nat.le_refl _) _
  have hslA : IsSl wA 1 (some ⟨w.heap.size, 0, none⟩) 2 2 [.slice A1 n1 c1, .slice A2 n2 c2] := by
    rw [← hwA]
    exact sl_lit w #[.slice A1 n1 c1, .slice A2 n2 c2] 23 2 rfl (by decide)
  have CS := Lib.hid (short_calls wA _ 2 2 [(.slice A1 n1 c1, l1), (.slice A2 n2 c2, l2)] rfl hslA (fun x hx => by
    rcases List.mem_cons.1 hx with rfl | hx
    · exact ⟨A1, c1, by rw [e1], by rw [e1]; exact h1.below hbA⟩
    · rw [List.mem_singleton.1 hx]
      exact ⟨A2, c2, by rw [e2], by rw [e2]; exact h2.below hbA⟩))
  have HBA := Lib.hid hbA
  have HWA := Lib.hid hwA
  clear hwA hbA hslA hL h1 h2 z1 z2 e1 e2
  go_enter Tryd.func9, Tryd.ntmps9
  go_wp2_with fail
  rw [HWA.out]
  refine CS.out.mono ?_
  rintro e w2 ⟨⟨b, rfl, hfew⟩, hb⟩
  have HB2 := Lib.hid (below_next HBA.out hb)
  clear hb CS
  cases b
  · clear hfew
    go_wp2_with fail
    refine (awake_calls _ (HL.out.below HB2.out)).mono ?_
    rintro e w3 ⟨rfl, hb⟩
    have HB3 := Lib.hid (below_next HB2.out hb)
    clear hb
    go_wp2_with fail
    go_ret
    exact ⟨rfl, HB3.out⟩
  · have hsum : n1 + n2 ≤ 16 := by
      have h := hfew rfl
      unfold Few at h
      simp only [List.map_cons, List.map_nil, List.sum_cons, List.sum_nil] at h
      rw [E1.out, E2.out] at h
      omega
    have C1 := Lib.hid (rall_calls w2 A1 n1 c1 l1 E1.out (H1.out.below HB2.out) Z1.out (by omega) 0 (fun j hj => by rw [IntKind.wrap_i64]; omega))
    clear hfew
    go_wp2_with fail
    refine C1.out.mono ?_
    rintro e w3 ⟨x, ts1, rfl, ho, hok, hb⟩
    have HX3 : Hid (AllAt w3 x l1 0) := ⟨ts1, rt_own ho, hok⟩
    obtain ⟨X, xc, rfl, _⟩ := own_form ho
    obtain ⟨k1, hk1⟩ : ∃ k1, ts1.length = k1 := ⟨_, rfl⟩
    rw [hk1] at HX3 ⊢
    have HB3 := Lib.hid (below_next HB2.out hb)
    clear ho hok hb C1
    have C2 := Lib.hid (rall_calls w3 A2 n2 c2 l2 E2.out (H2.out.below HB3.out) Z2.out (by omega) (n1 : Int) (fun j hj => by rw [IntKind.wrap_i64]; omega))
    go_wp2_with fail
    refine C2.out.mono ?_
    rintro e w4 ⟨y, ts2, rfl, ho, hok, hb⟩
    have HY4 : Hid (AllAt w4 y l2 (n1 : Int)) := ⟨ts2, rt_own ho, hok⟩
    have HX4 : Hid (AllAt w4 _ l1 0) := HX3.out.below hb
    obtain ⟨Y, yc, rfl, _⟩ := own_form ho
    obtain ⟨k2, hk2⟩ : ∃ k2, ts2.length = k2 := ⟨_, rfl⟩
    rw [hk2] at HY4 ⊢
    have HB4 := Lib.hid (below_next HB3.out hb)
    clear ho hok hb C2 HX3 hk1 hk2
    obtain ⟨w5, hw5⟩ : ∃ w5, w4.alloc (.cells #[.slice X k1 xc, .slice Y k2 yc] 39) = w5 := ⟨_, rfl⟩
    have hb5 : Below w4.heap.size w4 w5 := by rw [← hw5]; exact (Below.refl _ _).alloc (Nat.le_refl _) _
    have hsl5 : IsSl w5 1 (some ⟨w4.heap.size, 0, none⟩) 2 2 [.slice X k1 xc, .slice Y k2 yc] := by
      rw [← hw5]
      exact sl_lit w4 #[.slice X k1 xc, .slice Y k2 yc] 39 2 rfl (by decide)
    have HX5 := Lib.hid (HX4.out.below hb5)
    have HB5 := Lib.hid (below_next HB4.out hb5)
    have HW5 := Lib.hid hw5
    obtain ⟨ts1, r1, p1, m1, q1, t1⟩ := HX5.out.ins
    obtain ⟨ts2, r2, p2, m2, q2, t2⟩ := (HY4.out.below hb5).ins
    rw [E1.out] at p1 t1
    rw [E2.out] at p2 t2
    have CM := Lib.hid (tmerge_calls w5 _ 2 2 16 [(.slice X k1 xc, ts1), (.slice Y k2 yc, ts2)] rfl hsl5
      (fun x hx => by
        rcases List.mem_cons.1 hx with rfl | hx
        · exact r1
        · rw [List.mem_singleton.1 hx]; exact r2)
      (fun x hx s hs => by
        rcases List.mem_cons.1 hx with rfl | hx
        · exact ⟨(p1 s hs).1, by have := (p1 s hs).2; omega⟩
        · rw [List.mem_singleton.1 hx] at hs
          exact ⟨(p2 s hs).1, by have := (p2 s hs).2; omega⟩)
      (fun x hx => by
        rcases List.mem_cons.1 hx with rfl | hx
        · exact q1
        · rw [List.mem_singleton.1 hx]; exact q2)
      (by unfold left; simp; omega) (by decide) (by decide))
    have HM2 : Hid (∀ M, (Can M ∧ ∀ t, look M t = ([((.slice X k1 xc, ts1) : Value × List MTerm), (.slice Y k2 yc, ts2)].map fun x => x.2.map keyT).flatMap fun r => look r t) → M = allT (l1 ++ l2) 0) := fun M hM => by
      refine merged_two ⟨hM.1, fun t => ?_⟩
      rw [hM.2]
      simp only [List.map_cons, List.map_nil]
      rw [m1, m2, E1.out, Int.zero_add]
    clear hw5 hb5 hsl5 r1 p1 m1 q1 t1 r2 p2 m2 q2 t2 HY4 HX4
    go_wp2_with fail
    rw [HW5.out]
    refine CM.out.mono ?_
    rintro e w6 ⟨v3, ts3, M, rfl, ho, hok, hM, hb⟩
    obtain rfl := HM2.out M hM
    have HR6 := Lib.hid (terms_of (rt_own ho) hok)
    have HX6 := Lib.hid (HX5.out.below hb)
    have HB6 := Lib.hid (below_next HB5.out hb)
    clear ho hok hM hb CM HM2 HX5
    obtain ⟨w7, hw7⟩ : ∃ w7, w6.alloc (.cells #[.slice A1 n1 c1, .slice A2 n2 c2] 23) = w7 := ⟨_, rfl⟩
    have hb7 : Below w6.heap.size w6 w7 := by rw [← hw7]; exact (Below.refl _ _).alloc (Nat.le_refl _) _
    have hsl7 : IsSl w7 1 (some ⟨w6.heap.size, 0, none⟩) 2 2 [.slice A1 n1 c1, .slice A2 n2 c2] := by
      rw [← hw7]
      exact sl_lit w6 #[.slice A1 n1 c1, .slice A2 n2 c2] 23 2 rfl (by decide)
    have HB7 := Lib.hid (below_next HB6.out hb7)
    have HR7 := Lib.hid (HR6.out.below hb7)
    have HX7 := Lib.hid (HX6.out.below hb7)
    have HW7 := Lib.hid hw7
    have CC := Lib.hid (concat_docs w7 _ 2 2 [(A1, n1, c1, Exp.dCells l1), (A2, n2, c2, Exp.dCells l2)] ⟨hsl7, fun r hr => by
      rcases List.mem_cons.1 hr with rfl | hr
      · exact ⟨H1.out.below HB7.out, Exp.dCells_one _⟩
      · rw [List.mem_singleton.1 hr]; exact ⟨H2.out.below HB7.out, Exp.dCells_one _⟩⟩ (by simp [cnt]; omega))
    clear hw7 hb7 hsl7 HR6 HX6
    go_wp2_with fail
    rw [HW7.out]
    refine CC.out.mono ?_
    rintro e w8 ⟨v4, rfl, ho, hb⟩
    obtain ⟨D, dc, rfl, hsl⟩ := own_form ho
    have hcn : cnt [(A1, n1, c1, Exp.dCells l1), (A2, n2, c2, Exp.dCells l2)] = n1 + n2 := by simp [cnt]
    have hfl : flatC [(A1, n1, c1, Exp.dCells l1), (A2, n2, c2, Exp.dCells l2)] = Exp.dCells (l1 ++ l2) := by simp [flatC, Exp.dCells_append]
    rw [hcn, hfl] at hsl
    rw [hcn]
    have HR8 := Lib.hid (HR7.out.below hb)
    have HX8 := Lib.hid (HX7.out.below hb)
    have HB8 := Lib.hid (below_next HB7.out hb)
    have C3 := Lib.hid (rall_calls w8 D (n1 + n2) dc (l1 ++ l2) (by rw [List.length_append, E1.out, E2.out]) hsl (fun d hd => by
      rcases List.mem_append.1 hd with hd | hd
      · exact Z1.out d hd
      · exact Z2.out d hd) hsum 0 (fun j hj => by rw [IntKind.wrap_i64]; omega))
    clear ho hsl hb CC hcn hfl HR7 HX7
    go_wp2_with fail
    refine C3.out.mono ?_
    rintro e w9 ⟨v5, ts5, rfl, ho, hok, hb⟩
    have CE := Lib.hid (rsame_calls w9 v3 v5 _ _ (HR8.out.below hb) (terms_of (rt_own ho) hok))
    rw [decide_eq_true (Eq.refl (allT (l1 ++ l2) 0))] at CE
    have HX9 := Lib.hid (HX8.out.below hb)
    have HB9 := Lib.hid (below_next HB8.out hb)
    clear ho hok hb C3 HR8 HX8
    go_wp2_with fail
    refine CE.out.mono ?_
    rintro e w10 ⟨rfl, hb⟩
    have HB10 := Lib.hid (below_next HB9.out hb)
    obtain ⟨w11, hw11⟩ : ∃ w11, w10.alloc (.cells #[.slice X k1 xc] 39) = w11 := ⟨_, rfl⟩
    have hb11 : Below w10.heap.size w10 w11 := by rw [← hw11]; exact (Below.refl _ _).alloc (Nat.le_refl _) _
    have hsl11 : IsSl w11 1 (some ⟨w10.heap.size, 0, none⟩) 1 1 [.slice X k1 xc] := by
      rw [← hw11]
      exact sl_lit w10 #[.slice X k1 xc] 39 1 rfl (by decide)
    have HX11 := Lib.hid ((HX9.out.below hb).below hb11)
    have HB11 := Lib.hid (below_next HB10.out hb11)
    have HW11 := Lib.hid hw11
    obtain ⟨ts1, r1, p1, m1, q1, t1⟩ := HX11.out.ins
    rw [E1.out] at p1 t1
    have CN := Lib.hid (tmerge_calls w11 _ 1 1 16 [(.slice X k1 xc, ts1)] rfl hsl11
      (fun x hx => by rw [List.mem_singleton.1 hx]; exact r1)
      (fun x hx s hs => by
        rw [List.mem_singleton.1 hx] at hs
        exact ⟨(p1 s hs).1, by have := (p1 s hs).2; omega⟩)
      (fun x hx => by rw [List.mem_singleton.1 hx]; exact q1)
      (by unfold left; simp; omega) (by decide) (by decide))
    have HM1 : Hid (∀ M, (Can M ∧ ∀ t, look M t = ([((.slice X k1 xc, ts1) : Value × List MTerm)].map fun x => x.2.map keyT).flatMap fun r => look r t) → M = allT l1 0) := fun M hM => by
      refine merged_one (allT_can _ _) ⟨hM.1, fun t => ?_⟩
      rw [hM.2]
      simp only [List.map_cons, List.map_nil]
      rw [m1]
    clear hw11 hb11 hsl11 r1 p1 m1 q1 t1 hb CE HX9
    go_wp2_with fail
    rw [HW11.out]
    refine CN.out.mono ?_
    rintro e w12 ⟨v6, ts6, M, rfl, ho, hok, hM, hb⟩
    obtain rfl := HM1.out M hM
    have CF := Lib.hid (rsame_calls w12 v6 (.slice X k1 xc) _ _ (terms_of (rt_own ho) hok) (HX11.out.below hb).terms)
    rw [decide_eq_true (Eq.refl (allT l1 0))] at CF
    have HB12 := Lib.hid (below_next HB11.out hb)
    clear ho hok hM hb CN HM1 HX11
    go_wp2_with fail
    refine CF.out.mono ?_
    rintro e w13 ⟨rfl, hb⟩
    have HB13 := Lib.hid (below_next HB12.out hb)
    have CZ := Lib.hid (tmerge_calls w13 none 0 0 16 [] rfl ⟨rfl, Nat.le_refl _, by decide, fun _ => ⟨rfl, rfl⟩, fun ad ha => by cases ha⟩ (fun x hx => absurd hx List.not_mem_nil) (fun x hx => absurd hx List.not_mem_nil) (fun x hx => absurd hx List.not_mem_nil) (by decide) (by decide) (by decide))
    clear hb CF
    go_wp2_with fail
    refine CZ.out.mono ?_
    rintro e w14 ⟨v7, ts7, M, rfl, ho, hok, hM, hb⟩
    have hM0 : M = [] := merged_docs (ds := []) (num := 0) ⟨hM.1, fun t => by rw [hM.2]; rfl⟩
    obtain rfl : ts7 = [] := by
      have h := hok.2
      rw [hM0] at h
      exact List.map_eq_nil_iff.1 h
    obtain ⟨Z, zc, rfl, _⟩ := own_form ho
    have HB14 := Lib.hid (below_next HB13.out hb)
    clear ho hok hM hb CZ hM0
    go_wp2_with fail
    refine (awake_calls _ (HL.out.below HB14.out)).mono ?_
    rintro e w15 ⟨rfl, hb⟩
    have HB15 := Lib.hid (below_next HB14.out hb)
    clear hb
    go_wp2_with fail
    go_ret
    exact ⟨rfl, HB15.out⟩
end Trm
end Go.Proofs.YtfohollhdaedlaaDoor
