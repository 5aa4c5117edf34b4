/- Terms: the law TermsCounts: the walk. -/
import Derived.Test.YtfohollhdaedlaaDoorTrmS
import Derived.Deep.Cut
import Derived.Deep.CutRange
set_option linter.unusedVariables false
set_option linter.unusedSimpArgs false
set_option maxRecDepth 100000
namespace Go.Proofs.YtfohollhdaedlaaDoor
open Go.RowKit
namespace Trm
theorem posts_new {w : World} {g : Nat} {n : Int} {v : Value} {ss : List SpotM} {t : TypeId} {fr : Nat × Nat} (h : w.heap[g]? = some (.cells #[.int .i64 n, v] t fr)) (hs : RSpots w v ss) : RPosts w (.slice (some ⟨g, 0, none⟩) 1 1) [(n, ss)] := by
  refine ⟨some ⟨g, 0, none⟩, 1, [(n, v, ss)], rfl, ⟨rfl, Nat.le_refl _, by decide, fun ha => (by cases ha), fun ad ha j u hu => ?_⟩, fun s hs2 => by rw [List.mem_singleton.1 hs2]; exact hs, rfl⟩
  obtain rfl := Option.some.inj ha
  rw [Addr.add_lit, Nat.zero_add]
  have : (#[Value.int .i64 n, v] : Array Value)[j]? = some u := by
    have hu2 : [Value.int .i64 n, v][j]? = some u := hu
    simpa using hu2
  simp only [World.cell?, h]
  simpa using this
theorem two_new (w : World) (X Y : Obj) : Below w.heap.size w ((w.alloc X).alloc Y).drew ∧ ((w.alloc X).alloc Y).drew.heap[w.heap.size]? = some X ∧ ((w.alloc X).alloc Y).drew.heap[w.heap.size + 1]? = some Y := by
  refine ⟨(((Below.refl _ _).alloc (Nat.le_refl _) _).alloc (by simp) _).drew, ?_, ?_⟩
  · have h1 := heap_alloc_new w X
    exact (((Below.refl (w.alloc X).heap.size _).alloc (Nat.le_refl _) _).block _ (Array.getElem?_eq_some_iff.1 h1).1).trans h1
  · have := heap_alloc_new (w.alloc X) Y
    show ((w.alloc X).alloc Y).heap[w.heap.size + 1]? = some Y
    simpa using this
set_option maxHeartbeats 16000000 in
theorem counts_proof (w : World) (hL : LaidT w) (pn : Int) (pv : Value) (ps : List SpotM) (hp : RSpots w pv ps) (qn : Int) (qv : Value) (qs : List SpotM) (hq : RSpots w qv qs) (f : Int) (av : Value) (xs : List TermM) (ha : RTerms w av xs) (bv : Value) (ys : List TermM) (hb : RTerms w bv ys) :
    Calls Tryd.prog 8 #[.agg #[.int .i64 pn, pv], .agg #[.int .i64 qn, qv], .int .i64 f, av, bv] w fun e w' => e = .returned (.bool true) ∧ Below w.heap.size w w' := by
  have HL := Lib.hid hL
  have HP := Lib.hid hp
  have HQ := Lib.hid hq
  have HXA := Lib.hid ha
  have HXB := Lib.hid hb
  obtain ⟨A, c, vs, rfl, hsl, hin, hmm⟩ := hp
  obtain ⟨B, d, us, rfl, _⟩ := hq
  generalize us.length = m at *
  obtain ⟨AA, ac, avs, rfl, _⟩ := ha.parts
  generalize avs.length = an at *
  obtain ⟨AB, bc, bvs, rfl, _⟩ := hb.parts
  generalize bvs.length = bn at *
  obtain ⟨wA, hwA⟩ : ∃ wA, (w.alloc (.cells #[.int .i64 pn, .slice A vs.length c] 46)).alloc (.cells #[.int .i64 qn, .slice B m d] 46) = wA := ⟨_, rfl⟩
  have hbA : Below w.heap.size w wA := by rw [← hwA]; exact ((Below.refl _ _).alloc (Nat.le_refl _) _).alloc (by simp) _
  have HX : Hid (wA.heap[w.heap.size]? = some (.cells #[.int .i64 pn, .slice A vs.length c] 46 (0, 0))) := by
    show _ = _
    rw [← hwA]
    have h1 := heap_alloc_new w (.cells #[.int .i64 pn, .slice A vs.length c] 46)
    exact (((Below.refl (w.alloc (.cells #[.int .i64 pn, .slice A vs.length c] 46)).heap.size _).alloc (Nat.le_refl _) _).block _ (Array.getElem?_eq_some_iff.1 h1).1).trans h1
  have HY : Hid (wA.heap[w.heap.size + 1]? = some (.cells #[.int .i64 qn, .slice B m d] 46 (0, 0))) := by
    show _ = _
    rw [← hwA]
    have := heap_alloc_new (w.alloc (.cells #[.int .i64 pn, .slice A vs.length c] 46)) (.cells #[.int .i64 qn, .slice B m d] 46)
    simpa using this
  have HWA := Lib.hid hwA
  have HBA := Lib.hid hbA
  have HS := Lib.hid (hsl.below hbA)
  have HI : Hid (∀ s ∈ vs, RInts wA s.2.1 s.2.2) := fun s hs => (hin s hs).below hbA
  have HLS : Hid (vs.map (fun s => (s.1, s.2.2)) = ps) := hmm
  obtain ⟨n, hn⟩ : ∃ n, vs.length = n := ⟨_, rfl⟩
  have HN := Lib.hid hn
  have HLN : Hid (ps.length = n) := by show _ = _; rw [← hmm, List.length_map, hn]
  have hnm := HS.out.2.1
  have hcm := HS.out.2.2.1
  unfold maxLen at hcm
  rw [hn] at HX HWA HS hnm HP ⊢
  clear hwA hbA hsl hin hmm hn ha hb hL
  obtain ⟨N, hN⟩ : ∃ N, w.heap.size = N := ⟨_, rfl⟩
  have HNN := Lib.hid hN
  rw [hN] at HX HY
  go_enter Tryd.func8, Tryd.ntmps8
  have hx0 : wA.cell? ⟨N, 0, none⟩ = some (.int .i64 pn) := by simp [World.cell?, HX.out]
  have hx1 : wA.cell? ⟨N, 1, none⟩ = some (.slice A n c) := by simp [World.cell?, HX.out]
  go_wp2_with fail
  rw [HWA.out]
  go_loopw [11, 19] (fun cnt ix wr => ∃ i : Nat, i ≤ n ∧ ix = .int .i64 i ∧ cnt = .int .i64 (countF f (ps.take i)) ∧ Below wA.heap.size wA wr) (fun _ ix _ => n - (intOf ix).toNat)
  case atStart => exact ⟨0, Nat.zero_le _, rfl, rfl, Below.refl _ _⟩
  case round =>
    obtain ⟨i, hi, rfl, rfl, hb⟩ := hrel
    have HB := Lib.hid hb
    by_cases hlt : i < n
    · obtain ⟨x, hx⟩ : ∃ x, vs[i]? = some x := ⟨_, List.getElem?_eq_getElem (by rw [HN.out]; exact hlt)⟩
      obtain ⟨bb, oo, rfl, z0, z1⟩ := spot_at (HS.out.below hb) hx
      have hrx := HI.out x (List.mem_of_getElem? hx)
      have hlx : ps[i]? = some (x.1, x.2.2) := by rw [← HLS.out, List.getElem?_map, hx]; rfl
      have HT := Lib.hid (countF_take (f := f) hlx)
      obtain ⟨fl, sv, sp⟩ := x
      obtain ⟨A2, c2, hav, hs2⟩ := hrx
      simp only at z0 z1 HT hav hs2
      subst hav
      obtain ⟨k, hk⟩ : ∃ k, sp.length = k := ⟨_, rfl⟩
      rw [hk] at z1 HT
      obtain ⟨u, hu⟩ : ∃ u, countF f (ps.take i) = u := ⟨_, rfl⟩
      rw [hu] at HT ⊢
      obtain ⟨w0, hw0⟩ : ∃ w0, wr.alloc (.cells #[.int .i64 fl, .slice A2 k c2] 49) = w0 := ⟨_, rfl⟩
      have hb0 : Below wr.heap.size wr w0 := by rw [← hw0]; exact (Below.refl _ _).alloc (Nat.le_refl _) _
      have hca : w0.cell? ⟨wr.heap.size, 0, none⟩ = some (.int .i64 fl) := by rw [← hw0]; exact cell_new _ _ _ _ 0
      have hcb : w0.cell? ⟨wr.heap.size, 1, none⟩ = some (.slice A2 k c2) := by rw [← hw0]; exact cell_new _ _ _ _ 1
      have HW0 := Lib.hid hw0
      have HB0 := Lib.hid (below_next hb hb0)
      have hwi : IntKind.i64.wrap ((i : Int) + 1) = (i : Int) + 1 := by rw [IntKind.wrap_i64]; omega
      obtain ⟨q, hq⟩ : ∃ q, wr.heap.size = q := ⟨_, rfl⟩
      rw [hq] at hca hcb
      have hq0 : q < w0.heap.size := by rw [← hw0, ← hq]; simp
      clear hx hlx hs2 hb hb0 hw0 hu hx0 hx1
      by_cases hf0 : f = 0
      · rw [if_pos (Or.inl hf0)] at HT
        subst hf0
        go_wp2_with fail
        rw [HW0.out]
        go_roundw
        case rel => exact ⟨i + 1, by omega, by go_num, by rw [HT.out], HB0.out⟩
        case measure => simp [intOf]; omega
      · have hfe : ((f : Int) == 0) = false := by simp [hf0]
        by_cases hff : fl = f
        · rw [if_pos (Or.inr hff)] at HT
          subst hff
          have hfe2 : ((fl : Int) == fl) = true := by simp
          go_wp2_with fail
          rw [HW0.out]
          go_roundw
          case rel => exact ⟨i + 1, by omega, by go_num, by rw [HT.out], HB0.out⟩
          case measure => simp [intOf]; omega
        · rw [if_neg (by rintro (h | h); exact hf0 h; exact hff h)] at HT
          have hfe2 : ((fl : Int) == f) = false := by simp [hff]
          go_wp2_with fail
          rw [HW0.out]
          go_roundw
          case rel => exact ⟨i + 1, by omega, by go_num, by rw [HT.out], HB0.out⟩
          case measure => simp [intOf]; omega
    · obtain rfl : i = n := by omega
      have HTA : Hid (ps.take i = ps) := List.take_of_length_le (by rw [HLN.out]; exact Nat.le_refl _)
      rw [HTA.out]
      have HBW := Lib.hid (below_next HBA.out hb)
      have hy0 : wr.cell? ⟨N + 1, 0, none⟩ = some (.int .i64 qn) := cell_kept hb (by simp [World.cell?, HY.out])
      have hy1 : wr.cell? ⟨N + 1, 1, none⟩ = some (.slice B m d) := cell_kept hb (by simp [World.cell?, HY.out])
      have hz0 : wr.cell? ⟨N, 0, none⟩ = some (.int .i64 pn) := cell_kept hb (by simp [World.cell?, HX.out])
      have hz1 : wr.cell? ⟨N, 1, none⟩ = some (.slice A i c) := cell_kept hb (by simp [World.cell?, HX.out])
      have HZ0 := Lib.hid hz0
      have HZ1 := Lib.hid hz1
      have HY0 := Lib.hid hy0
      have HY1 := Lib.hid hy1
      clear hb hx0 hx1
      obtain ⟨wz, hwz⟩ : ∃ wz, wz = wr := ⟨_, rfl⟩
      subst hwz
      obtain ⟨cnt, hcnt⟩ : ∃ cnt, countF f ps = cnt := ⟨_, rfl⟩
      have HCN := Lib.hid hcnt
      rw [hcnt]
      clear hcnt
      have hbP : Below wz.heap.size wz (wz.alloc (.cells #[.int .i64 pn, .slice A i c] 46)) := (Below.refl _ _).alloc (Nat.le_refl _) _
      have hbQ : Below wz.heap.size wz (wz.alloc (.cells #[.int .i64 qn, .slice B m d] 46)) := (Below.refl _ _).alloc (Nat.le_refl _) _
      have hy0' := cell_kept hbP hy0
      have hy1' := cell_kept hbP hy1
      have hz0' := cell_kept hbQ hz0
      have hz1' := cell_kept hbQ hz1
      go_upto_region 8 with fail
      go_cut [14, 15] from 37 to 40 (fun x y wx => ∃ W g1 g2, W = wx ∧ x = .slice (some ⟨g1, 0, none⟩) 1 1 ∧ y = .slice (some ⟨g2, 0, none⟩) 1 1 ∧ Hid (RPosts wx x [(pn, ps)]) ∧ Hid (RPosts wx y [(qn, qs)]) ∧ Hid (Below wz.heap.size wz wx))
      case first =>
        go_region
        all_goals (go_wp2_with fail; go_meet)
        all_goals have h2 := two_new wz (.cells #[.int .i64 qn, .slice B m d] 46) (.cells #[.int .i64 pn, .slice A i c] 46)
        all_goals have h3 := two_new wz (.cells #[.int .i64 pn, .slice A i c] 46) (.cells #[.int .i64 qn, .slice B m d] 46)
        all_goals first
          | exact ⟨_, _, _, rfl, rfl, rfl, posts_new h2.2.2 ((HP.out.below HBW.out).below h2.1), posts_new h2.2.1 ((HQ.out.below HBW.out).below h2.1), h2.1⟩
          | exact ⟨_, _, _, rfl, rfl, rfl, posts_new h3.2.1 ((HP.out.below HBW.out).below h3.1), posts_new h3.2.2 ((HQ.out.below HBW.out).below h3.1), h3.1⟩
      case rest =>
        obtain ⟨wx, g1, g2, hwx, rfl, rfl, HXP, HYP, HBX⟩ := hcut
        subst hwx
        have HBT := Lib.hid (below_next HBW.out HBX.out)
        obtain ⟨b1, hb1⟩ : ∃ b1, decide ([(pn, ps)] = [(qn, qs)]) = b1 := ⟨_, rfl⟩
        obtain ⟨b2, hb2⟩ : ∃ b2, decide (xs = ys) = b2 := ⟨_, rfl⟩
        obtain ⟨cv, hcv⟩ : ∃ cv, cmpI pn qn = cv := ⟨_, rfl⟩
        have C1 : Hid (∀ n : After wx, Calls Tryd.prog 27 #[.agg #[.int .i64 pn, .slice A i c], .int .i64 f] n.w fun r w' => r = .returned (.int .i64 cnt) ∧ Below n.w.heap.size n.w w') := fun n => by
          rw [← HCN.out]; exact count_calls pn _ ps f n.w ((HP.out.below HBT.out).below n.below)
        have C2 : Hid (∀ n : After wx, Calls Tryd.prog 28 #[.agg #[.int .i64 pn, .slice A i c], .agg #[.int .i64 qn, .slice B m d]] n.w fun r w' => r = .returned (.int .i64 cv) ∧ Below n.w.heap.size n.w w') := fun n => by
          rw [← hcv]; exact tcmp_calls n.w pn qn _ _
        have C3 : Hid (∀ n : After wx, Calls Tryd.prog 29 #[.int .i64 pn, .int .i64 qn] n.w fun r w' => r = .returned (.int .i64 cv) ∧ w' = n.w) := fun n => by
          rw [← hcv]; exact cmpi_calls pn qn n.w
        have C4 : Hid (∀ n : After wx, Calls Tryd.prog 30 #[.slice (some ⟨g1, 0, none⟩) 1 1, .slice (some ⟨g2, 0, none⟩) 1 1] n.w fun r w' => r = .returned (.bool b1) ∧ Below n.w.heap.size n.w w') := fun n => by
          rw [← hb1]; exact samelist_calls n.w _ _ _ _ (HXP.out.below n.below) (HYP.out.below n.below)
        have C5 : Hid (∀ n : After wx, Calls Tryd.prog 31 #[.slice (some ⟨g1, 0, none⟩) 1 1, .slice (some ⟨g2, 0, none⟩) 1 1] n.w fun r w' => r = .returned (.bool b1) ∧ Below n.w.heap.size n.w w') := fun n => by
          rw [← hb1]; exact rsl_calls n.w _ _ _ _ (HXP.out.below n.below) (HYP.out.below n.below)
        have C6 : Hid (∀ n : After wx, Calls Tryd.prog 32 #[.slice AA an ac, .slice AB bn bc] n.w fun r w' => r = .returned (.bool b2) ∧ Below n.w.heap.size n.w w') := fun n => by
          rw [← hb2]; exact tsame_calls n.w _ _ _ _ ((HXA.out.below HBT.out).below n.below) ((HXB.out.below HBT.out).below n.below)
        have C7 : Hid (∀ n : After wx, Calls Tryd.prog 33 #[.slice AA an ac, .slice AB bn bc] n.w fun r w' => r = .returned (.bool b2) ∧ Below n.w.heap.size n.w w') := fun n => by
          rw [← hb2]; exact rsame_calls n.w _ _ _ _ ((HXA.out.below HBT.out).below n.below) ((HXB.out.below HBT.out).below n.below)
        have C8 : Hid (∀ n : After wx, Calls Tryd.prog 32 #[.slice AA an ac, .slice AA an ac] n.w fun r w' => r = .returned (.bool true) ∧ Below n.w.heap.size n.w w') := fun n => by
          have h := tsame_calls n.w _ _ _ _ ((HXA.out.below HBT.out).below n.below) ((HXA.out.below HBT.out).below n.below)
          rw [decide_eq_true rfl] at h
          exact h
        have C9 : Hid (∀ n : After wx, Calls Tryd.prog 19 #[] n.w fun r w' => r = .returned (.bool true) ∧ Below n.w.heap.size n.w w') := fun n => awake_calls n.w ((HL.out.below HBT.out).below n.below)
        have a0 : ∀ n : After wx, n.w.cell? ⟨N, 0, none⟩ = some (.int .i64 pn) := fun n => n.cell (cell_kept HBX.out HZ0.out)
        have a1 : ∀ n : After wx, n.w.cell? ⟨N, 1, none⟩ = some (.slice A i c) := fun n => n.cell (cell_kept HBX.out HZ1.out)
        have a2 : ∀ n : After wx, n.w.cell? ⟨N + 1, 0, none⟩ = some (.int .i64 qn) := fun n => n.cell (cell_kept HBX.out HY0.out)
        have a3 : ∀ n : After wx, n.w.cell? ⟨N + 1, 1, none⟩ = some (.slice B m d) := fun n => n.cell (cell_kept HBX.out HY1.out)
        clear hb1 hb2 hcv hy0 hy1 hz0 hz1 hy0' hy1' hz0' hz1' hbP hbQ
        go_wp2_with fail
        refine wp_region_after (by kernel_rfl) (by kernel_rfl) ?_
        repeat (go_big_quiet_step (first
          | (go_at_call 27; exact Calls.after (C1.out _))
          | (go_at_call 28; exact Calls.after (C2.out _))
          | (go_at_call 29; exact Calls.after_same (C3.out _))
          | (go_at_call 30; exact Calls.after (C4.out _))
          | (go_at_call 31; exact Calls.after (C5.out _))
          | (go_at_call 32; exact Calls.after (C6.out _))
          | (go_at_call 32; exact Calls.after (C8.out _))
          | (go_at_call 33; exact Calls.after (C7.out _))
          | (go_at_call 19; exact Calls.after (C9.out _))))
        refine wpQuiet_nil ?_
        intro _ hw'
        obtain ⟨nq, hw''⟩ := hw'
        subst hw''
        have HB3 := Lib.hid (below_next HBT.out nq.below)
        clear a0 a1 a2 a3 C1 C2 C3 C4 C5 C6 C7 C8 C9
        go_wp2_with fail
        go_ret
        exact ⟨by simp, HB3.out⟩
end Trm
end Go.Proofs.YtfohollhdaedlaaDoor
