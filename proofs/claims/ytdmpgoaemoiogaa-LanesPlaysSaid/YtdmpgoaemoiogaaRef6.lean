/- Lanes' reference: Lose, Double, Spoil. -/
import Derived.Test.YtdmpgoaemoiogaaRef5
set_option linter.unusedVariables false
set_option linter.unusedSimpArgs false
set_option maxRecDepth 100000
namespace Go.Proofs.Ytdmpgoaemoiogaa
open Go.RowKit Go.Maps
namespace Ref
open Box
variable {w : World} {B r n : Nat} {v : Value} {s t : Int} {L : List Msg}
theorem rloseNo_calls (h : RfS w B r v n s t L) (i j : Int) (hk : ¬ Box.Way n (i, j)) (k : Int) :
    Calls Try.prog 57 #[.pointer (some ⟨r, 0, none⟩), .int .i64 i, .int .i64 j, .int .i64 k] w fun e w' => e = .returned (.int .i64 15) ∧ w' = w := by
  have C := Lib.hid (rtakeNo_calls h i j hk k)
  clear h hk
  go_enter Try.func57, Try.ntmps57
  go_wp2_with fail
  refine C.out.mono ?_
  rintro e w' ⟨rfl, rfl⟩
  go_wp2_with fail
  go_ret
  exact ⟨rfl, rfl⟩
theorem rloseOut_calls (h : RfS w B r v n s t L) (i j : Int) (hk : Box.Way n (i, j)) (k : Int) (ho : Out (rq L (i, j)) k) :
    Calls Try.prog 57 #[.pointer (some ⟨r, 0, none⟩), .int .i64 i, .int .i64 j, .int .i64 k] w fun e w' => e = .returned (.int .i64 10) ∧ Below w.heap.size w w' := by
  have C := Lib.hid (rtakeOut_calls h i j hk k ho)
  clear h hk ho
  go_enter Try.func57, Try.ntmps57
  go_wp2_with fail
  refine C.out.mono ?_
  rintro e w' ⟨rfl, hb⟩
  have HB := Lib.hid hb
  clear hb
  go_wp2_with fail
  go_ret
  exact ⟨rfl, HB.out⟩
set_option maxHeartbeats 1000000 in
theorem rlose_calls (h : RfS w B r v n s t L) (i j : Int) (hk : Box.Way n (i, j)) (k : Nat) (x : Par) (hx : (rq L (i, j))[k]? = some x) (hok : OkP x) (hL : L.length ≤ 1000000) (hB : B ≤ w.heap.size) (ht : -9223372036854775808 ≤ t ∧ t + 1 ≤ 9223372036854775807) (idx : Nat) (hf1 : rfind L (i, j) k = some idx) (hLx : L[idx]? = some ((i, j), x)) :
    Calls Try.prog 57 #[.pointer (some ⟨r, 0, none⟩), .int .i64 i, .int .i64 j, .int .i64 k] w fun e w' => e = .returned (.int .i64 0) ∧ RStep w B r n v s (t + 1) (L.eraseIdx idx) w' := by
  have C := Lib.hid (rtake_calls h i j hk k x hx hok hL hB idx hf1 hLx)
  have hwt : IntKind.i64.wrap (t + 1) = t + 1 := by rw [IntKind.wrap_i64]; omega
  clear h hk hx hok hL hf1 hLx
  go_enter Try.func57, Try.ntmps57
  go_wp2_with fail
  refine C.out.mono ?_
  rintro e w1 ⟨⟨A, cap, rfl, hsl, _⟩, v', hR, hft, hF⟩
  have HR := Lib.hid hR
  have HFT := Lib.hid hft
  have HF := Lib.hid hF
  obtain ⟨z0, z1, z2, z3, z4⟩ := head4 hR.head
  clear hR hft hF hsl
  dsimp only
  go_wp2_with fail
  go_ret
  exact ⟨rfl, v', HR.out.cell3, HFT.out.trans (foot_cell (v := v') w1 3 _) (fun k hk => HF.out k hk), HF.out⟩
theorem rdoubleNo_calls (h : RfS w B r v n s t L) (i j : Int) (hk : ¬ Box.Way n (i, j)) (k : Int) :
    Calls Try.prog 58 #[.pointer (some ⟨r, 0, none⟩), .int .i64 i, .int .i64 j, .int .i64 k] w fun e w' => e = .returned (.int .i64 15) ∧ w' = w := by
  have C := Lib.hid (rpeekNo_calls h i j hk k)
  clear h hk
  go_enter Try.func58, Try.ntmps58
  go_wp2_with fail
  refine C.out.mono ?_
  rintro e w' ⟨rfl, rfl⟩
  go_wp2_with fail
  go_ret
  exact ⟨rfl, rfl⟩
theorem rdoubleOut_calls (h : RfS w B r v n s t L) (i j : Int) (hk : Box.Way n (i, j)) (k : Int) (ho : Out (rq L (i, j)) k) :
    Calls Try.prog 58 #[.pointer (some ⟨r, 0, none⟩), .int .i64 i, .int .i64 j, .int .i64 k] w fun e w' => e = .returned (.int .i64 10) ∧ Below w.heap.size w w' := by
  have C := Lib.hid (rpeekOut_calls h i j hk k ho)
  clear h hk ho
  go_enter Try.func58, Try.ntmps58
  go_wp2_with fail
  refine C.out.mono ?_
  rintro e w' ⟨rfl, hb⟩
  have HB := Lib.hid hb
  clear hb
  go_wp2_with fail
  go_ret
  exact ⟨rfl, HB.out⟩
theorem rspoilNo_calls (h : RfS w B r v n s t L) (i j : Int) (hk : ¬ Box.Way n (i, j)) (k a y : Int) :
    Calls Try.prog 59 #[.pointer (some ⟨r, 0, none⟩), .int .i64 i, .int .i64 j, .int .i64 k, .int .i64 a, .int .u8 y] w fun e w' => e = .returned (.int .i64 15) ∧ w' = w := by
  have C := Lib.hid (rpeekNo_calls h i j hk k)
  clear h hk
  go_enter Try.func59, Try.ntmps59
  go_wp2_with fail
  refine C.out.mono ?_
  rintro e w' ⟨rfl, rfl⟩
  go_wp2_with fail
  go_ret
  exact ⟨rfl, rfl⟩
theorem rspoilOut_calls (h : RfS w B r v n s t L) (i j : Int) (hk : Box.Way n (i, j)) (k : Int) (ho : Out (rq L (i, j)) k) (a y : Int) :
    Calls Try.prog 59 #[.pointer (some ⟨r, 0, none⟩), .int .i64 i, .int .i64 j, .int .i64 k, .int .i64 a, .int .u8 y] w fun e w' => e = .returned (.int .i64 10) ∧ Below w.heap.size w w' := by
  have C := Lib.hid (rpeekOut_calls h i j hk k ho)
  clear h hk ho
  go_enter Try.func59, Try.ntmps59
  go_wp2_with fail
  refine C.out.mono ?_
  rintro e w' ⟨rfl, hb⟩
  have HB := Lib.hid hb
  clear hb
  go_wp2_with fail
  go_ret
  exact ⟨rfl, HB.out⟩
theorem RfS.drew1 (h : RfS w B r v n s t L) : RfS w.drew B r v n s t L := h.below ((Below.refl _ w).drew)
theorem RfS.spoiledAt {w0 : World} {g c : Nat} {i j : Int} {x : Par} {idx : Nat} (h : RfS w B r (.slice (some ⟨g, 0, none⟩) L.length c) n s t L) (hgr : g ≠ r) (hx : L[idx]? = some ((i, j), x)) (hb : Below w0.heap.size w0 w) (a y : Int) :
    RStep w0 B r n (.slice (some ⟨g, 0, none⟩) L.length c) s t (L.set idx ((i, j), (x.1, a, y))) ((w.setCell ⟨g, idx * 5 + 3, none⟩ (.int .i64 a)).setCell ⟨g, idx * 5 + 4, none⟩ (.int .u8 y)) := by
  have h1 := ((h.row.stored (idx * 5 + 3) (.int .i64 a)).1.stored (idx * 5 + 4) (.int .u8 y)).1
  rw [mCells_set L idx _ a y hx] at h1
  have hl : (L.set idx ((i, j), (x.1, a, y))).length = L.length := List.length_set
  refine ⟨_, ⟨((Below.heap_setCell _ ⟨g, idx * 5 + 4, none⟩ _ r (fun e => hgr e.symm)).trans (Below.heap_setCell _ ⟨g, idx * 5 + 3, none⟩ _ r (fun e => hgr e.symm))).trans h.head, by rw [hl]; exact h1, h.ne⟩, Foot.tr (Foot.tr (Foot.of_below _ hb) (Foot.of_grown (grown_cell _) (.inr rfl))) (Foot.of_grown (grown_cell _) (.inr rfl)), fun x hx => .inl hx⟩
set_option maxHeartbeats 4000000 in
theorem rspoil_calls (h : RfS w B r v n s t L) (i j : Int) (hk : Box.Way n (i, j)) (k : Nat) (x : Par) (hx : (rq L (i, j))[k]? = some x) (hok : OkP x) (a y : Int) (idx : Nat) (hf1 : rfind L (i, j) k = some idx) (hLx : L[idx]? = some ((i, j), x)) :
    Calls Try.prog 59 #[.pointer (some ⟨r, 0, none⟩), .int .i64 i, .int .i64 j, .int .i64 k, .int .i64 a, .int .u8 y] w fun e w' => e = .returned (.int .i64 0) ∧ RStep w B r n v s t (L.set idx ((i, j), spoiled x a y)) w' := by
  have C := Lib.hid (rpeek_calls h i j hk k x hx hok)
  have H := Lib.hid h
  have hil : idx < L.length := (List.getElem?_eq_some_iff.1 hLx).1
  obtain ⟨ln, hln⟩ : ∃ ln, L.length = ln := ⟨_, rfl⟩
  have HLN := Lib.hid hln
  have HR1 := Lib.hid (rf_at hf1)
  have HLX := Lib.hid hLx
  obtain ⟨g, c, rfl, _, hgl⟩ := h.row.form (by omega)
  have hgr : g ≠ r := fun e => h.ne (by rw [e]; rfl)
  obtain ⟨A', c', hv', hsl⟩ := own_form h.row
  cases hv'
  have hc := hsl.2.1
  have hcm := hsl.2.2.1
  unfold maxLen at hcm
  rw [hln] at hil hc
  have hii2 : (idx : Int) < ln := by omega
  obtain ⟨xs, xa, xb⟩ := x
  clear h hk hx hf1 hLx hln hsl hok
  go_enter Try.func59, Try.ntmps59
  go_wp2_with fail
  refine C.out.mono ?_
  rintro e w1 ⟨⟨pa, pc, rfl, hps, hpf⟩, hb1⟩
  have H1 := Lib.hid (H.out.below hb1)
  have HB1 := Lib.hid hb1
  have hf2 := rfind_calls (H.out.below hb1) i j k
  rw [HR1.out] at hf2
  have C2 := Lib.hid hf2
  clear hb1 hps hf2 hpf
  dsimp only
  go_wp2_with fail
  refine C2.out.mono ?_
  rintro e w2 ⟨rfl, hb2⟩
  have H2 := Lib.hid (H1.out.below hb2)
  have HB2 := Lib.hid (below_next HB1.out hb2)
  have hhd := H2.out.head
  rw [HLN.out] at hhd
  obtain ⟨z0, z1, z2, z3, z4⟩ := head4 hhd
  obtain ⟨_, _, hA, c0, c1, c2, c3, c4⟩ := m_at (by obtain ⟨A', c', hv', hsl⟩ := own_form H2.out.row; cases hv'; exact hsl) HLX.out
  cases hA
  simp only at c0 c1 c2 c3 c4
  have f3 := H2.out.row.frozenAt (0 + idx * 5 + 3)
  have f4 := H2.out.row.frozenAt (0 + idx * 5 + 4)
  rw [Nat.zero_add] at c0 c1 c2 c3 c4 f3 f4
  clear hb2 hhd
  rcases (show (a < 0 ∧ max a 0 = 0) ∨ (0 ≤ a ∧ max a 0 = a) by omega) with ⟨ha, hm⟩ | ⟨ha, hm⟩
  · have HSP : Hid (spoiled (xs, xa, xb) a y = (xs, 0, y)) := by show spoiled _ _ _ = _; simp only [spoiled]; rw [hm]
    clear hm
    go_wp2_with fail
    go_ret
    rw [HSP.out]
    exact ⟨rfl, H2.out.spoiledAt hgr HLX.out HB2.out 0 y⟩
  · have HSP : Hid (spoiled (xs, xa, xb) a y = (xs, a, y)) := by show spoiled _ _ _ = _; simp only [spoiled]; rw [hm]
    clear hm
    go_wp2_with fail
    go_ret
    rw [HSP.out]
    exact ⟨rfl, H2.out.spoiledAt hgr HLX.out HB2.out a y⟩
set_option maxHeartbeats 8000000 in
theorem rdouble_calls (h : RfS w B r v n s t L) (i j : Int) (hk : Box.Way n (i, j)) (k : Nat) (x : Par) (hx : (rq L (i, j))[k]? = some x) (hok : OkP x) (hL : L.length ≤ 1000000) (hB : B ≤ w.heap.size) (idx : Nat) (hf1 : rfind L (i, j) k = some idx) (hLx : L[idx]? = some ((i, j), x)) :
    Calls Try.prog 58 #[.pointer (some ⟨r, 0, none⟩), .int .i64 i, .int .i64 j, .int .i64 k] w fun e w' =>
      e = .returned (.int .i64 (if (rq L (i, j)).length < 40 then 0 else 8)) ∧ RStep w B r n v s t (if (rq L (i, j)).length < 40 then L ++ [((i, j), x)] else L) w' := by
  have C := Lib.hid (rpeek_calls h i j hk k x hx hok)
  have H := Lib.hid h
  have hil : idx < L.length := (List.getElem?_eq_some_iff.1 hLx).1
  obtain ⟨ln, hln⟩ : ∃ ln, L.length = ln := ⟨_, rfl⟩
  have HLN := Lib.hid hln
  have HR1 := Lib.hid (rf_at hf1)
  have HLX := Lib.hid hLx
  obtain ⟨g, c, rfl, _, hgl⟩ := h.row.form (by omega)
  have hgr : g ≠ r := fun e => h.ne (by rw [e]; rfl)
  obtain ⟨A', c', hv', hsl⟩ := own_form h.row
  cases hv'
  have hc := hsl.2.1
  have hcm := hsl.2.2.1
  unfold maxLen at hcm
  rw [hln] at hil hc hL
  have hii2 : (idx : Int) < ln := by omega
  obtain ⟨cn, hcn⟩ : ∃ cn, (rq L (i, j)).length = cn := ⟨_, rfl⟩
  have HCN := Lib.hid hcn
  rw [hcn]
  obtain ⟨xs, xa, xb⟩ := x
  obtain ⟨i0, hi0, hz0, hz1, hz2⟩ := info_parts inf_msg
  clear h hk hx hf1 hLx hln hsl hok hcn
  by_cases hr : cn < 40
  · simp only [if_pos hr]
    go_enter Try.func58, Try.ntmps58
    go_wp2_with fail
    refine C.out.mono ?_
    rintro e w1 ⟨⟨pa, pc, rfl, hps, hpf⟩, hb1⟩
    have H1 := Lib.hid (H.out.below hb1)
    have HB1 := Lib.hid hb1
    have hf2 := rcount_calls (H.out.below hb1) i j
    rw [HCN.out] at hf2
    have C2 := Lib.hid hf2
    clear hb1 hps hf2 hpf
    dsimp only
    go_wp2_with fail
    refine C2.out.mono ?_
    rintro e w3 ⟨rfl, hb3⟩
    have H3 := Lib.hid (H1.out.below hb3)
    have HB3 := Lib.hid (below_next HB1.out hb3)
    have HI3 := Lib.hid (Nat.le_trans hB HB3.out.size)
    have hhd := H3.out.head
    rw [HLN.out] at hhd
    obtain ⟨z0, z1, z2, z3, z4⟩ := head4 hhd
    have hr3 := H3.out.lt
    clear hb3 hhd
    have H4 := Lib.hid H3.out.drew1
    have C4 : Hid (∀ W : World, RfS W B r (.slice (some ⟨g, 0, none⟩) L.length c) n s t L → Calls Try.prog 65 #[.pointer (some ⟨r, 0, none⟩), .int .i64 i, .int .i64 j, .int .i64 k] W fun e w' => e = .returned (.int .i64 idx) ∧ Below W.heap.size W w') := fun W hW => by
      have := rfind_calls hW i j k
      rwa [HR1.out] at this
    go_wp2_with fail
    go_region_law (first | (refine step_append_lies _ rfl (.tmp 31) (.tmp 43) 83 rfl B 106 i0 (.agg #[.int .i64 0, .int .i64 0, .string { data := #[] }, .int .i64 0, .int .u8 0]) 5 48 Try.underlying83 hi0 hz0 hz1 hz2 rfl (by decide) (.slice (some ⟨g, 0, none⟩) ln c) ln (mCells L) (by simp [Act.eval, Act.put]) (HO5.out.alloc _) ⟨w5.heap.size, 0, none⟩ 1 1 [.int .i64 i, .int .i64 j, .string xs, .int .i64 xa, .int .u8 xb] (by simp [Act.eval, Act.put]) rfl (World.news_of_block (cs := #[.int .i64 i, .int .i64 j, .string xs, .int .i64 xa, .int .u8 xb]) (t := 106) (fr := (0, 0)) (heap_alloc_new w5 _)) (by simp [Value.oneCell']) (by decide) (by unfold maxLen; omega) (by omega) (by simp; have := HI5.out; omega) (w5.heap.size + 1) (by simp) ?_; intro g2 cap w6 hown hgrow hat hlt; have hh6 := (hgrow.block r (by simp; omega) (fun e => H5.out.ne e.symm)).trans (heap_old (o := .cells #[.int .i64 i, .int .i64 j, .string xs, .int .i64 xa, .int .u8 xb] 106) H5.out.head); obtain ⟨u0, u1, u2, u3, u4⟩ := head4 hh6; have HH6 := Lib.hid hh6; have HO := Lib.hid hown; have HG := Lib.hid hgrow; have HA2 := Lib.hid hat; clear hh6 hown hgrow hat) | (go_simp; go_at_call 65; refine (C4.out _ H4.out).mono ?_; rintro e w5 ⟨rfl, hb5⟩; have H5 := Lib.hid (H4.out.below hb5); have HB5 := Lib.hid hb5; have hhd5 := H5.out.head; rw [HLN.out] at hhd5; obtain ⟨q0, q1, q2, q3, q4⟩ := head4 hhd5; obtain ⟨_, _, hA5, c0, c1, c2, c3, c4⟩ := m_at (by obtain ⟨A', c', hv', hsl⟩ := own_form H5.out.row; cases hv'; exact hsl) HLX.out; cases hA5; simp only at c0 c1 c2 c3 c4; rw [Nat.zero_add] at c0 c1 c2 c3 c4; have HO5 : Hid (w5.ownsRow B 106 5 (.slice (some ⟨g, 0, none⟩) ln c) ln (mCells L)) := (by have h := H5.out.row; rw [HLN.out] at h; exact h); have HI5 : Hid (B ≤ w5.heap.size) := Nat.le_trans HI3.out hb5.size; have hr5 := H5.out.lt; clear hb5 hhd5))
    all_goals (
      go_wp2_with fail
      go_ret
      have hb35 : Below w.heap.size w w5 := below_next HB3.out (below_drew1 HB5.out)
      have hg1 : w5.grownBy w6 (Value.slice (some ⟨g, 0, none⟩) L.length c).ownBlock := (World.grownBy_alloc w5 _ _).trans ⟨HG.out.os, HG.out.tape, HG.out.output, HG.out.size, HG.out.block⟩
      have hne : (Value.slice (some ⟨g2, 0, none⟩) (ln + 1) cap).ownBlock ≠ some r := fun e => by
        have e1 : g2 = r := by simpa [Value.ownBlock] using e
        rcases HA2.out with h | h
        · exact H5.out.ne (by rw [← e1]; exact h)
        · omega
      have hL2 : (L ++ [((i, j), (xs, xa, xb))]).length = ln + 1 := by rw [List.length_append, HLN.out]; rfl
      refine ⟨rfl, _, H5.out.cell1 (v' := .slice (some ⟨g2, 0, none⟩) (ln + 1) cap) (L' := L ++ [((i, j), (xs, xa, xb))]) hg1 (by rw [hL2, mCells_append]; exact HO.out) hne, Foot.tr (Foot.tr (Foot.of_below _ hb35) (foot_row hg1)) (foot_cell w6 1 _), fun x hx => ?_⟩
      rcases hx with rfl | hx
      · exact .inl (.inl rfl)
      · have e1 : g2 = x := by simpa [Value.ownBlock] using hx
        rcases HA2.out with h | h
        · exact .inl (.inr (by rw [← e1]; exact h))
        · have := hb35.size
          exact .inr (by omega))
  · simp only [if_neg hr]
    go_enter Try.func58, Try.ntmps58
    go_wp2_with fail
    refine C.out.mono ?_
    rintro e w1 ⟨⟨pa, pc, rfl, hps, hpf⟩, hb1⟩
    have H1 := Lib.hid (H.out.below hb1)
    have HB1 := Lib.hid hb1
    have hf2 := rcount_calls (H.out.below hb1) i j
    rw [HCN.out] at hf2
    have C2 := Lib.hid hf2
    clear hb1 hps hf2 hpf
    dsimp only
    go_wp2_with fail
    refine C2.out.mono ?_
    rintro e w3 ⟨rfl, hb3⟩
    have H3 := Lib.hid (H1.out.below hb3)
    have HB3 := Lib.hid (below_next HB1.out hb3)
    have HI3 := Lib.hid (Nat.le_trans hB HB3.out.size)
    have hhd := H3.out.head
    rw [HLN.out] at hhd
    obtain ⟨z0, z1, z2, z3, z4⟩ := head4 hhd
    have hr3 := H3.out.lt
    clear hb3 hhd
    go_wp2_with fail
    go_ret
    exact ⟨rfl, RStep.of_below H.out HB3.out⟩
end Ref
end Go.Proofs.Ytdmpgoaemoiogaa
