/- Lanes' reference: Send. -/
import Derived.Test.YtdmpgoaemoiogaaRef2
import Derived.Deep.AppendLies
import Derived.Deep.RegionLaw
set_option linter.unusedVariables false
set_option linter.unusedSimpArgs false
set_option maxRecDepth 100000
namespace Go.Proofs.Ytdmpgoaemoiogaa
open Go.RowKit Go.Maps
namespace Ref
open Box
variable {w : World} {B r n : Nat} {v : Value} {s t : Int} {L : List Msg}
theorem inf_msg : (Try.prog.info? 106).map (fun i => (i.zero, i.size, i.bytes)) = some (some (.agg #[.int .i64 0, .int .i64 0, .string { data := #[] }, .int .i64 0, .int .u8 0]), 5, 48) := by kernel_rfl
theorem RfS.cell2 {w : World} {x : Int} (h : RfS w B r v n s t L) : RfS (w.setCell ⟨r, 2, none⟩ (.int .i64 x)) B r v n x t L where
  head := heap_set4 h.head _ rfl
  row := h.row.kept (grown_cell (n := r) (i := 2) _) (by
    cases ho : v.ownBlock with
    | none => exact .inl rfl
    | some z => exact .inr (fun e => h.ne (ho.trans e)))
  ne := h.ne
theorem RfS.cell3 {w : World} {x : Int} (h : RfS w B r v n s t L) : RfS (w.setCell ⟨r, 3, none⟩ (.int .i64 x)) B r v n s x L where
  head := heap_set4 h.head _ rfl
  row := h.row.kept (grown_cell (n := r) (i := 3) _) (by
    cases ho : v.ownBlock with
    | none => exact .inl rfl
    | some z => exact .inr (fun e => h.ne (ho.trans e)))
  ne := h.ne
/-- The row is another one. -/
theorem RfS.cell1 {w w1 : World} {v' : Value} {L' : List Msg} (h : RfS w B r v n s t L) (hg : w.grownBy w1 v.ownBlock) (hrow : w1.ownsRow B 106 5 v' L'.length (mCells L')) (hne : v'.ownBlock ≠ some r) : RfS (w1.setCell ⟨r, 1, none⟩ v') B r v' n s t L' where
  head := heap_set4 ((hg.block r h.lt (fun e => h.ne e.symm)).trans h.head) _ rfl
  row := hrow.kept (grown_cell (n := r) (i := 1) _) (by
    cases ho : v'.ownBlock with
    | none => exact .inl rfl
    | some z => exact .inr (fun e => hne (ho.trans e)))
  ne := hne
theorem foot_row {w w1 : World} (h : w.grownBy w1 v.ownBlock) : Foot w w1 (RfB r v) :=
  ⟨h.os, h.tape, h.output, h.size, fun k hk hn => h.block k hk (fun e => hn (.inr e.symm))⟩
theorem foot_cell (w : World) (i : Nat) (x : Value) : Foot w (w.setCell ⟨r, i, none⟩ x) (RfB r v) := Foot.of_grown (grown_cell x) (.inl rfl)
theorem Foot.tr {w w1 w2 : World} {F : Nat → Prop} (h : Foot w w1 F) (h1 : Foot w1 w2 F) : Foot w w2 F := h.trans h1 fun k hk => .inl hk
theorem rsendNo_calls (h : RfS w B r v n s t L) (i j : Int) (hk : ¬ Box.Way n (i, j)) (A : Option Addr) (c1 c2 : Nat) :
    Calls Try.prog 61 #[.pointer (some ⟨r, 0, none⟩), .int .i64 i, .int .i64 j, .slice A c1 c2] w fun e w' => e = .returned (.int .i64 15) ∧ w' = w := by
  have C := Lib.hid (rwayNo_calls h i j hk)
  clear h hk
  go_enter Try.func61, Try.ntmps61
  go_wp2_with fail
  refine C.out.mono ?_
  rintro e w' ⟨rfl, rfl⟩
  go_wp2_with fail
  go_ret
  exact ⟨rfl, rfl⟩
set_option maxHeartbeats 4000000 in
theorem rsend_calls (h : RfS w B r v n s t L) (i j : Int) (hk : Box.Way n (i, j)) (hs : -9223372036854775808 ≤ s ∧ s + 1 ≤ 9223372036854775807) (ht : -9223372036854775808 ≤ t ∧ t + 1 ≤ 9223372036854775807)
    (A : Option Addr) (c1 c2 : Nat) (bs : List Int) (hb : IsSl w 1 A c1 c2 (bs.map (.int .u8))) (hA : ∀ ad, A = some ad → 0 < c1 → ¬ RfB r v ad.block) (hL : L.length ≤ 1000000) (hB : B ≤ w.heap.size) :
    Calls Try.prog 61 #[.pointer (some ⟨r, 0, none⟩), .int .i64 i, .int .i64 j, .slice A c1 c2] w fun e w' =>
      e = .returned (.int .i64 (if (rq L (i, j)).length < 40 then 0 else 8)) ∧ RStep w B r n v (s + 1) (if (rq L (i, j)).length < 40 then t else t + 1) (if (rq L (i, j)).length < 40 then L ++ [((i, j), (strOfNums bs, 0, 0))] else L) w' := by
  obtain ⟨y0, y1, y2, y3, y4⟩ := head4 h.head
  have C1 := Lib.hid (rwayYes_calls h i j hk)
  have hws : IntKind.i64.wrap (s + 1) = s + 1 := by rw [IntKind.wrap_i64]; omega
  have HWT := Lib.hid (show IntKind.i64.wrap (t + 1) = t + 1 by rw [IntKind.wrap_i64]; omega)
  have h2 := h.cell2 (x := s + 1)
  have C2 := Lib.hid (rcount_calls h2 i j)
  have H2 := Lib.hid h2
  have H := Lib.hid h
  have HSB : Hid (IsSl (w.setCell ⟨r, 2, none⟩ (.int .i64 (s + 1))) 1 A c1 c2 (bs.map (.int .u8))) := IsSl.foot hb hA (foot_cell (v := v) w 2 _)
  obtain ⟨cn, hcn⟩ : ∃ cn, (rq L (i, j)).length = cn := ⟨_, rfl⟩
  rw [hcn] at C2 ⊢
  clear hk hs ht hb h2 h hcn hA
  obtain ⟨str, hstr⟩ : ∃ str, strOfNums bs = str := ⟨_, rfl⟩
  have HSTR := Lib.hid hstr
  rw [hstr]
  clear hstr
  by_cases hr : cn < 40
  · simp only [if_pos hr]
    go_enter Try.func61, Try.ntmps61
    go_wp2_with fail
    refine C1.out.mono ?_
    rintro e w' ⟨rfl, rfl⟩
    go_wp2_with fail
    refine C2.out.mono ?_
    rintro e w3 ⟨rfl, hb3⟩
    have H3 := Lib.hid (H2.out.below hb3)
    have HF3 : Hid (Foot w' w3 (RfB r v)) := Foot.tr (foot_cell w' 2 _) (Foot.of_below _ hb3)
    have HS3 := Lib.hid (HSB.out.below hb3)
    obtain ⟨z0, z1, z2, z3, z4⟩ := head4 (H2.out.below hb3).head
    clear hb3 y0 y1 y2 y3 y4 hws
    have hrl := H3.out.lt
    obtain ⟨i0, hi0, hz0, hz1, hz2⟩ := info_parts inf_msg
    have hcv := run_str_of (P := Try.prog) w3.drew 64 9 5 Try.underlying64 Try.underlying5 Try.underlying9 A c1 c2 bs HS3.out
    rw [HSTR.out] at hcv
    have HI := Lib.hid (show B ≤ w3.heap.size from Nat.le_trans hB HF3.out.2.2.2.1)
    go_wp2_with fail
    go_region_law (refine step_append_lies _ rfl (.tmp 37) (.tmp 43) 83 rfl B 106 i0 (.agg #[.int .i64 0, .int .i64 0, .string { data := #[] }, .int .i64 0, .int .u8 0]) 5 48 Try.underlying83 hi0 hz0 hz1 hz2 rfl (by decide) v L.length (mCells L) (by simp [Act.eval, Act.put]) (H3.out.row.alloc _) ⟨w3.heap.size, 0, none⟩ 1 1 [.int .i64 i, .int .i64 j, .string str, .int .i64 0, .int .u8 0] (by simp [Act.eval, Act.put]) rfl (World.news_of_block (cs := #[.int .i64 i, .int .i64 j, .string str, .int .i64 0, .int .u8 0]) (t := 106) (fr := (0, 0)) (heap_alloc_new w3 _)) (by simp [Value.oneCell']) (by decide) (by unfold maxLen; omega) (by omega) (by simp; have := HI.out; omega) (w3.heap.size + 1) (by simp) ?_; intro g cap w5 hown hgrow hat hlt; have hh5 := (hgrow.block r (by simp; omega) (fun e => H3.out.ne e.symm)).trans (heap_old (o := .cells #[.int .i64 i, .int .i64 j, .string str, .int .i64 0, .int .u8 0] 106) H3.out.head); obtain ⟨u0, u1, u2, u3, u4⟩ := head4 hh5; have HH5 := Lib.hid hh5; have HO := Lib.hid hown; have HG := Lib.hid hgrow; have HA2 := Lib.hid hat; clear hh5 hown hgrow hat)
    all_goals (
      go_wp2_with fail
      go_ret
      have hg1 : w3.grownBy w5 v.ownBlock := (World.grownBy_alloc w3 _ _).trans ⟨HG.out.os, HG.out.tape, HG.out.output, HG.out.size, HG.out.block⟩
      have hne : (Value.slice (some ⟨g, 0, none⟩) (L.length + 1) cap).ownBlock ≠ some r := fun e => by
        have e1 : g = r := by simpa [Value.ownBlock] using e
        rcases HA2.out with h | h
        · exact H3.out.ne (by rw [h, e1])
        · omega
      have hL2 : (L ++ [((i, j), (str, (0 : Int), (0 : Int)))]).length = L.length + 1 := by simp
      refine ⟨rfl, _, H3.out.cell1 (v' := .slice (some ⟨g, 0, none⟩) (L.length + 1) cap) (L' := L ++ [((i, j), (str, 0, 0))]) hg1 (by rw [hL2, mCells_append]; exact HO.out) hne, Foot.tr (Foot.tr HF3.out (foot_row hg1)) (foot_cell w5 1 _), fun x hx => ?_⟩
      rcases hx with rfl | hx
      · exact .inl (.inl rfl)
      · have e1 : g = x := by simpa [Value.ownBlock] using hx
        rcases HA2.out with h | h
        · exact .inl (.inr (by rw [h, e1]))
        · have := HF3.out.2.2.2.1
          exact .inr (by omega))
  · simp only [if_neg hr]
    go_enter Try.func61, Try.ntmps61
    go_wp2_with fail
    refine C1.out.mono ?_
    rintro e w' ⟨rfl, rfl⟩
    go_wp2_with fail
    refine C2.out.mono ?_
    rintro e w3 ⟨rfl, hb3⟩
    have H3 := Lib.hid (H2.out.below hb3)
    have HF3 : Hid (Foot w' w3 (RfB r v)) := Foot.tr (foot_cell w' 2 _) (Foot.of_below _ hb3)
    have HS3 := Lib.hid (HSB.out.below hb3)
    obtain ⟨z0, z1, z2, z3, z4⟩ := head4 (H2.out.below hb3).head
    clear hb3 y0 y1 y2 y3 y4 hws
    have hwt := HWT.out
    go_wp2_with fail
    go_ret
    exact ⟨rfl, v, H3.out.cell3, Foot.tr HF3.out (foot_cell w3 3 _), fun x hx => .inl hx⟩
end Ref
end Go.Proofs.Ytdmpgoaemoiogaa
