import Derived.Test.YtfohollhdaedlaaGreatDoorTokR2
import Derived.Test.YtfohollhdaedlaaGreatDoorStemR3
import Derived.Test.YtfohollhdaedlaaGreatDoorTokAll
import Derived.Deep.AppendLies
import Derived.Deep.RegionLaw
import Derived.Test.YtfohollhdaedlaaGreatDoorTokW3
import Derived.Laws.StructEq
/- Terms: the terms of a text. -/
set_option linter.unusedVariables false
set_option linter.unusedSimpArgs false
set_option maxRecDepth 100000
namespace Go.Proofs.YtfohollhdaedlaaGreatDoor
open Go.RowKit
namespace Trm
open Tok
/-- What the program's tables hold. -/
def LaidT (w : World) : Prop := Fold.Laid w ∧ Stem.LaidS w ∧ Stem.LaidE w
theorem LaidT.below {w w' : World} (h : LaidT w) (hb : Below w.heap.size w w') : LaidT w' := ⟨h.1.below hb, h.2.1.below hb, h.2.2.below hb⟩
/-- A text's words. -/
def wds (s : ByteArray) : List (ByteArray × Nat) := toks s 0 (spans s 0)
/-- Words that are looked for, stemmed. -/
def stems (l : List (ByteArray × Nat)) : List (ByteArray × Nat) := (l.filter fun x => !Stem.stopF x.1).map fun x => (Stem.stemF x.1, x.2)
theorem stems_take {l : List (ByteArray × Nat)} {i : Nat} {x : ByteArray × Nat} (h : l[i]? = some x) : stems (l.take (i + 1)) = stems (l.take i) ++ (if Stem.stopF x.1 then [] else [(Stem.stemF x.1, x.2)]) := by
  unfold stems
  rw [List.take_add_one, h, List.filter_append, List.map_append]
  congr 1
  cases hs : Stem.stopF x.1 <;> simp [hs]
theorem stems_len (l : List (ByteArray × Nat)) : (stems l).length ≤ l.length := by
  unfold stems
  rw [List.length_map]
  exact List.length_filter_le _ _
/-- The terms of a text, with their places. -/
def trms (s : ByteArray) : List (ByteArray × Nat) := stems (wds s)
theorem tCells_at : ∀ (l : List (ByteArray × Nat)) (i : Nat) (x : ByteArray × Nat), l[i]? = some x → (tCells l)[i * 2]? = some (.string x.1) ∧ (tCells l)[i * 2 + 1]? = some (.int .i64 (x.2 : Int))
  | [], _, _, h => by simp at h
  | y :: l, 0, x, h => by
    obtain rfl : y = x := by simpa using h
    exact ⟨rfl, rfl⟩
  | y :: l, i + 1, x, h => by
    have := tCells_at l i x (by simpa using h)
    show (Value.string y.1 :: .int .i64 (y.2 : Int) :: tCells l)[(i + 1) * 2]? = _ ∧ (Value.string y.1 :: .int .i64 (y.2 : Int) :: tCells l)[(i + 1) * 2 + 1]? = _
    rw [show (i + 1) * 2 = i * 2 + 1 + 1 by omega]
    exact this
theorem tok_at {w : World} {A : Option Addr} {n c : Nat} {l : List (ByteArray × Nat)} (h : IsSl w 2 A n c (tCells l)) {i : Nat} {x : ByteArray × Nat} (hx : l[i]? = some x) :
    ∃ b o, A = some ⟨b, o, none⟩ ∧ w.cell? ⟨b, o + i * 2, none⟩ = some (.string x.1) ∧ w.cell? ⟨b, o + i * 2 + 1, none⟩ = some (.int .i64 (x.2 : Int)) := by
  have hl := h.1
  rw [tCells_length] at hl
  have hi := (List.getElem?_eq_some_iff.1 hx).1
  obtain ⟨b, o, h1, h2, h3⟩ := pair_at h (i := i) (by omega)
  obtain ⟨e0, e1⟩ := tCells_at l i x hx
  exact ⟨b, o, h1, by rw [h2, e0], by rw [h3, e1]⟩
set_option maxHeartbeats 8000000 in
theorem ttext_calls (s : ByteArray) (hs : s.size ≤ 16777216) (w : World) (hL : LaidT w) :
    Calls Tryz.prog 15 #[.string s] w fun e w' => ∃ v, e = .returned v ∧ w'.ownsRow w.heap.size 51 2 v (trms s).length (tCells (trms s)) ∧ Below w.heap.size w w' := by
  have HL := Lib.hid hL
  have HWL : Hid ((wds s).length ≤ 16777216) := by
    show _ ≤ _
    unfold wds
    have h1 := toks_length s (spans s 0) 0
    have h2 := spans_length s 0
    omega
  have HWS : Hid (∀ x ∈ wds s, x.1.size ≤ 140737488351232) := fun x hx => by
    obtain ⟨_, _, _, _, h, _⟩ := toks_mem s (spans s 0) 0 x hx
    omega
  clear hL
  go_enter Tryz.func15, Tryz.ntmps15
  go_wp2_with fail
  refine (words_calls s hs _ HL.out.1).mono ?_
  rintro e w1 ⟨v, rfl, ho, hb⟩
  obtain ⟨A, c, rfl, hsl⟩ := own_form ho
  have HB1 := Lib.hid hb
  have HS : Hid (IsSl w1 2 A (wds s).length c (tCells (wds s))) := hsl
  obtain ⟨l, hl⟩ : ∃ l, wds s = l := ⟨_, rfl⟩
  have HLL := Lib.hid hl
  rw [hl] at HWL HWS HS
  have hnc := HS.out.2.1
  have hcm := HS.out.2.2.1
  unfold maxLen at hcm
  rw [show (toks s 0 (spans s 0)).length = l.length from by rw [← hl]; rfl]
  have hln := HWL.out
  clear ho hb hsl hl
  obtain ⟨n, hn⟩ : ∃ n, l.length = n := ⟨_, rfl⟩
  have HN := Lib.hid hn
  rw [hn] at HS hnc hln ⊢
  clear hn
  obtain ⟨i0, hi0, hz0, hz1, hz2⟩ := info_parts infoTok
  go_wp2_with fail
  go_loopw [3, 9] (fun out ix wr => ∃ i : Nat, i ≤ n ∧ ix = .int .i64 i ∧ wr.ownsRow w1.heap.size 51 2 out (stems (l.take i)).length (tCells (stems (l.take i))) ∧ Below w1.heap.size w1 wr) (fun _ ix _ => n - (intOf ix).toNat)
  case atStart => exact ⟨0, Nat.zero_le _, rfl, World.ownsRow_nil _ _ _ _, Below.refl _ _⟩
  case round =>
    obtain ⟨i, hi, rfl, ho, hb⟩ := hrel
    have HB := Lib.hid hb
    by_cases hlt : i < n
    · obtain ⟨x, hx⟩ : ∃ x, l[i]? = some x := ⟨_, List.getElem?_eq_getElem (by rw [HN.out]; exact hlt)⟩
      obtain ⟨bb, oo, rfl, z0, z1⟩ := tok_at (HS.out.below hb) hx
      have hxs := HWS.out x (List.mem_of_getElem? hx)
      have hlen : (stems (l.take i)).length ≤ 16777216 := by
        have h1 := stems_len (l.take i)
        rw [List.length_take] at h1
        omega
      have HT := Lib.hid (stems_take hx)
      obtain ⟨ss, hss⟩ : ∃ ss, stems (l.take i) = ss := ⟨_, rfl⟩
      rw [hss] at HT ho hlen
      obtain ⟨tx, ta⟩ := x
      simp only at z0 z1 hxs HT
      obtain ⟨w0, hw0⟩ : ∃ w0, wr.alloc (.cells #[.string tx, .int .i64 (ta : Int)] 51) = w0 := ⟨_, rfl⟩
      have hb0 : Below wr.heap.size wr w0 := by rw [← hw0]; exact (Below.refl _ _).alloc (Nat.le_refl _) _
      have hca : w0.cell? ⟨wr.heap.size, 0, none⟩ = some (.string tx) := by rw [← hw0]; exact cell_new _ _ _ _ 0
      have hcb : w0.cell? ⟨wr.heap.size, 1, none⟩ = some (.int .i64 (ta : Int)) := by rw [← hw0]; exact cell_new _ _ _ _ 1
      have HW0 := Lib.hid hw0
      have HO0 := Lib.hid (own_below ho hb0)
      have HB0 := Lib.hid (below_next hb hb0)
      have HI0 := Lib.hid (below_next hb hb0).size
      have HBW := Lib.hid (below_next HB1.out (below_next hb hb0))
      have CS := Lib.hid (Stem.stop_calls tx w0 (HL.out.2.1.below HBW.out))
      have CT := Lib.hid (Stem.stem_calls tx hxs w0.drew (show Stem.LaidE w0 from HL.out.2.2.below HBW.out))
      have hq0 : wr.heap.size < w0.heap.size := by rw [← hw0]; simp
      obtain ⟨q, hq⟩ : ∃ q, wr.heap.size = q := ⟨_, rfl⟩
      rw [hq] at hca hcb hq0
      clear hx hss hb0 hb ho hw0
      cases hst : Stem.stopF tx
      · rw [hst] at CS HT
        clear hst
        go_wp2_with fail
        rw [HW0.out]
        refine CS.out.mono ?_
        rintro e w2 ⟨rfl, rfl⟩
        clear CS
        obtain ⟨A3, c3, rfl, _⟩ := own_form HO0.out
        obtain ⟨k, hk⟩ : ∃ k, ss.length = k := ⟨_, rfl⟩
        have HK := Lib.hid hk
        rw [hk] at HO0 hlen ⊢
        obtain ⟨st, hst2⟩ : ∃ st, Stem.stemF tx = st := ⟨_, rfl⟩
        rw [hst2] at CT HT
        clear hk hst2
        clear HW0
        go_wp2_with fail
        go_region_law (first | (refine step_append_lies _ rfl (.tmp 17) (.tmp 24) 48 rfl w1.heap.size 51 i0 (.agg #[.string { data := #[] }, .int .i64 0]) 2 24 Tryz.underlying48 hi0 hz0 hz1 hz2 rfl (by decide) (.slice A3 k c3) k (tCells ss) (by simp [Act.eval, Act.put]) (HO3.out.alloc _) ⟨w3.heap.size, 0, none⟩ 1 1 [.string st, .int .i64 (ta : Int)] (by simp [Act.eval, Act.put]) rfl (World.news_of_block (cs := #[.string st, .int .i64 (ta : Int)]) (t := 51) (fr := (0, 0)) (heap_alloc_new w3 _)) (by simp [Value.oneCell']) (by decide) (by unfold maxLen; omega) (by omega) (by simp; have := HI3.out; omega) (w3.heap.size + 1) (by simp) ?_; intro g cap w5 hown hgrow hat hlt; have HOW := Lib.hid hown; have HG := Lib.hid hgrow; clear hown hgrow hat) | (go_simp; go_at_call 29; refine CT.out.mono ?_; rintro e w3 ⟨rfl, hb3⟩; have HB3 : Hid (Below w2.heap.size w2 w3) := below_drew1 hb3; have HO3 := Lib.hid (own_below HO0.out HB3.out); have HI3 := Lib.hid (Nat.le_trans HI0.out HB3.out.size); have hca3 := (HB3.out.cell (p := ⟨q, 0, none⟩) hq0).trans hca; have hcb3 := (HB3.out.cell (p := ⟨q, 1, none⟩) hq0).trans hcb; clear hb3))
        all_goals (
          have hg : w3.grownBy w5 (Value.slice A3 k c3).ownBlock := (World.grownBy_alloc w3 _ _).trans ⟨HG.out.os, HG.out.tape, HG.out.output, HG.out.size, HG.out.block⟩
          have HBX := Lib.hid ((below_next HB0.out HB3.out).grown hg HI3.out (fun j hj => (HO3.out.lt j hj).1))
          clear hg hca hcb hca3 hcb3
          go_wp2_with fail
          go_roundw
          case rel => exact ⟨i + 1, by omega, by go_num, by rw [HT.out]; simp only [Bool.false_eq_true, if_false]; rw [List.length_append, HK.out, tCells_append]; exact HOW.out, HBX.out⟩
          case measure => simp [intOf]; omega)
      · rw [hst] at CS HT
        rw [if_pos rfl, List.append_nil] at HT
        clear hst
        go_wp2_with fail
        rw [HW0.out]
        refine CS.out.mono ?_
        rintro e w2 ⟨rfl, rfl⟩
        clear CS
        go_wp2_with fail
        go_roundw
        case rel => exact ⟨i + 1, by omega, by go_num, by rw [HT.out]; exact HO0.out, HB0.out⟩
        case measure => simp [intOf]; omega
    · have HTT : Hid (l.take i = l) := List.take_of_length_le (by rw [HN.out]; omega)
      have HO := Lib.hid ho
      clear ho hb
      go_wp2_with fail
      go_ret
      refine ⟨_, rfl, ?_, below_next HB1.out HB.out⟩
      have h := HO.out
      rw [HTT.out] at h
      unfold trms
      rw [HLL.out]
      exact own_base h HB1.out.size
end Trm
end Go.Proofs.YtfohollhdaedlaaGreatDoor
/- Terms: the reference's terms of a text. -/
set_option linter.unusedVariables false
set_option linter.unusedSimpArgs false
set_option maxRecDepth 100000
namespace Go.Proofs.YtfohollhdaedlaaGreatDoor
open Go.RowKit
namespace Trm
open Tok
set_option maxHeartbeats 8000000 in
theorem rttext_calls (s : ByteArray) (hs : s.size ≤ 16777216) (w : World) :
    Calls Tryz.prog 33 #[.string s] w fun e w' => ∃ v, e = .returned v ∧ w'.ownsRow w.heap.size 51 2 v (trms s).length (tCells (trms s)) ∧ Below w.heap.size w w' := by
  have HWL : Hid ((wds s).length ≤ 16777216) := by
    show _ ≤ _
    unfold wds
    have h1 := toks_length s (spans s 0) 0
    have h2 := spans_length s 0
    omega
  have HWS : Hid (∀ x ∈ wds s, x.1.size ≤ 140737488351232) := fun x hx => by
    obtain ⟨_, _, _, _, h, _⟩ := toks_mem s (spans s 0) 0 x hx
    omega
  go_enter Tryz.func33, Tryz.ntmps33
  go_wp2_with fail
  refine (rwords_calls s hs _).mono ?_
  rintro e w1 ⟨v, rfl, ho, hb⟩
  obtain ⟨A, c, rfl, hsl⟩ := own_form ho
  have HB1 := Lib.hid hb
  have HS : Hid (IsSl w1 2 A (wds s).length c (tCells (wds s))) := hsl
  obtain ⟨l, hl⟩ : ∃ l, wds s = l := ⟨_, rfl⟩
  have HLL := Lib.hid hl
  rw [hl] at HWL HWS HS
  have hnc := HS.out.2.1
  have hcm := HS.out.2.2.1
  unfold maxLen at hcm
  rw [show (toks s 0 (spans s 0)).length = l.length from by rw [← hl]; rfl]
  have hln := HWL.out
  clear ho hb hsl hl
  obtain ⟨n, hn⟩ : ∃ n, l.length = n := ⟨_, rfl⟩
  have HN := Lib.hid hn
  rw [hn] at HS hnc hln ⊢
  clear hn
  obtain ⟨i0, hi0, hz0, hz1, hz2⟩ := info_parts infoTok
  go_wp2_with fail
  go_loopw [3, 9] (fun out ix wr => ∃ i : Nat, i ≤ n ∧ ix = .int .i64 i ∧ wr.ownsRow w1.heap.size 51 2 out (stems (l.take i)).length (tCells (stems (l.take i))) ∧ Below w1.heap.size w1 wr) (fun _ ix _ => n - (intOf ix).toNat)
  case atStart => exact ⟨0, Nat.zero_le _, rfl, World.ownsRow_nil _ _ _ _, Below.refl _ _⟩
  case round =>
    obtain ⟨i, hi, rfl, ho, hb⟩ := hrel
    have HB := Lib.hid hb
    by_cases hlt : i < n
    · obtain ⟨x, hx⟩ : ∃ x, l[i]? = some x := ⟨_, List.getElem?_eq_getElem (by rw [HN.out]; exact hlt)⟩
      obtain ⟨bb, oo, rfl, z0, z1⟩ := tok_at (HS.out.below hb) hx
      have hxs := HWS.out x (List.mem_of_getElem? hx)
      have hlen : (stems (l.take i)).length ≤ 16777216 := by
        have h1 := stems_len (l.take i)
        rw [List.length_take] at h1
        omega
      have HT := Lib.hid (stems_take hx)
      obtain ⟨ss, hss⟩ : ∃ ss, stems (l.take i) = ss := ⟨_, rfl⟩
      rw [hss] at HT ho hlen
      obtain ⟨tx, ta⟩ := x
      simp only at z0 z1 hxs HT
      obtain ⟨w0, hw0⟩ : ∃ w0, wr.alloc (.cells #[.string tx, .int .i64 (ta : Int)] 51) = w0 := ⟨_, rfl⟩
      have hb0 : Below wr.heap.size wr w0 := by rw [← hw0]; exact (Below.refl _ _).alloc (Nat.le_refl _) _
      have hca : w0.cell? ⟨wr.heap.size, 0, none⟩ = some (.string tx) := by rw [← hw0]; exact cell_new _ _ _ _ 0
      have hcb : w0.cell? ⟨wr.heap.size, 1, none⟩ = some (.int .i64 (ta : Int)) := by rw [← hw0]; exact cell_new _ _ _ _ 1
      have HW0 := Lib.hid hw0
      have HO0 := Lib.hid (own_below ho hb0)
      have HB0 := Lib.hid (below_next hb hb0)
      have HI0 := Lib.hid (below_next hb hb0).size
      have HBW := Lib.hid (below_next HB1.out (below_next hb hb0))
      have CS := Lib.hid (Stem.rstop_calls tx w0)
      have CT := Lib.hid (Stem.rstem_calls tx hxs)
      have hq0 : wr.heap.size < w0.heap.size := by rw [← hw0]; simp
      obtain ⟨q, hq⟩ : ∃ q, wr.heap.size = q := ⟨_, rfl⟩
      rw [hq] at hca hcb hq0
      clear hx hss hb0 hb ho hw0
      cases hst : Stem.stopF tx
      · rw [hst] at CS HT
        clear hst
        go_wp2_with fail
        rw [HW0.out]
        refine CS.out.mono ?_
        rintro e w2 ⟨rfl, hb2⟩
        clear CS
        replace HO0 := Lib.hid (own_below HO0.out hb2)
        replace HB0 := Lib.hid (below_next HB0.out hb2)
        replace HI0 := Lib.hid (Nat.le_trans HI0.out hb2.size)
        replace hca := (hb2.cell (p := ⟨q, 0, none⟩) hq0).trans hca
        replace hcb := (hb2.cell (p := ⟨q, 1, none⟩) hq0).trans hcb
        replace hq0 := Nat.lt_of_lt_of_le hq0 hb2.size
        clear hb2
        obtain ⟨A3, c3, rfl, _⟩ := own_form HO0.out
        obtain ⟨k, hk⟩ : ∃ k, ss.length = k := ⟨_, rfl⟩
        have HK := Lib.hid hk
        rw [hk] at HO0 hlen ⊢
        obtain ⟨st, hst2⟩ : ∃ st, Stem.stemF tx = st := ⟨_, rfl⟩
        rw [hst2] at CT HT
        clear hk hst2
        clear HW0
        go_wp2_with fail
        go_region_law (first | (refine step_append_lies _ rfl (.tmp 17) (.tmp 24) 48 rfl w1.heap.size 51 i0 (.agg #[.string { data := #[] }, .int .i64 0]) 2 24 Tryz.underlying48 hi0 hz0 hz1 hz2 rfl (by decide) (.slice A3 k c3) k (tCells ss) (by simp [Act.eval, Act.put]) (HO3.out.alloc _) ⟨w3.heap.size, 0, none⟩ 1 1 [.string st, .int .i64 (ta : Int)] (by simp [Act.eval, Act.put]) rfl (World.news_of_block (cs := #[.string st, .int .i64 (ta : Int)]) (t := 51) (fr := (0, 0)) (heap_alloc_new w3 _)) (by simp [Value.oneCell']) (by decide) (by unfold maxLen; omega) (by omega) (by simp; have := HI3.out; omega) (w3.heap.size + 1) (by simp) ?_; intro g cap w5 hown hgrow hat hlt; have HOW := Lib.hid hown; have HG := Lib.hid hgrow; clear hown hgrow hat) | (go_simp; go_at_call 50; refine (CT.out _).mono ?_; rintro e w3 ⟨rfl, hb3⟩; have HB3 : Hid (Below w2.heap.size w2 w3) := below_drew1 hb3; have HO3 := Lib.hid (own_below HO0.out HB3.out); have HI3 := Lib.hid (Nat.le_trans HI0.out HB3.out.size); have hca3 := (HB3.out.cell (p := ⟨q, 0, none⟩) hq0).trans hca; have hcb3 := (HB3.out.cell (p := ⟨q, 1, none⟩) hq0).trans hcb; clear hb3))
        all_goals (
          have hg : w3.grownBy w5 (Value.slice A3 k c3).ownBlock := (World.grownBy_alloc w3 _ _).trans ⟨HG.out.os, HG.out.tape, HG.out.output, HG.out.size, HG.out.block⟩
          have HBX := Lib.hid ((below_next HB0.out HB3.out).grown hg HI3.out (fun j hj => (HO3.out.lt j hj).1))
          clear hg hca hcb hca3 hcb3
          go_wp2_with fail
          go_roundw
          case rel => exact ⟨i + 1, by omega, by go_num, by rw [HT.out]; simp only [Bool.false_eq_true, if_false]; rw [List.length_append, HK.out, tCells_append]; exact HOW.out, HBX.out⟩
          case measure => simp [intOf]; omega)
      · rw [hst] at CS HT
        rw [if_pos rfl, List.append_nil] at HT
        clear hst
        go_wp2_with fail
        rw [HW0.out]
        refine CS.out.mono ?_
        rintro e w2 ⟨rfl, hb2⟩
        clear CS
        replace HO0 := Lib.hid (own_below HO0.out hb2)
        replace HB0 := Lib.hid (below_next HB0.out hb2)
        clear hb2 hca hcb
        go_wp2_with fail
        go_roundw
        case rel => exact ⟨i + 1, by omega, by go_num, by rw [HT.out]; exact HO0.out, HB0.out⟩
        case measure => simp [intOf]; omega
    · have HTT : Hid (l.take i = l) := List.take_of_length_le (by rw [HN.out]; omega)
      have HO := Lib.hid ho
      clear ho hb
      go_wp2_with fail
      go_ret
      refine ⟨_, rfl, ?_, below_next HB1.out HB.out⟩
      have h := HO.out
      rw [HTT.out] at h
      unfold trms
      rw [HLL.out]
      exact own_base h HB1.out.size
end Trm
end Go.Proofs.YtfohollhdaedlaaGreatDoor
/- Terms: the beginning of a term; two lists of words held against each other. -/
set_option linter.unusedVariables false
set_option linter.unusedSimpArgs false
set_option maxRecDepth 100000
namespace Go.Proofs.YtfohollhdaedlaaGreatDoor
open Go.RowKit
namespace Trm
open Tok
def prefF (s : ByteArray) : Value := if single s = true ∧ (strOfNums (Fold.textF s 0)).size ≤ 20 then .tuple #[.string (strOfNums (Fold.textF s 0)), .bool true] else .tuple #[.string ⟨#[]⟩, .bool false]
theorem bdrewN {B n : Nat} {w w1 : World} (h : Below B w w1) : Below B w (w1.drewN n) := ⟨h.os, h.tape, h.output, h.size, h.block⟩
theorem neq_tok (d e : ByteArray × Nat) (b : Bool) (hb : decide (d = e) = b) (w : World) : (binOp .neq 51 (.agg #[.string d.1, .int .i64 (d.2 : Int)]) (.agg #[.string e.1, .int .i64 (e.2 : Int)])).run Tryz.prog w = .ok (.bool (!b)) w := by
  have hS : Tryz.prog.underlying 51 = some (.struct (Tryz.prog.fieldsOf 51)) := by kernel_rfl
  have hp : Tryz.prog.stoodInHeld 51 = false := by kernel_rfl
  rw [run_neq_struct, show (10000 : Nat) = 9999 + 1 from rfl, run_equalIn_agg w 9999 51 _ _ hS hp]
  simp only [Program.fieldsOf, Tryz.underlying51]
  go_simp
  rw [← hb]
  obtain ⟨d0, d1⟩ := d
  obtain ⟨e0, e1⟩ := e
  have hs : (d0.toList = e0.toList) ↔ d0 = e0 := by rw [← beq_iff_eq, toList_beq, decide_eq_true_iff]
  have hi : ((d1 : Int) = e1) ↔ d1 = e1 := by omega
  by_cases h0 : d0 = e0 <;> by_cases h1 : d1 = e1 <;> simp [h0, h1, hs, hi]
theorem guard_tok (xs ys : Array Value) (x y : Operand) (w : World) : (eqGuard .neq 51 x y (.agg xs) (.agg ys)).run Tryz.prog w = .ok () w := run_eqGuard_agg w .neq 51 x y xs ys (by kernel_rfl)
end Trm
end Go.Proofs.YtfohollhdaedlaaGreatDoor
