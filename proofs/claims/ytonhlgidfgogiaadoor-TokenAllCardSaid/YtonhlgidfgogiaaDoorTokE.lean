/- The walks: slices.Equal of tokens and of spans; the example of layer 15; the law TokenParts. Written by toke.py. -/
import Derived.Test.YtonhlgidfgogiaaDoorTokW3
import Derived.Deep.QuietTactic
import Derived.BigQuiet
set_option linter.unusedVariables false
set_option linter.unusedSimpArgs false
set_option maxRecDepth 100000
namespace Go.Proofs.YtonhlgidfgogiaaDoor
open Go.RowKit Utf Fold
namespace Tok
theorem tCells_at : ∀ (l : List (ByteArray × Nat)) (i : Nat) (h : i < l.length), (tCells l)[i * 2]? = some (.string l[i].1) ∧ (tCells l)[i * 2 + 1]? = some (.int .i64 (l[i].2 : Int))
  | x :: l, 0, _ => ⟨rfl, rfl⟩
  | x :: l, i + 1, h => by
    have := tCells_at l i (by simpa using h)
    have e : tCells (x :: l) = .string x.1 :: .int .i64 (x.2 : Int) :: tCells l := rfl
    rw [e, show (i + 1) * 2 = i * 2 + 1 + 1 by omega]
    exact ⟨by simpa using this.1, by simpa using this.2⟩

theorem neq_tok (x : ByteArray) (y : Int) (w : World) : (binOp .neq 34 (.agg #[.string x, .int .i64 y]) (.agg #[.string x, .int .i64 y])).run Tryd.prog w = .ok (.bool false) w := by
  have hS : Tryd.prog.underlying 34 = some (.struct (Tryd.prog.fieldsOf 34)) := by kernel_rfl
  have hp : Tryd.prog.stoodInHeld 34 = false := by kernel_rfl
  rw [run_neq_struct, show (10000 : Nat) = 9999 + 1 from rfl, run_equalIn_agg w 9999 34 _ _ hS hp]
  simp only [Program.fieldsOf, Tryd.underlying34]
  go_simp
theorem ngd_tok (xs ys : Array Value) (x y : Operand) (w : World) : (eqGuard .neq 34 x y (.agg xs) (.agg ys)).run Tryd.prog w = .ok () w := run_eqGuard_agg w .neq 34 x y xs ys (by kernel_rfl)
set_option maxHeartbeats 2000000 in
theorem equal_tok (w : World) (A : Option Addr) (n c : Nat) (A' : Option Addr) (c' : Nat) (l : List (ByteArray × Nat)) (hl : l.length = n) (h : IsSl w 2 A n c (tCells l)) (h' : IsSl w 2 A' n c' (tCells l)) :
    Calls Tryd.prog 49 #[.slice A n c, .slice A' n c'] w fun e w' => e = .returned (.bool true) ∧ Below w.heap.size w w' := by
  have hc := h.2.1
  have hcm := h.2.2.1
  have hc' := h'.2.1
  have hcm' := h'.2.2.1
  unfold maxLen at hcm hcm'
  have H := Lib.hid h
  have H' := Lib.hid h'
  have hneq := neq_tok
  have hgu := ngd_tok
  clear h h'
  go_enter Tryd.func49, Tryd.ntmps49
  go_wp2_with fail
  go_loopw [13] (fun ix wr => ∃ i : Nat, i ≤ n ∧ ix = .int .i64 i ∧ Below w.heap.size w wr) (fun ix _ => n - (intOf ix).toNat)
  case atStart => exact ⟨0, Nat.zero_le _, rfl, Below.refl _ _⟩
  case round =>
    obtain ⟨i, hi, rfl, hb⟩ := hrel
    have HB := Lib.hid hb
    have H1 := Lib.hid (H.out.below hb)
    have H1' := Lib.hid (H'.out.below hb)
    clear hb
    by_cases hlt : i < n
    · obtain ⟨b, o, rfl, hc0, hc1⟩ := pair_at H1.out hlt
      obtain ⟨b', o', rfl, hd0, hd1⟩ := pair_at H1'.out hlt
      have hat := tCells_at l i (by omega)
      rw [hat.1] at hc0 hd0
      rw [hat.2] at hc1 hd1
      clear hat
      have hlt' : (i : Int) < n := by omega
      generalize l[i].1 = x at *
      generalize (l[i].2 : Int) = y at *
      go_wp2_with fail
      go_quiet (fail)
      go_wp2_with fail
      go_roundw
      case rel => exact ⟨i + 1, by omega, by go_num, HB.out.trans (below_drewN (Below.refl _ _) _)⟩
      case measure => simp [intOf]; omega
    · go_wp2_with fail
      go_ret
      exact ⟨rfl, HB.out⟩

theorem neq_span (x y : Int) (w : World) : (binOp .neq 44 (.agg #[.int .i64 x, .int .i64 y]) (.agg #[.int .i64 x, .int .i64 y])).run Tryd.prog w = .ok (.bool false) w := by
  have hS : Tryd.prog.underlying 44 = some (.struct (Tryd.prog.fieldsOf 44)) := by kernel_rfl
  have hp : Tryd.prog.stoodInHeld 44 = false := by kernel_rfl
  rw [run_neq_struct, show (10000 : Nat) = 9999 + 1 from rfl, run_equalIn_agg w 9999 44 _ _ hS hp]
  simp only [Program.fieldsOf, Tryd.underlying44]
  go_simp
theorem ngd_span (xs ys : Array Value) (x y : Operand) (w : World) : (eqGuard .neq 44 x y (.agg xs) (.agg ys)).run Tryd.prog w = .ok () w := run_eqGuard_agg w .neq 44 x y xs ys (by kernel_rfl)
set_option maxHeartbeats 2000000 in
theorem equal_span (w : World) (A : Option Addr) (n c : Nat) (A' : Option Addr) (c' : Nat) (l : List (Nat × Nat)) (hl : l.length = n) (h : IsSl w 2 A n c (sCells l)) (h' : IsSl w 2 A' n c' (sCells l)) :
    Calls Tryd.prog 51 #[.slice A n c, .slice A' n c'] w fun e w' => e = .returned (.bool true) ∧ Below w.heap.size w w' := by
  have hc := h.2.1
  have hcm := h.2.2.1
  have hc' := h'.2.1
  have hcm' := h'.2.2.1
  unfold maxLen at hcm hcm'
  have H := Lib.hid h
  have H' := Lib.hid h'
  have hneq := neq_span
  have hgu := ngd_span
  clear h h'
  go_enter Tryd.func51, Tryd.ntmps51
  go_wp2_with fail
  go_loopw [13] (fun ix wr => ∃ i : Nat, i ≤ n ∧ ix = .int .i64 i ∧ Below w.heap.size w wr) (fun ix _ => n - (intOf ix).toNat)
  case atStart => exact ⟨0, Nat.zero_le _, rfl, Below.refl _ _⟩
  case round =>
    obtain ⟨i, hi, rfl, hb⟩ := hrel
    have HB := Lib.hid hb
    have H1 := Lib.hid (H.out.below hb)
    have H1' := Lib.hid (H'.out.below hb)
    clear hb
    by_cases hlt : i < n
    · obtain ⟨b, o, rfl, hc0, hc1⟩ := pair_at H1.out hlt
      obtain ⟨b', o', rfl, hd0, hd1⟩ := pair_at H1'.out hlt
      have hat := sCells_at l i (by omega)
      rw [hat.1] at hc0 hd0
      rw [hat.2] at hc1 hd1
      clear hat
      have hlt' : (i : Int) < n := by omega
      generalize (l[i].1 : Int) = x at *
      generalize (l[i].2 : Int) = y at *
      go_wp2_with fail
      go_quiet (fail)
      go_wp2_with fail
      go_roundw
      case rel => exact ⟨i + 1, by omega, by go_num, HB.out.trans (below_drewN (Below.refl _ _) _)⟩
      case measure => simp [intOf]; omega
    · go_wp2_with fail
      go_ret
      exact ⟨rfl, HB.out⟩

abbrev exS : ByteArray := { data := #[82, 101, 100, 44, 32, 114, 101, 100, 32, 70, 79, 88] }
theorem run_step {s : ByteArray} {v : Bool} {a b : Nat} (h : a < s.size) (hv : wd s a = v) (hb : adv s a = b) : run s v a = run s v b := by rw [run_go h hv, hb]
theorem text_step {s : ByteArray} {a b : Nat} {c : Int} (h : a < s.size) (hn : (nx s a).1 = c) (hc : 0 ≤ c) (hb : adv s a = b) : textF s a = enc (low c) ++ textF s b := by
  rw [textF_go h, piece_good (by rw [hn]; omega), hn, hb]
theorem txRed : strOfNums (textF { data := #[82, 101, 100] } 0) = { data := #[114, 101, 100] } := by
  rw [text_step (a := 0) (b := 1) (c := 82) (by decide) (by decide +kernel) (by decide) (by decide +kernel)]
  rw [text_step (a := 1) (b := 2) (c := 101) (by decide) (by decide +kernel) (by decide) (by decide +kernel)]
  rw [text_step (a := 2) (b := 3) (c := 100) (by decide) (by decide +kernel) (by decide) (by decide +kernel)]
  rw [textF_end (by decide)]
  decide +kernel
theorem txred : strOfNums (textF { data := #[114, 101, 100] } 0) = { data := #[114, 101, 100] } := by
  rw [text_step (a := 0) (b := 1) (c := 114) (by decide) (by decide +kernel) (by decide) (by decide +kernel)]
  rw [text_step (a := 1) (b := 2) (c := 101) (by decide) (by decide +kernel) (by decide) (by decide +kernel)]
  rw [text_step (a := 2) (b := 3) (c := 100) (by decide) (by decide +kernel) (by decide) (by decide +kernel)]
  rw [textF_end (by decide)]
  decide +kernel
theorem txFOX : strOfNums (textF { data := #[70, 79, 88] } 0) = { data := #[102, 111, 120] } := by
  rw [text_step (a := 0) (b := 1) (c := 70) (by decide) (by decide +kernel) (by decide) (by decide +kernel)]
  rw [text_step (a := 1) (b := 2) (c := 79) (by decide) (by decide +kernel) (by decide) (by decide +kernel)]
  rw [text_step (a := 2) (b := 3) (c := 88) (by decide) (by decide +kernel) (by decide) (by decide +kernel)]
  rw [textF_end (by decide)]
  decide +kernel
theorem exSpans : spans exS 0 = [(0, 3), (5, 8), (9, 12)] := by
  have r0 : run exS true 0 = 3 := by rw [run_step (a := 0) (b := 1) (by decide) (by decide +kernel) (by decide +kernel), run_step (a := 1) (b := 2) (by decide) (by decide +kernel) (by decide +kernel), run_step (a := 2) (b := 3) (by decide) (by decide +kernel) (by decide +kernel), run_stop (by decide +kernel)]
  have r1 : run exS true 5 = 8 := by rw [run_step (a := 5) (b := 6) (by decide) (by decide +kernel) (by decide +kernel), run_step (a := 6) (b := 7) (by decide) (by decide +kernel) (by decide +kernel), run_step (a := 7) (b := 8) (by decide) (by decide +kernel) (by decide +kernel), run_stop (by decide +kernel)]
  have r2 : run exS true 9 = 12 := by rw [run_step (a := 9) (b := 10) (by decide) (by decide +kernel) (by decide +kernel), run_step (a := 10) (b := 11) (by decide) (by decide +kernel) (by decide +kernel), run_step (a := 11) (b := 12) (by decide) (by decide +kernel) (by decide +kernel), run_end (by decide)]
  rw [spans_word (by decide) (by decide +kernel), r0, spans_skip (by decide) (by decide +kernel), show adv exS 3 = 4 by decide +kernel, spans_skip (by decide) (by decide +kernel), show adv exS 4 = 5 by decide +kernel,
    spans_word (by decide) (by decide +kernel), r1, spans_skip (by decide) (by decide +kernel), show adv exS 8 = 9 by decide +kernel, spans_word (by decide) (by decide +kernel), r2, spans_end (by decide)]
theorem exToks : toks exS 0 (spans exS 0) = [({ data := #[114, 101, 100] }, 0), ({ data := #[114, 101, 100] }, 1), ({ data := #[102, 111, 120] }, 2)] := by
  have t0 : term exS (0, 3) = { data := #[114, 101, 100] } := by rw [term, show exS.extract 0 3 = { data := #[82, 101, 100] } by decide +kernel]; exact txRed
  have t1 : term exS (5, 8) = { data := #[114, 101, 100] } := by rw [term, show exS.extract 5 8 = { data := #[114, 101, 100] } by decide +kernel]; exact txred
  have t2 : term exS (9, 12) = { data := #[102, 111, 120] } := by rw [term, show exS.extract 9 12 = { data := #[70, 79, 88] } by decide +kernel]; exact txFOX
  rw [exSpans]
  simp only [toks, t0, t1, t2]
  decide
set_option maxHeartbeats 1000000 in
theorem awake_calls (w : World) (hL : Laid w) :
    Calls Tryd.prog 44 #[] w fun e w' => e = .returned (.bool true) ∧ Below w.heap.size w w' := by
  have c1 := fun W h => words_calls exS (by decide) W h
  rw [exToks] at c1
  have HL := Lib.hid hL
  clear hL
  go_enter Tryd.func44, Tryd.ntmps44
  go_wp2_with fail
  refine (c1 _ HL.out).mono ?_
  rintro e w1 ⟨v, rfl, ho, hb⟩
  obtain ⟨A, c, rfl, hsl⟩ := own_form ho
  have HB1 := Lib.hid hb
  have HS := Lib.hid hsl
  clear ho hb hsl
  go_wp2_with fail
  have hb2 : Below w1.heap.size w1 (w1.alloc (.cells #[.string { data := #[114, 101, 100] }, .int .i64 0, .string { data := #[114, 101, 100] }, .int .i64 1, .string { data := #[102, 111, 120] }, .int .i64 2] 34)) := (Below.refl _ _).alloc (Nat.le_refl _) _
  have hs2 := sl_lit2 w1 #[.string { data := #[114, 101, 100] }, .int .i64 0, .string { data := #[114, 101, 100] }, .int .i64 1, .string { data := #[102, 111, 120] }, .int .i64 2] 34 2 3 rfl (by decide)
  refine (equal_tok _ A 3 c _ 3 [({ data := #[114, 101, 100] }, 0), ({ data := #[114, 101, 100] }, 1), ({ data := #[102, 111, 120] }, 2)] rfl (HS.out.below hb2) hs2).mono ?_
  rintro e w2 ⟨rfl, hb3⟩
  go_wp2_with fail
  go_ret
  exact ⟨rfl, below_next (below_next HB1.out hb2) hb3⟩
set_option maxHeartbeats 1000000 in
theorem parts_proof (w : World) (hL : Laid w) (a : ByteArray) (ha : a.size ≤ 140737488351232) (b : ByteArray) (hb : b.size ≤ 140737488351232) :
    Calls Tryd.prog 12 #[.string a, .string b] w fun e w' => e = .returned (.bool true) ∧ Below w.heap.size w w' := by
  have HL := Lib.hid hL
  clear hL
  by_cases hl : 2048 < a.size
  · have hl' : (2048 : Int) < a.size := by omega
    go_enter Tryd.func12, Tryd.ntmps12
    go_wp2_with fail
    refine (awake_calls _ HL.out).mono ?_
    rintro e w1 ⟨rfl, hb1⟩
    go_wp2_with fail
    go_ret
    exact ⟨rfl, hb1⟩
  · by_cases hm : 2048 < b.size
    · have hl' : (a.size : Int) ≤ 2048 := by omega
      have hm' : (2048 : Int) < b.size := by omega
      go_enter Tryd.func12, Tryd.ntmps12
      go_wp2_with fail
      refine (awake_calls _ HL.out).mono ?_
      rintro e w1 ⟨rfl, hb1⟩
      go_wp2_with fail
      go_ret
      exact ⟨rfl, hb1⟩
    · have hl' : (a.size : Int) ≤ 2048 := by omega
      have hm' : (b.size : Int) ≤ 2048 := by omega
      have hz1 : a.size + ({ data := #[32] } : ByteArray).size ≤ 140737488355327 := by show a.size + 1 ≤ _; omega
      have hz2 : (a ++ { data := #[32] }).size + b.size ≤ 140737488355327 := by rw [ByteArray.size_append]; show a.size + 1 + b.size ≤ _; omega
      have hz3 : ({ data := #[120] } : ByteArray).size + a.size ≤ 140737488355327 := by show 1 + a.size ≤ _; omega
      have c1 := fun W => count_calls (a ++ { data := #[32] } ++ b) (by rw [ByteArray.size_append, ByteArray.size_append]; show a.size + 1 + b.size ≤ _; omega) W
      have c2 := fun W => count_calls a (by omega) W
      have c3 := fun W => count_calls b (by omega) W
      have c4 := fun W => single_calls a (by omega) W
      have c5 := fun W => count_calls ({ data := #[120] } ++ a) (by rw [ByteArray.size_append]; show 1 + a.size ≤ _; omega) W
      rw [count_parts] at c1
      have hla := spans_length a 0
      have hlb := spans_length b 0
      have hgl := count_glued a
      generalize (spans a 0).length = na at *
      generalize (spans b 0).length = nb at *
      generalize single a = sg at *
      generalize ha2 : a ++ { data := #[32] } = a2 at *
      generalize ha3 : a2 ++ b = a3 at *
      generalize ha4 : { data := #[120] } ++ a = a4 at *
      cases sg
      · clear hgl c5
        go_enter Tryd.func12, Tryd.ntmps12
        go_wp2_with fail
        refine (c1 _).mono ?_
        rintro e w1 ⟨rfl, hb1⟩
        have HB1 := Lib.hid hb1
        clear hb1
        go_wp2_with fail
        refine (c2 _).mono ?_
        rintro e w2 ⟨rfl, hb2⟩
        have HB2 : Hid (Below w.heap.size w w2) := below_next HB1.out hb2
        clear hb2
        go_wp2_with fail
        refine (c3 _).mono ?_
        rintro e w3 ⟨rfl, hb3⟩
        have HB3 : Hid (Below w.heap.size w w3) := below_next HB2.out hb3
        clear hb3
        go_wp2_with fail
        refine (c4 _).mono ?_
        rintro e w4 ⟨rfl, hb4⟩
        have HB4 : Hid (Below w.heap.size w w4) := below_next HB3.out hb4
        clear hb4
        go_wp2_with fail
        refine (awake_calls _ (HL.out.below HB4.out)).mono ?_
        rintro e w5 ⟨rfl, hb5⟩
        go_wp2_with fail
        go_ret
        exact ⟨rfl, below_next HB4.out hb5⟩
      · have hg := hgl rfl
        rw [hg] at c5
        clear hgl hg
        go_enter Tryd.func12, Tryd.ntmps12
        go_wp2_with fail
        refine (c1 _).mono ?_
        rintro e w1 ⟨rfl, hb1⟩
        have HB1 := Lib.hid hb1
        clear hb1
        go_wp2_with fail
        refine (c2 _).mono ?_
        rintro e w2 ⟨rfl, hb2⟩
        have HB2 : Hid (Below w.heap.size w w2) := below_next HB1.out hb2
        clear hb2
        go_wp2_with fail
        refine (c3 _).mono ?_
        rintro e w3 ⟨rfl, hb3⟩
        have HB3 : Hid (Below w.heap.size w w3) := below_next HB2.out hb3
        clear hb3
        go_wp2_with fail
        refine (c4 _).mono ?_
        rintro e w4 ⟨rfl, hb4⟩
        have HB4 : Hid (Below w.heap.size w w4) := below_next HB3.out hb4
        clear hb4
        go_wp2_with fail
        refine (c5 _).mono ?_
        rintro e w6 ⟨rfl, hb6⟩
        have HB6 : Hid (Below w.heap.size w w6) := below_next HB4.out hb6
        clear hb6
        go_wp2_with fail
        refine (awake_calls _ (HL.out.below HB6.out)).mono ?_
        rintro e w5 ⟨rfl, hb5⟩
        go_wp2_with fail
        go_ret
        exact ⟨rfl, below_next HB6.out hb5⟩
end Tok
end Go.Proofs.YtonhlgidfgogiaaDoor
