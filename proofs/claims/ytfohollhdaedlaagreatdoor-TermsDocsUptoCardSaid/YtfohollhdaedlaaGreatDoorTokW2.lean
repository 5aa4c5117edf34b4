/- The walks: token.Spans, Count, Single, Words. -/
import Derived.Test.YtfohollhdaedlaaGreatDoorTokW1
set_option linter.unusedVariables false
set_option linter.unusedSimpArgs false
set_option maxRecDepth 100000
namespace Go.Proofs.YtfohollhdaedlaaGreatDoor
open Go.RowKit Utf Fold
namespace Tok
theorem spot_none {w : World} {a : Addr} {v : Value} (h : w.cell? a = some v) : a.spot = none := by
  cases hs : a.spot with
  | none => rfl
  | some q =>
    unfold World.cell? at h
    split at h
    · simp [hs] at h
    · cases h
/-- Two cells of a row of pairs. -/
theorem pair_at {w : World} {A : Option Addr} {n c : Nat} {cs : List Value} (h : IsSl w 2 A n c cs) {i : Nat} (hi : i < n) : ∃ b o, A = some ⟨b, o, none⟩ ∧ w.cell? ⟨b, o + i * 2, none⟩ = cs[i * 2]? ∧ w.cell? ⟨b, o + i * 2 + 1, none⟩ = cs[i * 2 + 1]? := by
  obtain ⟨h1, h2, h3, h4, h5⟩ := h
  cases A with
  | none => have := h4 rfl; omega
  | some ad =>
    obtain ⟨ab, ao, sp⟩ := ad
    have e0 := h5 _ rfl 0 (cs[0]'(by omega)) (List.getElem?_eq_getElem _)
    have hsp := spot_none e0
    have hsp : sp = none := by simpa [Addr.add] using hsp
    subst hsp
    have f0 := h5 _ rfl (i * 2) (cs[i * 2]'(by omega)) (List.getElem?_eq_getElem _)
    have f1 := h5 _ rfl (i * 2 + 1) (cs[i * 2 + 1]'(by omega)) (List.getElem?_eq_getElem _)
    rw [Addr.add_lit] at f0 f1
    exact ⟨ab, ao, rfl, by rw [f0, List.getElem?_eq_getElem], by rw [show ao + i * 2 + 1 = ao + (i * 2 + 1) by omega, f1, List.getElem?_eq_getElem]⟩
theorem span_at {w : World} {A : Option Addr} {n c : Nat} {l : List (Nat × Nat)} (h : IsSl w 2 A n c (sCells l)) (hn : l.length = n) {i : Nat} (hi : i < n) : ∃ (x : Nat × Nat) (b o : Nat), l[i]? = some x ∧ l.drop i = x :: l.drop (i + 1) ∧ l.take (i + 1) = l.take i ++ [x] ∧ A = some ⟨b, o, none⟩ ∧ w.cell? ⟨b, o + i * 2, none⟩ = some (.int .i64 (x.1 : Int)) ∧ w.cell? ⟨b, o + i * 2 + 1, none⟩ = some (.int .i64 (x.2 : Int)) := by
  subst hn
  obtain ⟨b, o, h1, h2, h3⟩ := pair_at h hi
  have := sCells_at l i hi
  exact ⟨l[i], b, o, List.getElem?_eq_getElem hi, List.drop_eq_getElem_cons hi, by rw [List.take_add_one, List.getElem?_eq_getElem hi]; rfl, h1, by rw [h2, this.1], by rw [h3, this.2]⟩
theorem infoTok : (Tryz.prog.info? 51).map (fun i => (i.zero, i.size, i.bytes)) = some (some (.agg #[.string { data := #[] }, .int .i64 0]), 2, 24) := by kernel_rfl

def tCells (l : List (ByteArray × Nat)) : List Value := l.flatMap fun x => [.string x.1, .int .i64 (x.2 : Int)]
theorem tCells_append (l m : List (ByteArray × Nat)) : tCells (l ++ m) = tCells l ++ tCells m := by simp [tCells]
theorem tCells_length : ∀ l : List (ByteArray × Nat), (tCells l).length = l.length * 2
  | [] => rfl
  | x :: l => by
    have := tCells_length l
    show (tCells l).length + 1 + 1 = _
    rw [this, List.length_cons]; omega
theorem tpair_one (x : ByteArray) (y : Int) : ∀ u ∈ [Value.string x, .int .i64 y], u.oneCell' = true := by
  intro u hu
  simp only [List.mem_cons, List.mem_nil_iff, or_false] at hu
  rcases hu with rfl | rfl <;> simp [Value.oneCell']
theorem term_size (s : ByteArray) (x : Nat × Nat) : (term s x).size ≤ 4 * s.size := by
  rw [term, strOfNums_size]
  have := textF_length (s.extract x.1 x.2) _ 0 rfl
  rw [ByteArray.size_extract] at this
  omega
set_option maxHeartbeats 4000000 in
theorem words_calls (s : ByteArray) (hs : s.size ≤ 16777216) (w : World) (hL : Laid w) :
    Calls Tryz.prog 27 #[.string s] w fun e w' => ∃ v, e = .returned v ∧ w'.ownsRow w.heap.size 51 2 v (toks s 0 (spans s 0)).length (tCells (toks s 0 (spans s 0))) ∧ Below w.heap.size w w' := by
  have HL := Lib.hid hL
  clear hL
  have hlen := spans_length s 0
  have HR := Lib.hid (spans_range s 0 (Nat.zero_le _))
  go_enter Tryz.func27, Tryz.ntmps27
  go_wp2_with fail
  refine (spans0_calls s hs _).mono ?_
  rintro e w1 ⟨v, rfl, ho, hb⟩
  obtain ⟨A, c, rfl, hsl⟩ := own_form ho
  have HB1 := Lib.hid hb
  have HS := Lib.hid hsl
  have HL1 := Lib.hid (HL.out.below hb)
  have hs1 := hb.size
  have hcc := hsl.2.1
  have hcm := hsl.2.2.1
  unfold maxLen at hcm
  clear ho hb hsl
  generalize hsp : spans s 0 = l at *
  have HSP := Lib.hid hsp
  clear hsp
  generalize hn : l.length = n at *
  go_wp2_with fail
  go_loopw [3, 10] (fun out ix wr => ∃ (i : Nat) (tl : List (ByteArray × Nat)), i ≤ n ∧ ix = .int .i64 i ∧ tl.length ≤ i ∧ wr.ownsRow w1.heap.size 51 2 out tl.length (tCells tl) ∧ Hid (tl ++ toks s i (l.drop i) = toks s 0 l) ∧ Below w1.heap.size w1 wr) (fun _ ix _ => n - (intOf ix).toNat)
  case atStart => exact ⟨0, [], Nat.zero_le _, rfl, Nat.le_refl _, World.ownsRow_nil _ _ _ _, rfl, Below.refl _ _⟩
  case round =>
    obtain ⟨i, tl, hi, rfl, htl, ho, HV, hb⟩ := hrel
    obtain ⟨A3, c3, rfl, hsl3⟩ := own_form ho
    have HO := Lib.hid ho
    have HB := Lib.hid hb
    have HS1 := Lib.hid (HS.out.below hb)
    have HL2 := Lib.hid (HL1.out.below hb)
    have hbs := hb.size
    clear ho hb hsl3
    by_cases hlt : i < n
    · obtain ⟨⟨f, t⟩, b, o, hx, hd, htk, rfl, hc0, hc1⟩ := span_at HS1.out hn hlt
      simp only at hc0 hc1
      have hrg := HR.out (f, t) (List.mem_of_getElem? hx)
      simp only at hrg
      have HST : Hid (toks s i (l.drop i) = (if keepT i (term s (f, t)) then [(term s (f, t), i)] else []) ++ toks s (i + 1) (l.drop (i + 1))) := by
        show _ = _
        rw [hd]; rfl
      have hsl2 := slice_str (P := Tryz.prog) Tryz.underlying9 s .i64 .i64 (f : Int) (t : Int) f t rfl rfl (by omega) hrg.2.2
      have hts := term_size s (f, t)
      have cx := fun W h => text_calls (s.extract f t) (by rw [ByteArray.size_extract]; omega) W h
      rw [show strOfNums (textF (s.extract f t) 0) = term s (f, t) from rfl] at cx
      clear hd htk hx
      generalize term s (f, t) = q at *
      generalize hw0 : wr.alloc (.cells #[.int .i64 (f : Int), .int .i64 (t : Int)] 83) = w0 at *
      have hb0 : Below wr.heap.size wr w0 := by rw [← hw0]; exact (Below.refl _ _).alloc (Nat.le_refl _) _
      have hca : w0.cell? ⟨wr.heap.size, 0, none⟩ = some (.int .i64 (f : Int)) := by rw [← hw0]; exact cell_new _ _ _ _ 0
      have hcb : w0.cell? ⟨wr.heap.size, 1, none⟩ = some (.int .i64 (t : Int)) := by rw [← hw0]; exact cell_new _ _ _ _ 1
      have HL3 := Lib.hid (HL2.out.below hb0)
      have HO0 := Lib.hid (own_below HO.out hb0)
      have HB0 := Lib.hid (HB.out.trans (hb0.mono hbs))
      have hbs0 := HB0.out.size
      clear hb0
      cases hk : keepT i q
      · have HN : Hid (tl ++ toks s (i + 1) (l.drop (i + 1)) = toks s 0 l) := by
          have h := HV.out
          rw [HST.out, hk] at h
          exact h
        have hcase : (60 : Int) ≤ i ∨ ((i : Int) < 60 ∧ (20 : Int) < q.size) := by
          simp only [keepT, Bool.and_eq_false_iff, decide_eq_false_iff_not] at hk
          omega
        clear hk
        rcases hcase with hk1 | ⟨hk1, hk2⟩
        · go_wp2_with fail
          refine (cx _ HL3.out).mono ?_
          rintro e w2 ⟨rfl, hb2⟩
          have HB2 := Lib.hid (HB0.out.trans (hb2.mono hbs0))
          have HO2 := Lib.hid (own_below HO0.out hb2)
          clear hb2
          go_wp2_with fail
          go_roundw
          case rel => exact ⟨i + 1, tl, by omega, by go_num, by omega, HO2.out, HN.out, HB2.out⟩
          case measure => simp [intOf]; omega
        · go_wp2_with fail
          refine (cx _ HL3.out).mono ?_
          rintro e w2 ⟨rfl, hb2⟩
          have HB2 := Lib.hid (HB0.out.trans (hb2.mono hbs0))
          have HO2 := Lib.hid (own_below HO0.out hb2)
          clear hb2
          go_wp2_with fail
          go_roundw
          case rel => exact ⟨i + 1, tl, by omega, by go_num, by omega, HO2.out, HN.out, HB2.out⟩
          case measure => simp [intOf]; omega
      · have HN : Hid ((tl ++ [(q, i)]) ++ toks s (i + 1) (l.drop (i + 1)) = toks s 0 l) := by
          have h := HV.out
          rw [HST.out, hk, ← List.append_assoc] at h
          exact h
        obtain ⟨hk1, hk2⟩ : (i : Int) < 60 ∧ (q.size : Int) ≤ 20 := by
          simp only [keepT, Bool.and_eq_true, decide_eq_true_eq] at hk
          omega
        clear hk
        go_wp2_with fail
        refine (cx _ HL3.out).mono ?_
        rintro e w2 ⟨rfl, hb2⟩
        have HB2 := Lib.hid (HB0.out.trans (hb2.mono hbs0))
        have HO2 := Lib.hid (own_below HO0.out hb2)
        have hbs2 := HB2.out.size
        clear hb2
        go_wp2_with (at_builtin; refine wpList_app_own _ rfl (.tmp 29) (.tmp 33) 48 rfl w1.heap.size 51 (.agg #[.string { data := #[] }, .int .i64 0]) 2 24 Tryz.underlying48 infoTok rfl (by decide) _ tl.length (tCells tl) rfl (own_below HO2.out ((Below.refl _ _).alloc (Nat.le_refl _) _)) _ 1 1 [.string q, .int .i64 (i : Int)] rfl (sl_lit2 _ #[.string q, .int .i64 (i : Int)] 51 2 1 rfl (by decide)) (tpair_one _ _) (by unfold maxLen; omega) (by omega) (by simp; omega) ?_)
        intro v' w3 ho3 hg3 hb3
        have HO3 := Lib.hid ho3
        have HB3 := Lib.hid ((HB2.out.alloc hbs2 _).trans hb3)
        obtain ⟨A4, c4, rfl, _⟩ := own_form ho3
        clear ho3 hg3 hb3
        go_wp2_with fail
        go_roundw
        case rel =>
          refine ⟨i + 1, tl ++ [(q, i)], by omega, by go_num, by simp; omega, ?_, HN.out, HB3.out⟩
          rw [tCells_append, List.length_append]
          exact HO3.out
        case measure => simp [intOf]; omega
    · obtain rfl : i = n := by omega
      have HT : Hid (tl = toks s 0 l) := by
        have h := HV.out
        rw [List.drop_eq_nil_of_le (by omega)] at h
        have h2 : tl ++ [] = toks s 0 l := h
        rw [List.append_nil] at h2
        exact h2
      go_wp2_with fail
      go_ret
      exact ⟨_, rfl, by rw [HSP.out, ← HT.out]; exact own_base HO.out hs1, HB1.out.trans (HB.out.mono hs1)⟩
end Tok
end Go.Proofs.YtfohollhdaedlaaGreatDoor
