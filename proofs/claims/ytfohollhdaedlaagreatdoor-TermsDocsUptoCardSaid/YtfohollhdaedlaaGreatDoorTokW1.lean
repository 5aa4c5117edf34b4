/- The walks: token.spans, Spans, Count. -/
import Derived.Test.YtfohollhdaedlaaGreatDoorFold4
import Derived.Test.YtfohollhdaedlaaGreatDoorTokMark
import Derived.BigRegion
set_option linter.unusedVariables false
set_option linter.unusedSimpArgs false
set_option maxRecDepth 100000
namespace Go.Proofs.YtfohollhdaedlaaGreatDoor
open Go.RowKit Utf Fold
namespace Tok
/-- Where words stand, as it lies in memory. -/
def sCells (l : List (Nat × Nat)) : List Value := l.flatMap fun x => [.int .i64 (x.1 : Int), .int .i64 (x.2 : Int)]
theorem sCells_length : ∀ l : List (Nat × Nat), (sCells l).length = l.length * 2
  | [] => rfl
  | x :: l => by
    have := sCells_length l
    show (sCells l).length + 1 + 1 = _
    rw [this, List.length_cons]; omega
theorem sCells_append (l m : List (Nat × Nat)) : sCells (l ++ m) = sCells l ++ sCells m := by simp [sCells]
theorem sCells_at : ∀ (l : List (Nat × Nat)) (i : Nat) (h : i < l.length), (sCells l)[i * 2]? = some (.int .i64 (l[i].1 : Int)) ∧ (sCells l)[i * 2 + 1]? = some (.int .i64 (l[i].2 : Int))
  | x :: l, 0, _ => ⟨rfl, rfl⟩
  | x :: l, i + 1, h => by
    have := sCells_at l i (by simpa using h)
    have e : sCells (x :: l) = .int .i64 (x.1 : Int) :: .int .i64 (x.2 : Int) :: sCells l := rfl
    rw [e, show (i + 1) * 2 = i * 2 + 1 + 1 by omega]
    exact ⟨by simpa using this.1, by simpa using this.2⟩
theorem sCells_one (l : List (Nat × Nat)) : ∀ u ∈ sCells l, u.oneCell' = true := by
  intro u hu
  obtain ⟨x, _, hx⟩ := List.mem_flatMap.1 hu
  simp only [List.mem_cons, List.mem_nil_iff, or_false] at hx
  rcases hx with rfl | rfl <;> simp [Value.oneCell']
theorem sCells_last (init : List (Nat × Nat)) (f a b : Nat) : (sCells (init ++ [(f, a)])).set (init.length * 2 + 1) (.int .i64 (b : Int)) = sCells (init ++ [(f, b)]) := by
  rw [sCells_append, sCells_append]
  have h : (sCells init).length = init.length * 2 := sCells_length init
  rw [List.set_append_right _ _ (by omega), h, show init.length * 2 + 1 - init.length * 2 = 1 by omega]
  rfl
theorem pair_one (x y : Int) : ∀ u ∈ [Value.int .i64 x, .int .i64 y], u.oneCell' = true := by
  intro u hu
  simp only [List.mem_cons, List.mem_nil_iff, or_false] at hu
  rcases hu with rfl | rfl <;> simp [Value.oneCell']
theorem sl_lit2 (w : World) (cs : Array Value) (e : TypeId) (size n : Nat) (hn : cs.size = n * size) (hm : n ≤ maxLen) :
    IsSl (w.alloc (.cells cs e)) size (some ⟨w.heap.size, 0, none⟩) n n cs.toList := by
  obtain ⟨A, c, h, r⟩ := own_form (World.ownsRow_lit (base := w.heap.size) (e := e) w cs n (Nat.le_refl _) hm hn)
  injection h with h1 h2 h3
  subst h1 h3
  exact r
theorem infoSpan : (Tryz.prog.info? 83).map (fun i => (i.zero, i.size, i.bytes)) = some (some (.agg #[.int .i64 0, .int .i64 0]), 2, 16) := by kernel_rfl
theorem wrapAdv (s : ByteArray) (a : Nat) (h : a < s.size) (hs : s.size ≤ 16777216) : IntKind.i64.wrap ((a : Int) + (nx s a).2) = (adv s a : Int) := by
  have := adv_range s a h
  rw [IntKind.wrap_i64]; omega
theorem nx_i64 (s : ByteArray) (a : Nat) (h : a < s.size) : -9223372036854775808 ≤ (nx s a).1 ∧ (nx s a).1 ≤ 9223372036854775807 := by
  have := nx_step s a h; omega
theorem wd_neg {s : ByteArray} {a : Nat} (h : (nx s a).1 < 0) : wd s a = false := by rw [wd, decide_eq_false (by omega), Bool.false_and]
theorem wd_pos {s : ByteArray} {a : Nat} (h : 0 ≤ (nx s a).1) : wd s a = word (nx s a).1 := by rw [wd, decide_eq_true h, Bool.true_and]

set_option maxHeartbeats 4000000 in
theorem spans0_calls (s : ByteArray) (hs : s.size ≤ 16777216) (w : World) :
    Calls Tryz.prog 38 #[.string s] w fun e w' => ∃ v, e = .returned v ∧ w'.ownsRow w.heap.size 83 2 v (spans s 0).length (sCells (spans s 0)) ∧ Below w.heap.size w w' := by
  go_enter Tryz.func38, Tryz.ntmps38
  go_wp2_with fail
  go_loopw [3, 4, 5] (fun out inn at_ wr => ∃ (a : Nat) (l : List (Nat × Nat)) (v : Bool), at_ = .int .i64 (a : Int) ∧ a ≤ s.size ∧ l.length ≤ a ∧ wr.ownsRow w.heap.size 83 2 out l.length (sCells l) ∧ inn = .bool v ∧ Hid ((v = false ∧ l ++ spans s a = spans s 0) ∨ (v = true ∧ ∃ init f, l = init ++ [(f, a)] ∧ init ++ tailW s f a = spans s 0)) ∧ Below w.heap.size w wr) (fun _ _ at_ _ => s.size - (intOf at_).toNat)
  case atStart => exact ⟨0, [], false, rfl, Nat.zero_le _, Nat.zero_le _, World.ownsRow_nil _ _ _ _, rfl, .inl ⟨rfl, rfl⟩, Below.refl _ _⟩
  case round =>
    obtain ⟨a, l, v, rfl, ha, hla, hown, rfl, HV, hb⟩ := hrel
    obtain ⟨A, c, rfl, hsl⟩ := own_form hown
    have HB := Lib.hid hb
    have HO := Lib.hid hown
    clear hown hb hsl
    by_cases hlt : a < s.size
    · have hra := adv_range s a hlt
      have hwa := wrapAdv s a hlt hs
      have c1 := fun W => nx_calls s a hlt (by omega) W
      have hnr := nx_i64 s a hlt
      have HVN : Hid (wd s a = false → ∀ (w3 : World), w3.ownsRow w.heap.size 83 2 (.slice A l.length c) l.length (sCells l) → ∃ l' : List (Nat × Nat), l'.length ≤ adv s a ∧ w3.ownsRow w.heap.size 83 2 (.slice A l.length c) l'.length (sCells l') ∧ l' ++ spans s (adv s a) = spans s 0) := fun hw w3 ho => by
        rcases HV.out with ⟨_, h2⟩ | ⟨_, init, f, h2, h3⟩
        · exact ⟨l, by omega, ho, by rw [← spans_skip hlt hw]; exact h2⟩
        · refine ⟨l, by omega, ho, ?_⟩
          rw [tail_stop hlt hw] at h3
          rw [h2, ← h3]; simp
      cases hw : wd s a
      · have HN := Lib.hid (HVN.out hw)
        have hcase : (nx s a).1 < 0 ∨ (0 ≤ (nx s a).1 ∧ word (nx s a).1 = false) := by
          by_cases h0 : (nx s a).1 < 0
          · exact .inl h0
          · exact .inr ⟨by omega, by rw [← wd_pos (by omega)]; exact hw⟩
        clear HVN hw
        generalize hr : (nx s a).1 = r at *
        generalize (nx s a).2 = n at *
        rcases hcase with h0 | ⟨h0, hwr⟩
        · go_wp2_with fail
          refine (c1 _).mono ?_
          rintro e w1 ⟨rfl, hb1⟩
          have HB1 := Lib.hid (HB.out.trans (hb1.mono HB.out.size))
          have HO1 := Lib.hid (own_below HO.out hb1)
          clear hb1
          go_wp2_with fail
          go_roundw
          case rel =>
            obtain ⟨l', h1, h2, h3⟩ := HN.out _ HO1.out
            exact ⟨adv s a, l', false, by rw [hra.2.2], hra.2.1, h1, h2, rfl, .inl ⟨rfl, h3⟩, HB1.out⟩
          case measure => simp [intOf]; omega
        · have c2 := fun W => word_calls r hnr W
          rw [hwr] at c2
          go_wp2_with fail
          refine (c1 _).mono ?_
          rintro e w1 ⟨rfl, hb1⟩
          have HB1 := Lib.hid (HB.out.trans (hb1.mono HB.out.size))
          have HO1 := Lib.hid (own_below HO.out hb1)
          clear hb1
          go_wp2_with fail
          refine (c2 _).mono ?_
          rintro e w2 ⟨rfl, rfl⟩
          go_wp2_with fail
          go_roundw
          case rel =>
            obtain ⟨l', h1, h2, h3⟩ := HN.out _ HO1.out
            exact ⟨adv s a, l', false, by rw [hra.2.2], hra.2.1, h1, h2, rfl, .inl ⟨rfl, h3⟩, HB1.out⟩
          case measure => simp [intOf]; omega
      · clear HVN
        have h0 : 0 ≤ (nx s a).1 := by
          by_cases h0 : (nx s a).1 < 0
          · rw [wd_neg h0] at hw; cases hw
          · omega
        have hwr : word (nx s a).1 = true := by rw [← wd_pos h0]; exact hw
        have HW := Lib.hid hw
        clear hw
        cases v
        · have HV2 : Hid (l ++ [(a, adv s a)] = l ++ [(a, adv s a)] ∧ l ++ tailW s a (adv s a) = spans s 0) := by
            rcases HV.out with ⟨_, h2⟩ | ⟨h1, _⟩
            · exact ⟨rfl, by rw [tail_first hlt HW.out]; exact h2⟩
            · cases h1
          clear HV
          generalize hr : (nx s a).1 = r at *
          generalize (nx s a).2 = n at *
          have c2 := fun W => word_calls r hnr W
          rw [hwr] at c2
          go_wp2_with fail
          refine (c1 _).mono ?_
          rintro e w1 ⟨rfl, hb1⟩
          have HB1 := Lib.hid (HB.out.trans (hb1.mono HB.out.size))
          have HO1 := Lib.hid (own_below HO.out hb1)
          have hs1 := HB1.out.size
          clear hb1
          go_wp2_with fail
          refine (c2 _).mono ?_
          rintro e w2 ⟨rfl, rfl⟩
          go_wp2_with (at_builtin; refine wpList_app_own _ rfl (.tmp 31) (.tmp 37) 80 rfl w.heap.size 83 (.agg #[.int .i64 0, .int .i64 0]) 2 16 Tryz.underlying80 infoSpan rfl (by decide) _ l.length (sCells l) rfl (own_below HO1.out ((Below.refl _ _).alloc (Nat.le_refl _) _)) _ 1 1 [.int .i64 (a : Int), .int .i64 ((a : Int) + n)] rfl (sl_lit2 _ #[.int .i64 (a : Int), .int .i64 ((a : Int) + n)] 83 2 1 rfl (by decide)) (pair_one _ _) (by unfold maxLen; omega) (by omega) (by simp; omega) ?_)
          intro v' w3 ho3 hg3 hb3
          have HO3 := Lib.hid ho3
          have HB3 := Lib.hid (((HB1.out.alloc hs1 _)).trans hb3)
          obtain ⟨A3, c3, rfl, _⟩ := own_form ho3
          clear ho3 hg3 hb3
          go_wp2_with fail
          go_roundw
          case rel =>
            refine ⟨adv s a, l ++ [(a, adv s a)], true, by rw [hra.2.2], hra.2.1, by simp; omega, ?_, rfl, .inr ⟨rfl, l, a, rfl, HV2.out.2⟩, HB3.out⟩
            rw [sCells_append, List.length_append, show sCells [(a, adv s a)] = [.int .i64 (a : Int), .int .i64 (adv s a : Int)] from rfl, hra.2.2]
            exact HO3.out
          case measure => simp [intOf]; omega
        · obtain ⟨init, f, hl, hfin⟩ : ∃ init f, l = init ++ [(f, a)] ∧ init ++ tailW s f a = spans s 0 := by
            rcases HV.out with ⟨h1, _⟩ | ⟨_, h2⟩
            · cases h1
            · exact h2
          have HFIN : Hid (init ++ tailW s f (adv s a) = spans s 0) := by show _ = _; rw [tail_go hlt HW.out]; exact hfin
          clear HV hfin
          subst hl
          have hll : (init ++ [(f, a)]).length = init.length + 1 := by simp
          rw [hll] at HO hla ⊢
          generalize hr : (nx s a).1 = r at *
          generalize (nx s a).2 = n at *
          have c2 := fun W => word_calls r hnr W
          rw [hwr] at c2
          obtain ⟨g, rfl⟩ : ∃ g, A = some ⟨g, 0, none⟩ := by
            rcases HO.out.2 with ⟨h1, _⟩ | ⟨g, cap, cur, h1, _⟩
            · injection h1 with h1 h2 h3; omega
            · injection h1 with h1; exact ⟨g, h1⟩
          have hm1 : IntKind.i64.wrap ((init.length : Int) + 1 - 1) = init.length := by rw [IntKind.wrap_i64]; omega
          go_wp2_with fail
          refine (c1 _).mono ?_
          rintro e w1 ⟨rfl, hb1⟩
          have HB1 := Lib.hid (HB.out.trans (hb1.mono HB.out.size))
          have HO1 := Lib.hid (own_below HO.out hb1)
          have hs1 := HB1.out.size
          have hcell : w1.cell? ⟨g, init.length * 2 + 1, none⟩ = some (.int .i64 (a : Int)) := by
            rw [HO1.out.cellAt _ (by omega)]
            have := (sCells_at (init ++ [(f, a)]) init.length (by simp)).2
            simpa using this
          have hfroz : w1.frozen? ⟨g, init.length * 2 + 1, none⟩ = false := HO1.out.frozenAt _
          have HST := Lib.hid (HO1.out.stored (init.length * 2 + 1) (.int .i64 (adv s a : Int)))
          clear hb1
          go_wp2_with fail
          refine (c2 _).mono ?_
          rintro e w2 ⟨rfl, rfl⟩
          go_wp2_with fail
          go_roundw
          case rel =>
            have h1 := HST.out.1
            rw [hra.2.2] at h1
            refine ⟨adv s a, init ++ [(f, adv s a)], true, by rw [hra.2.2], hra.2.1, by simp; omega, ?_, rfl, .inr ⟨rfl, init, f, rfl, HFIN.out⟩, ?_⟩
            · have h2 := sCells_last init f a (adv s a)
              rw [hra.2.2] at h2
              rw [h2] at h1
              simpa using h1
            · exact HB1.out.grown (by have := HST.out.2; rw [hra.2.2] at this; exact this) hs1 (fun k hk => by cases hk; exact (HO1.out.lt g rfl).1)
          case measure => simp [intOf]; omega
    · have hE : a = s.size := by omega
      have HFIN : Hid (l = spans s 0) := by
        rcases HV.out with ⟨_, h2⟩ | ⟨_, init, f, h2, h3⟩
        · rw [spans_end hlt, List.append_nil] at h2; exact h2
        · rw [tail_end hlt] at h3; exact h2.trans h3
      clear HV
      go_wp2_with fail
      go_ret
      exact ⟨_, rfl, by rw [← HFIN.out]; exact HO.out, HB.out⟩
end Tok
end Go.Proofs.YtfohollhdaedlaaGreatDoor
