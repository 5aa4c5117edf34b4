/- The walk: the reference's Pieces. -/
import Derived.Test.YtfohollhdaedlaaGreatDoorTokW2
import Derived.BigRegion
set_option linter.unusedVariables false
set_option linter.unusedSimpArgs false
set_option maxRecDepth 100000
namespace Go.Proofs.YtfohollhdaedlaaGreatDoor
open Go.RowKit Utf Fold
namespace Tok
/-- A text's parts, as they lie in memory. -/
def pCells (s : ByteArray) (l : List (Nat × Nat × Bool)) : List Value := l.flatMap fun p => [.string (s.extract p.1 p.2.1), .bool p.2.2]
theorem pCells_append (s : ByteArray) (l m : List (Nat × Nat × Bool)) : pCells s (l ++ m) = pCells s l ++ pCells s m := by simp [pCells]
theorem pCells_length (s : ByteArray) : ∀ l : List (Nat × Nat × Bool), (pCells s l).length = l.length * 2
  | [] => rfl
  | x :: l => by
    have := pCells_length s l
    show (pCells s l).length + 1 + 1 = _
    rw [this, List.length_cons]; omega
theorem pCells_at (s : ByteArray) : ∀ (l : List (Nat × Nat × Bool)) (i : Nat) (h : i < l.length), (pCells s l)[i * 2]? = some (.string (s.extract l[i].1 l[i].2.1)) ∧ (pCells s l)[i * 2 + 1]? = some (.bool l[i].2.2)
  | x :: l, 0, _ => ⟨rfl, rfl⟩
  | x :: l, i + 1, h => by
    have := pCells_at s l i (by simpa using h)
    have e : pCells s (x :: l) = .string (s.extract x.1 x.2.1) :: .bool x.2.2 :: pCells s l := rfl
    rw [e, show (i + 1) * 2 = i * 2 + 1 + 1 by omega]
    exact ⟨by simpa using this.1, by simpa using this.2⟩
theorem ppair_one (x : ByteArray) (y : Bool) : ∀ u ∈ [Value.string x, .bool y], u.oneCell' = true := by
  intro u hu
  simp only [List.mem_cons, List.mem_nil_iff, or_false] at hu
  rcases hu with rfl | rfl <;> simp [Value.oneCell']
theorem pCells_last (s : ByteArray) (init : List (Nat × Nat × Bool)) (f a b : Nat) (v : Bool) : (pCells s (init ++ [(f, a, v)])).set (init.length * 2) (.string (s.extract f b)) = pCells s (init ++ [(f, b, v)]) := by
  rw [pCells_append, pCells_append]
  have h : (pCells s init).length = init.length * 2 := pCells_length s init
  rw [List.set_append_right _ _ (by omega), h, Nat.sub_self]
  rfl
theorem grown_drew {w w' : World} {row : Option Nat} (h : w.grownBy w' row) : w.grownBy w'.drew row := ⟨h.os, h.tape, h.output, h.size, h.block⟩
theorem infoPiece : (Tryz.prog.info? 118).map (fun i => (i.zero, i.size, i.bytes)) = some (some (.agg #[.string { data := #[] }, .bool false]), 2, 24) := by kernel_rfl
/-- The parts, when the first n signs' ends have been gone through: the last one goes on at place a. -/
def Upto (s : ByteArray) (l : List (Nat × Nat × Bool)) (a : Nat) : Prop :=
  (l = [] ∧ a = 0) ∨ ∃ init f v, l = init ++ [(f, a, v)] ∧ f ≤ a ∧ init ++ tailP s f v a = pieces s 0
theorem ends_drop (s : ByteArray) : ∀ n a, s.size - a = n → ∀ (i : Nat) (l : List Int), l.drop i = endsF s a → a < s.size → l[i]? = some (adv s a : Int) ∧ l.drop (i + 1) = endsF s (adv s a) := by
  intro n a hn i l h ha
  rw [endsF_go ha] at h
  have h1 : l[i]? = (l.drop i)[0]? := by simp
  refine ⟨by rw [h1, h]; rfl, ?_⟩
  have h2 : l.drop (i + 1) = (l.drop i).drop 1 := by rw [List.drop_drop]
  rw [h2, h]; rfl

set_option maxHeartbeats 8000000 in
theorem pieces_calls (s : ByteArray) (hs : s.size ≤ 16777216) (w : World) :
    Calls Tryz.prog 68 #[.string s] w fun e w' => ∃ v, e = .returned v ∧ w'.ownsRow w.heap.size 118 2 v (pieces s 0).length (pCells s (pieces s 0)) ∧ Below w.heap.size w w' := by
  have hel := endsF_length s _ 0 rfl
  have hcl := countF_le s _ 0 rfl
  go_enter Tryz.func68, Tryz.ntmps68
  go_wp2_with fail
  refine (rends_calls s hs _).mono ?_
  rintro e w1 ⟨v, rfl, ho, hb⟩
  obtain ⟨A, c, rfl, hsl⟩ := own_form ho
  have HB1 := Lib.hid hb
  have HS := Lib.hid hsl
  have hs1 := hb.size
  have hcc := hsl.2.1
  have hcm := hsl.2.2.1
  unfold maxLen at hcm
  clear ho hb hsl
  generalize hL : endsF s 0 = L at *
  have HL := Lib.hid hL
  clear hL
  generalize hn : L.length = n at *
  go_wp2_with fail
  go_loopw [3, 4, 14] (fun out at_ ix wr => ∃ (i a : Nat) (l : List (Nat × Nat × Bool)), i ≤ n ∧ ix = .int .i64 i ∧ at_ = .int .i64 (a : Int) ∧ a ≤ s.size ∧ l.length ≤ a ∧ Hid (L.drop i = endsF s a) ∧ wr.ownsRow w1.heap.size 118 2 out l.length (pCells s l) ∧ Hid (Upto s l a) ∧ Below w1.heap.size w1 wr) (fun _ _ ix _ => n - (intOf ix).toNat)
  case atStart => exact ⟨0, 0, [], Nat.zero_le _, rfl, rfl, Nat.zero_le _, Nat.le_refl _, HL.out.symm, World.ownsRow_nil _ _ _ _, .inl ⟨rfl, rfl⟩, Below.refl _ _⟩
  case round =>
    obtain ⟨i, a, l, hi, rfl, rfl, ha, hla, HD, ho, HU, hb⟩ := hrel
    obtain ⟨A3, c3, rfl, hsl3⟩ := own_form ho
    have HO := Lib.hid ho
    have HB := Lib.hid hb
    have HS1 := Lib.hid (HS.out.below hb)
    have hbs := hb.size
    clear ho hb hsl3
    by_cases hlt : i < n
    · have ha2 : a < s.size := by
        by_cases h : a < s.size
        · exact h
        · have h2 := HD.out
          rw [endsF_end h] at h2
          have h3 := congrArg List.length h2
          rw [List.length_drop, List.length_nil] at h3
          omega
      obtain ⟨hLi, hdr⟩ := ends_drop s _ a rfl i L HD.out ha2
      have HD2 := Lib.hid hdr
      have hra := adv_range s a ha2
      obtain ⟨ad, rfl, hcell⟩ := HS1.out.at_ hlt
      rw [List.getD_eq_getElem?_getD, List.getElem?_map, hLi] at hcell
      simp only [Option.map_some, Option.getD_some] at hcell
      have c1 := fun W => rnx_calls s a ha2 (by omega) W
      have hnr := nx_i64 s a ha2
      have hsl2 := slice_str (P := Tryz.prog) Tryz.underlying9 s .i64 .i64 (a : Int) (adv s a : Int) a (adv s a) rfl rfl (by omega) hra.2.1
      have hwd : wd s a = (decide (0 ≤ (nx s a).1) && word (nx s a).1) := rfl
      generalize hq : adv s a = q at *
      have HQ := Lib.hid hq
      have hqa := hra.1
      have hqs := hra.2.1
      clear hq hLi hdr HD hra
      generalize (nx s a).1 = r at *
      generalize (nx s a).2 = n2 at *
      obtain ⟨wv, hwv⟩ : ∃ wv, wd s a = wv := ⟨_, rfl⟩
      have HW := Lib.hid hwv
      rw [hwv] at hwd
      clear hwv
      by_cases h0 : r < 0
      · have hwf : wv = false := by rw [hwd, decide_eq_false (by omega), Bool.false_and]
        clear hwd
        subst hwf
        rcases HU.out with ⟨rfl, ha0⟩ | ⟨init, f, v, rfl, hfa, hfin⟩
        · have HN : Hid (Upto s [(a, q, false)] q) := .inr ⟨[], a, false, rfl, by omega, by
            have h := tailP_first ha2
            rw [HW.out, HQ.out] at h
            rw [List.nil_append, h, ha0]⟩
          clear HU ha0
          go_wp2_with fail
          refine (c1 _).mono ?_
          rintro e w2 ⟨rfl, hb2⟩
          have HB2 := Lib.hid (HB.out.trans (hb2.mono hbs))
          have HO2 := Lib.hid (own_below HO.out hb2)
          have hbs2 := HB2.out.size
          clear hb2
          go_wp2_with (at_builtin; refine wpList_app_own _ rfl (.tmp 60) (.tmp 67) 115 rfl w1.heap.size 118 (.agg #[.string { data := #[] }, .bool false]) 2 24 Tryz.underlying115 infoPiece rfl (by decide) _ 0 [] rfl (own_below HO2.out ((Below.refl _ _).alloc (Nat.le_refl _) _)) _ 1 1 [.string (s.extract a q), .bool false] rfl (sl_lit2 _ #[.string (s.extract a q), .bool false] 118 2 1 rfl (by decide)) (ppair_one _ _) (by unfold maxLen; omega) (by omega) (by simp; omega) ?_)
          intro v' w4 ho4 hg4 hb4
          have HO4 := Lib.hid ho4
          have HB4 := Lib.hid ((HB2.out.alloc hbs2 _).trans hb4)
          obtain ⟨A4, c4, rfl, _⟩ := own_form ho4
          clear ho4 hg4 hb4
          go_wp2_with fail
          go_roundw
          case rel => exact ⟨i + 1, q, [(a, q, false)], by omega, by go_num, rfl, by omega, by simp; omega, HD2.out, HO4.out, HN.out, HB4.out⟩
          case measure => simp [intOf]; omega
        · have hll : (init ++ [(f, a, v)]).length = init.length + 1 := by simp
          rw [hll] at HO hla ⊢
          obtain ⟨g, rfl⟩ : ∃ g, A3 = some ⟨g, 0, none⟩ := by
            rcases HO.out.2 with ⟨h1, _⟩ | ⟨g, cap, cur, h1, _⟩
            · injection h1 with h1 h2 h3; omega
            · injection h1 with h1; exact ⟨g, h1⟩
          have hm1 : IntKind.i64.wrap ((init.length : Int) + 1 - 1) = init.length := by rw [IntKind.wrap_i64]; omega
          have hm2 : IntKind.i64.wrap (init.length : Int) = init.length := by rw [IntKind.wrap_i64]; omega
          have hm3 : (init.length : Int) < (init.length : Int) + 1 := by omega
          have hga := (HO.out.lt g rfl).1
          have hlast := pCells_at s (init ++ [(f, a, v)]) init.length (by simp)
          simp only [List.getElem_append_right (Nat.le_refl _), Nat.sub_self, List.getElem_cons_zero] at hlast
          have HLA := Lib.hid hlast
          clear hlast
          cases hvw : v
          · subst hvw
            have HN : Hid (Upto s (init ++ [(f, q, false)]) q) := .inr ⟨init, f, false, rfl, by omega, by
              have h := tailP_go (s := s) (f := f) ha2
              rw [HW.out, HQ.out] at h
              rw [h]; exact hfin⟩
            have hjo : s.extract f a ++ s.extract a q = s.extract f q := extract_join s f a q hfa (by omega)
            have HJO := Lib.hid hjo
            have hzz : (s.extract f a).size + (s.extract a q).size ≤ 140737488355327 := by rw [ByteArray.size_extract, ByteArray.size_extract]; omega
            clear HU hfin hjo
            generalize s.extract a q = y at *
            generalize hx : s.extract f a = x at *
            go_wp2_with fail
            refine (c1 _).mono ?_
            rintro e w2 ⟨rfl, hb2⟩
            have HB2 := Lib.hid (HB.out.trans (hb2.mono hbs))
            have HO2 := Lib.hid (own_below HO.out hb2)
            have hbs2 := HB2.out.size
            clear hb2
            have hcT : w2.cell? ⟨g, init.length * 2, none⟩ = some (.string x) := by rw [HO2.out.cellAt _ (by omega)]; exact HLA.out.1
            have hcW : w2.cell? ⟨g, init.length * 2 + 1, none⟩ = some (.bool false) := by rw [HO2.out.cellAt _ (by omega)]; exact HLA.out.2
            have hfT : w2.frozen? ⟨g, init.length * 2, none⟩ = false := HO2.out.frozenAt _
            have HST := Lib.hid (HO2.out.stored (init.length * 2) (.string (x ++ y)))
            go_wp2_with fail
            go_region
            go_wp2_with fail
            go_roundw
            case rel =>
              refine ⟨i + 1, q, init ++ [(f, q, false)], by omega, by go_num, rfl, by omega, by simp; omega, HD2.out, ?_, HN.out, ?_⟩
              · have h1 := HST.out.1
                have h2 := pCells_last s init f a q false
                rw [HJO.out, h2] at h1
                have h3 : (w2.setCell ⟨g, init.length * 2, none⟩ (.string (s.extract f q))).drew.ownsRow w1.heap.size 118 2 (.slice (some ⟨g, 0, none⟩) (init.length + 1) c3) (init.length + 1) (pCells s (init ++ [(f, q, false)])) := h1
                rw [HJO.out]
                simpa using h3
              · have h4 : w2.grownBy (w2.setCell ⟨g, init.length * 2, none⟩ (.string (x ++ y))).drew (some g) := grown_drew HST.out.2
                exact HB2.out.grown h4 hbs2 (fun k hk => by cases hk; exact hga)
            case measure => simp [intOf]; omega
          · subst hvw
            have HN : Hid (Upto s (init ++ [(f, a, true)] ++ [(a, q, false)]) q) := .inr ⟨init ++ [(f, a, true)], a, false, rfl, by omega, by
              have h := tailP_turn (s := s) (f := f) (v := true) ha2 (by rw [HW.out]; decide)
              rw [HW.out, HQ.out] at h
              rw [List.append_assoc, ← hfin, h]; rfl⟩
            clear HU hfin
            go_wp2_with fail
            refine (c1 _).mono ?_
            rintro e w2 ⟨rfl, hb2⟩
            have HB2 := Lib.hid (HB.out.trans (hb2.mono hbs))
            have HO2 := Lib.hid (own_below HO.out hb2)
            have hbs2 := HB2.out.size
            clear hb2
            have hcT : w2.cell? ⟨g, init.length * 2, none⟩ = some (.string (s.extract f a)) := by rw [HO2.out.cellAt _ (by omega)]; exact HLA.out.1
            have hcW : w2.cell? ⟨g, init.length * 2 + 1, none⟩ = some (.bool true) := by rw [HO2.out.cellAt _ (by omega)]; exact HLA.out.2
            go_wp2_with (at_builtin; refine wpList_app_own _ rfl (.tmp 60) (.tmp 67) 115 rfl w1.heap.size 118 (.agg #[.string { data := #[] }, .bool false]) 2 24 Tryz.underlying115 infoPiece rfl (by decide) _ (init.length + 1) (pCells s (init ++ [(f, a, true)])) rfl (own_below HO2.out ((Below.refl _ _).alloc (Nat.le_refl _) _)) _ 1 1 [.string (s.extract a q), .bool false] rfl (sl_lit2 _ #[.string (s.extract a q), .bool false] 118 2 1 rfl (by decide)) (ppair_one _ _) (by unfold maxLen; omega) (by omega) (by simp; omega) ?_)
            intro v' w4 ho4 hg4 hb4
            have HO4 := Lib.hid ho4
            have HB4 := Lib.hid ((HB2.out.alloc hbs2 _).trans hb4)
            obtain ⟨A4, c4, rfl, _⟩ := own_form ho4
            clear ho4 hg4 hb4
            go_wp2_with fail
            go_roundw
            case rel =>
              refine ⟨i + 1, q, init ++ [(f, a, true)] ++ [(a, q, false)], by omega, by go_num, rfl, by omega, by simp; omega, HD2.out, ?_, HN.out, HB4.out⟩
              rw [pCells_append s (init ++ [(f, a, true)]), List.length_append, hll]
              exact HO4.out
            case measure => simp [intOf]; omega
      · have h0' : 0 ≤ r := by omega
        have hww : word r = wv := by rw [hwd, decide_eq_true h0', Bool.true_and]
        clear hwd h0
        have c2 := fun W => rword_calls r W
        rw [hww] at c2
        clear hww
        cases wv
        · rcases HU.out with ⟨rfl, ha0⟩ | ⟨init, f, v, rfl, hfa, hfin⟩
          · have HN : Hid (Upto s [(a, q, false)] q) := .inr ⟨[], a, false, rfl, by omega, by
              have h := tailP_first ha2
              rw [HW.out, HQ.out] at h
              rw [List.nil_append, h, ha0]⟩
            clear HU ha0
            go_wp2_with fail
            refine (c1 _).mono ?_
            rintro e w2 ⟨rfl, hb2⟩
            have HB2 := Lib.hid (HB.out.trans (hb2.mono hbs))
            have HO2 := Lib.hid (own_below HO.out hb2)
            have hbs2 := HB2.out.size
            clear hb2
            go_wp2_with fail
            refine (c2 _).mono ?_
            rintro e w3 ⟨rfl, rfl⟩
            go_wp2_with (at_builtin; refine wpList_app_own _ rfl (.tmp 60) (.tmp 67) 115 rfl w1.heap.size 118 (.agg #[.string { data := #[] }, .bool false]) 2 24 Tryz.underlying115 infoPiece rfl (by decide) _ 0 [] rfl (own_below HO2.out ((Below.refl _ _).alloc (Nat.le_refl _) _)) _ 1 1 [.string (s.extract a q), .bool false] rfl (sl_lit2 _ #[.string (s.extract a q), .bool false] 118 2 1 rfl (by decide)) (ppair_one _ _) (by unfold maxLen; omega) (by omega) (by simp; omega) ?_)
            intro v' w4 ho4 hg4 hb4
            have HO4 := Lib.hid ho4
            have HB4 := Lib.hid ((HB2.out.alloc hbs2 _).trans hb4)
            obtain ⟨A4, c4, rfl, _⟩ := own_form ho4
            clear ho4 hg4 hb4
            go_wp2_with fail
            go_roundw
            case rel => exact ⟨i + 1, q, [(a, q, false)], by omega, by go_num, rfl, by omega, by simp; omega, HD2.out, HO4.out, HN.out, HB4.out⟩
            case measure => simp [intOf]; omega
          · have hll : (init ++ [(f, a, v)]).length = init.length + 1 := by simp
            rw [hll] at HO hla ⊢
            obtain ⟨g, rfl⟩ : ∃ g, A3 = some ⟨g, 0, none⟩ := by
              rcases HO.out.2 with ⟨h1, _⟩ | ⟨g, cap, cur, h1, _⟩
              · injection h1 with h1 h2 h3; omega
              · injection h1 with h1; exact ⟨g, h1⟩
            have hm1 : IntKind.i64.wrap ((init.length : Int) + 1 - 1) = init.length := by rw [IntKind.wrap_i64]; omega
            have hm2 : IntKind.i64.wrap (init.length : Int) = init.length := by rw [IntKind.wrap_i64]; omega
            have hm3 : (init.length : Int) < (init.length : Int) + 1 := by omega
            have hga := (HO.out.lt g rfl).1
            have hlast := pCells_at s (init ++ [(f, a, v)]) init.length (by simp)
            simp only [List.getElem_append_right (Nat.le_refl _), Nat.sub_self, List.getElem_cons_zero] at hlast
            have HLA := Lib.hid hlast
            clear hlast
            cases hvw : v
            · subst hvw
              have HN : Hid (Upto s (init ++ [(f, q, false)]) q) := .inr ⟨init, f, false, rfl, by omega, by
                have h := tailP_go (s := s) (f := f) ha2
                rw [HW.out, HQ.out] at h
                rw [h]; exact hfin⟩
              have hjo : s.extract f a ++ s.extract a q = s.extract f q := extract_join s f a q hfa (by omega)
              have HJO := Lib.hid hjo
              have hzz : (s.extract f a).size + (s.extract a q).size ≤ 140737488355327 := by rw [ByteArray.size_extract, ByteArray.size_extract]; omega
              clear HU hfin hjo
              generalize s.extract a q = y at *
              generalize hx : s.extract f a = x at *
              go_wp2_with fail
              refine (c1 _).mono ?_
              rintro e w2 ⟨rfl, hb2⟩
              have HB2 := Lib.hid (HB.out.trans (hb2.mono hbs))
              have HO2 := Lib.hid (own_below HO.out hb2)
              have hbs2 := HB2.out.size
              clear hb2
              have hcT : w2.cell? ⟨g, init.length * 2, none⟩ = some (.string x) := by rw [HO2.out.cellAt _ (by omega)]; exact HLA.out.1
              have hcW : w2.cell? ⟨g, init.length * 2 + 1, none⟩ = some (.bool false) := by rw [HO2.out.cellAt _ (by omega)]; exact HLA.out.2
              go_wp2_with fail
              refine (c2 _).mono ?_
              rintro e w3 ⟨rfl, rfl⟩
              have hfT : w3.frozen? ⟨g, init.length * 2, none⟩ = false := HO2.out.frozenAt _
              have HST := Lib.hid (HO2.out.stored (init.length * 2) (.string (x ++ y)))
              go_wp2_with fail
              go_region
              go_wp2_with fail
              go_roundw
              case rel =>
                refine ⟨i + 1, q, init ++ [(f, q, false)], by omega, by go_num, rfl, by omega, by simp; omega, HD2.out, ?_, HN.out, ?_⟩
                · have h1 := HST.out.1
                  have h2 := pCells_last s init f a q false
                  rw [HJO.out, h2] at h1
                  have h3 : (w3.setCell ⟨g, init.length * 2, none⟩ (.string (s.extract f q))).drew.ownsRow w1.heap.size 118 2 (.slice (some ⟨g, 0, none⟩) (init.length + 1) c3) (init.length + 1) (pCells s (init ++ [(f, q, false)])) := h1
                  rw [HJO.out]
                  simpa using h3
                · have h4 : w3.grownBy (w3.setCell ⟨g, init.length * 2, none⟩ (.string (x ++ y))).drew (some g) := grown_drew HST.out.2
                  exact HB2.out.grown h4 hbs2 (fun k hk => by cases hk; exact hga)
              case measure => simp [intOf]; omega
            · subst hvw
              have HN : Hid (Upto s (init ++ [(f, a, true)] ++ [(a, q, false)]) q) := .inr ⟨init ++ [(f, a, true)], a, false, rfl, by omega, by
                have h := tailP_turn (s := s) (f := f) (v := true) ha2 (by rw [HW.out]; decide)
                rw [HW.out, HQ.out] at h
                rw [List.append_assoc, ← hfin, h]; rfl⟩
              clear HU hfin
              go_wp2_with fail
              refine (c1 _).mono ?_
              rintro e w2 ⟨rfl, hb2⟩
              have HB2 := Lib.hid (HB.out.trans (hb2.mono hbs))
              have HO2 := Lib.hid (own_below HO.out hb2)
              have hbs2 := HB2.out.size
              clear hb2
              have hcT : w2.cell? ⟨g, init.length * 2, none⟩ = some (.string (s.extract f a)) := by rw [HO2.out.cellAt _ (by omega)]; exact HLA.out.1
              have hcW : w2.cell? ⟨g, init.length * 2 + 1, none⟩ = some (.bool true) := by rw [HO2.out.cellAt _ (by omega)]; exact HLA.out.2
              go_wp2_with fail
              refine (c2 _).mono ?_
              rintro e w3 ⟨rfl, rfl⟩
              go_wp2_with (at_builtin; refine wpList_app_own _ rfl (.tmp 60) (.tmp 67) 115 rfl w1.heap.size 118 (.agg #[.string { data := #[] }, .bool false]) 2 24 Tryz.underlying115 infoPiece rfl (by decide) _ (init.length + 1) (pCells s (init ++ [(f, a, true)])) rfl (own_below HO2.out ((Below.refl _ _).alloc (Nat.le_refl _) _)) _ 1 1 [.string (s.extract a q), .bool false] rfl (sl_lit2 _ #[.string (s.extract a q), .bool false] 118 2 1 rfl (by decide)) (ppair_one _ _) (by unfold maxLen; omega) (by omega) (by simp; omega) ?_)
              intro v' w4 ho4 hg4 hb4
              have HO4 := Lib.hid ho4
              have HB4 := Lib.hid ((HB2.out.alloc hbs2 _).trans hb4)
              obtain ⟨A4, c4, rfl, _⟩ := own_form ho4
              clear ho4 hg4 hb4
              go_wp2_with fail
              go_roundw
              case rel =>
                refine ⟨i + 1, q, init ++ [(f, a, true)] ++ [(a, q, false)], by omega, by go_num, rfl, by omega, by simp; omega, HD2.out, ?_, HN.out, HB4.out⟩
                rw [pCells_append s (init ++ [(f, a, true)]), List.length_append, hll]
                exact HO4.out
              case measure => simp [intOf]; omega
        · rcases HU.out with ⟨rfl, ha0⟩ | ⟨init, f, v, rfl, hfa, hfin⟩
          · have HN : Hid (Upto s [(a, q, true)] q) := .inr ⟨[], a, true, rfl, by omega, by
              have h := tailP_first ha2
              rw [HW.out, HQ.out] at h
              rw [List.nil_append, h, ha0]⟩
            clear HU ha0
            go_wp2_with fail
            refine (c1 _).mono ?_
            rintro e w2 ⟨rfl, hb2⟩
            have HB2 := Lib.hid (HB.out.trans (hb2.mono hbs))
            have HO2 := Lib.hid (own_below HO.out hb2)
            have hbs2 := HB2.out.size
            clear hb2
            go_wp2_with fail
            refine (c2 _).mono ?_
            rintro e w3 ⟨rfl, rfl⟩
            go_wp2_with (at_builtin; refine wpList_app_own _ rfl (.tmp 60) (.tmp 67) 115 rfl w1.heap.size 118 (.agg #[.string { data := #[] }, .bool false]) 2 24 Tryz.underlying115 infoPiece rfl (by decide) _ 0 [] rfl (own_below HO2.out ((Below.refl _ _).alloc (Nat.le_refl _) _)) _ 1 1 [.string (s.extract a q), .bool true] rfl (sl_lit2 _ #[.string (s.extract a q), .bool true] 118 2 1 rfl (by decide)) (ppair_one _ _) (by unfold maxLen; omega) (by omega) (by simp; omega) ?_)
            intro v' w4 ho4 hg4 hb4
            have HO4 := Lib.hid ho4
            have HB4 := Lib.hid ((HB2.out.alloc hbs2 _).trans hb4)
            obtain ⟨A4, c4, rfl, _⟩ := own_form ho4
            clear ho4 hg4 hb4
            go_wp2_with fail
            go_roundw
            case rel => exact ⟨i + 1, q, [(a, q, true)], by omega, by go_num, rfl, by omega, by simp; omega, HD2.out, HO4.out, HN.out, HB4.out⟩
            case measure => simp [intOf]; omega
          · have hll : (init ++ [(f, a, v)]).length = init.length + 1 := by simp
            rw [hll] at HO hla ⊢
            obtain ⟨g, rfl⟩ : ∃ g, A3 = some ⟨g, 0, none⟩ := by
              rcases HO.out.2 with ⟨h1, _⟩ | ⟨g, cap, cur, h1, _⟩
              · injection h1 with h1 h2 h3; omega
              · injection h1 with h1; exact ⟨g, h1⟩
            have hm1 : IntKind.i64.wrap ((init.length : Int) + 1 - 1) = init.length := by rw [IntKind.wrap_i64]; omega
            have hm2 : IntKind.i64.wrap (init.length : Int) = init.length := by rw [IntKind.wrap_i64]; omega
            have hm3 : (init.length : Int) < (init.length : Int) + 1 := by omega
            have hga := (HO.out.lt g rfl).1
            have hlast := pCells_at s (init ++ [(f, a, v)]) init.length (by simp)
            simp only [List.getElem_append_right (Nat.le_refl _), Nat.sub_self, List.getElem_cons_zero] at hlast
            have HLA := Lib.hid hlast
            clear hlast
            cases hvw : v
            · subst hvw
              have HN : Hid (Upto s (init ++ [(f, a, false)] ++ [(a, q, true)]) q) := .inr ⟨init ++ [(f, a, false)], a, true, rfl, by omega, by
                have h := tailP_turn (s := s) (f := f) (v := false) ha2 (by rw [HW.out]; decide)
                rw [HW.out, HQ.out] at h
                rw [List.append_assoc, ← hfin, h]; rfl⟩
              clear HU hfin
              go_wp2_with fail
              refine (c1 _).mono ?_
              rintro e w2 ⟨rfl, hb2⟩
              have HB2 := Lib.hid (HB.out.trans (hb2.mono hbs))
              have HO2 := Lib.hid (own_below HO.out hb2)
              have hbs2 := HB2.out.size
              clear hb2
              have hcT : w2.cell? ⟨g, init.length * 2, none⟩ = some (.string (s.extract f a)) := by rw [HO2.out.cellAt _ (by omega)]; exact HLA.out.1
              have hcW : w2.cell? ⟨g, init.length * 2 + 1, none⟩ = some (.bool false) := by rw [HO2.out.cellAt _ (by omega)]; exact HLA.out.2
              go_wp2_with fail
              refine (c2 _).mono ?_
              rintro e w3 ⟨rfl, rfl⟩
              go_wp2_with (at_builtin; refine wpList_app_own _ rfl (.tmp 60) (.tmp 67) 115 rfl w1.heap.size 118 (.agg #[.string { data := #[] }, .bool false]) 2 24 Tryz.underlying115 infoPiece rfl (by decide) _ (init.length + 1) (pCells s (init ++ [(f, a, false)])) rfl (own_below HO2.out ((Below.refl _ _).alloc (Nat.le_refl _) _)) _ 1 1 [.string (s.extract a q), .bool true] rfl (sl_lit2 _ #[.string (s.extract a q), .bool true] 118 2 1 rfl (by decide)) (ppair_one _ _) (by unfold maxLen; omega) (by omega) (by simp; omega) ?_)
              intro v' w4 ho4 hg4 hb4
              have HO4 := Lib.hid ho4
              have HB4 := Lib.hid ((HB2.out.alloc hbs2 _).trans hb4)
              obtain ⟨A4, c4, rfl, _⟩ := own_form ho4
              clear ho4 hg4 hb4
              go_wp2_with fail
              go_roundw
              case rel =>
                refine ⟨i + 1, q, init ++ [(f, a, false)] ++ [(a, q, true)], by omega, by go_num, rfl, by omega, by simp; omega, HD2.out, ?_, HN.out, HB4.out⟩
                rw [pCells_append s (init ++ [(f, a, false)]), List.length_append, hll]
                exact HO4.out
              case measure => simp [intOf]; omega
            · subst hvw
              have HN : Hid (Upto s (init ++ [(f, q, true)]) q) := .inr ⟨init, f, true, rfl, by omega, by
                have h := tailP_go (s := s) (f := f) ha2
                rw [HW.out, HQ.out] at h
                rw [h]; exact hfin⟩
              have hjo : s.extract f a ++ s.extract a q = s.extract f q := extract_join s f a q hfa (by omega)
              have HJO := Lib.hid hjo
              have hzz : (s.extract f a).size + (s.extract a q).size ≤ 140737488355327 := by rw [ByteArray.size_extract, ByteArray.size_extract]; omega
              clear HU hfin hjo
              generalize s.extract a q = y at *
              generalize hx : s.extract f a = x at *
              go_wp2_with fail
              refine (c1 _).mono ?_
              rintro e w2 ⟨rfl, hb2⟩
              have HB2 := Lib.hid (HB.out.trans (hb2.mono hbs))
              have HO2 := Lib.hid (own_below HO.out hb2)
              have hbs2 := HB2.out.size
              clear hb2
              have hcT : w2.cell? ⟨g, init.length * 2, none⟩ = some (.string x) := by rw [HO2.out.cellAt _ (by omega)]; exact HLA.out.1
              have hcW : w2.cell? ⟨g, init.length * 2 + 1, none⟩ = some (.bool true) := by rw [HO2.out.cellAt _ (by omega)]; exact HLA.out.2
              go_wp2_with fail
              refine (c2 _).mono ?_
              rintro e w3 ⟨rfl, rfl⟩
              have hfT : w3.frozen? ⟨g, init.length * 2, none⟩ = false := HO2.out.frozenAt _
              have HST := Lib.hid (HO2.out.stored (init.length * 2) (.string (x ++ y)))
              go_wp2_with fail
              go_region
              go_wp2_with fail
              go_roundw
              case rel =>
                refine ⟨i + 1, q, init ++ [(f, q, true)], by omega, by go_num, rfl, by omega, by simp; omega, HD2.out, ?_, HN.out, ?_⟩
                · have h1 := HST.out.1
                  have h2 := pCells_last s init f a q true
                  rw [HJO.out, h2] at h1
                  have h3 : (w3.setCell ⟨g, init.length * 2, none⟩ (.string (s.extract f q))).drew.ownsRow w1.heap.size 118 2 (.slice (some ⟨g, 0, none⟩) (init.length + 1) c3) (init.length + 1) (pCells s (init ++ [(f, q, true)])) := h1
                  rw [HJO.out]
                  simpa using h3
                · have h4 : w3.grownBy (w3.setCell ⟨g, init.length * 2, none⟩ (.string (x ++ y))).drew (some g) := grown_drew HST.out.2
                  exact HB2.out.grown h4 hbs2 (fun k hk => by cases hk; exact hga)
              case measure => simp [intOf]; omega
    · obtain rfl : i = n := by omega
      have hE : ¬ a < s.size := by
        intro h
        have h2 := HD.out
        rw [List.drop_eq_nil_of_le (by omega), endsF_go h] at h2
        cases h2
      have HF : Hid (l = pieces s 0) := by
        rcases HU.out with ⟨rfl, rfl⟩ | ⟨init, f, v, rfl, _, h⟩
        · rw [pieces_end hE]; rfl
        · rw [tailP_end hE] at h; exact h
      clear HU
      go_wp2_with fail
      go_ret
      exact ⟨_, rfl, by rw [← HF.out]; exact own_base HO.out hs1, HB1.out.trans (HB.out.mono hs1)⟩
end Tok
end Go.Proofs.YtfohollhdaedlaaGreatDoor
