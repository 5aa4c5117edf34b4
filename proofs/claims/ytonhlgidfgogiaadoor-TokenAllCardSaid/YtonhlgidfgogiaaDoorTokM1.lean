/- The walk: token.Mark. Written by tokm1.py. -/
import Derived.Test.YtonhlgidfgogiaaDoorTokR2
import Derived.Lib.AppendStr
set_option linter.unusedVariables false
set_option linter.unusedSimpArgs false
set_option maxRecDepth 100000
namespace Go.Proofs.YtonhlgidfgogiaaDoor
open Go.RowKit Utf Fold
namespace Tok
theorem strCells_bytes (s : ByteArray) : Lib.strCells s = (bytesOf s).map (Value.int .u8) := by
  simp [Lib.strCells, bytesOf]
theorem own_ne {w : World} {base size n b : Nat} {e e' : TypeId} {v : Value} {xs : List Value} {c : Array Value} {fr : Nat × Nat} (h : w.ownsRow base e size v n xs) (hb : w.heap[b]? = some (.cells c e' fr)) (hne : e' ≠ e) : some b ≠ v.ownBlock := by
  rcases h.2 with ⟨rfl, _⟩ | ⟨g, cap, cur, rfl, _, hg, _⟩
  · intro h; cases h
  · intro h
    have h2 : b = g := Option.some.inj h
    subst h2
    rw [hg] at hb
    injection hb with hb
    injection hb with h3 h4 h5
    exact hne h4.symm
theorem box_cells {w : World} {b : Nat} {x y : Value} {e : TypeId} (h : w.heap[b]? = some (.cells #[x, y] e (0, 0))) : w.cell? ⟨b, 0, none⟩ = some x ∧ w.cell? ⟨b, 1, none⟩ = some y := by
  constructor <;> simp [World.cell?, h]
theorem infoByte : ∃ i, Tryd.prog.info? 5 = some i ∧ i.zero = some (.int .u8 0) ∧ i.size = 1 ∧ i.bytes = 1 := by
  have h : (Tryd.prog.info? 5).map (fun i => (i.zero, i.size, i.bytes)) = some (some (.int .u8 0), 1, 1) := by kernel_rfl
  exact info_parts h
/-- Has one of the first words been hit? -/
def hitN (ws : List ByteArray) (t : ByteArray) (j : Nat) : Bool := (ws.take j).any fun w => decide (strOfNums (textF t 0) = w)
theorem hitN_all {ws : List ByteArray} {t : ByteArray} {j : Nat} (h : ws.length ≤ j) : hitN ws t j = hitF ws t := by rw [hitN, List.take_of_length_le h]; rfl
theorem hitN_succ {ws : List ByteArray} {t x : ByteArray} {j : Nat} (h : ws[j]? = some x) : hitN ws t (j + 1) = (hitN ws t j || decide (strOfNums (textF t 0) = x)) := by
  rw [hitN, List.take_add_one, h, List.any_append]; simp [hitN]
section
variable (s : ByteArray) (ws : List ByteArray) (be bh : ByteArray)
theorem markB_cons (x : Nat × Nat) (l : List (Nat × Nat)) (a : Nat) : markB s ws be bh (x :: l) a = bytesOf (s.extract a x.1) ++ (bytesOf (partT s ws be bh (x.1, x.2, true)) ++ markB s ws be bh l x.2) := rfl
theorem partT_hit {x : Nat × Nat} (h : hitF ws (s.extract x.1 x.2) = true) : partT s ws be bh (x.1, x.2, true) = be ++ s.extract x.1 x.2 ++ bh := by
  unfold partT; simp [h]
theorem partT_no {x : Nat × Nat} (h : hitF ws (s.extract x.1 x.2) = false) : partT s ws be bh (x.1, x.2, true) = s.extract x.1 x.2 := by
  unfold partT; simp [h]
end
theorem spans_next (s : ByteArray) : ∀ n a, s.size - a = n → a ≤ s.size → ∀ i x, (spans s a)[i]? = some x → ∀ y, (spans s a)[i + 1]? = some y → x.2 ≤ y.1 := by
  intro n
  induction n using Nat.strongRecOn with
  | _ n ih =>
    intro a hn ha i x hx y hy
    by_cases h : a < s.size
    · cases hw : wd s a
      · have hr := adv_range s a h
        rw [spans_skip h hw] at hx hy
        exact ih (s.size - adv s a) (by omega) _ rfl hr.2.1 i x hx y hy
      · have hg := run_gt h
        rw [hw] at hg
        rw [spans_word h hw] at hx hy
        cases i with
        | zero =>
          simp at hx hy
          have hm : y ∈ spans s (run s true a) := List.mem_of_getElem? (i := 0) (by simpa using hy)
          have := (spans_range s _ hg.2 y hm).1
          rw [← hx]; exact this
        | succ i =>
          simp only [List.getElem?_cons_succ] at hx hy
          exact ih (s.size - run s true a) (by omega) _ rfl hg.2 i x hx y hy
    · rw [spans_end h] at hx; simp at hx

set_option maxHeartbeats 8000000 in
theorem mark_calls (s : ByteArray) (hs : s.size ≤ 2048) (w : World) (hL : Laid w) (Aw : Option Addr) (m cw : Nat) (ws : List ByteArray) (hw : IsSl w 1 Aw m cw (ws.map .string)) (be bh : ByteArray) (hbe : be.size ≤ 20) (hbh : bh.size ≤ 20) :
    Calls Tryd.prog 56 #[.string s, .slice Aw m cw, .string be, .string bh] w fun e w' => e = .returned (.string (strOfNums (markP s ws be bh (pieces s 0)))) ∧ Below w.heap.size w w' := by
  have HME := Lib.hid (mark_eq s ws be bh _ 0 rfl (Nat.zero_le _))
  have HML := Lib.hid (markP_length s ws be bh hs hbe hbh)
  have hlen := spans_length s 0
  have HR := Lib.hid (spans_range s 0 (Nat.zero_le _))
  have HNX := Lib.hid (spans_next s _ 0 rfl (Nat.zero_le _))
  obtain ⟨ib, hib, hib0, hib1, hib2⟩ := infoByte
  have hwl : ws.length = m := by have := hw.1; simpa using this
  have hwc := hw.2.1
  have hwm := hw.2.2.1
  unfold maxLen at hwm
  have HL := Lib.hid hL
  have HW := Lib.hid hw
  clear hL hw
  go_enter Tryd.func56, Tryd.ntmps56
  go_wp2_with fail
  refine (spans0_calls s (by omega) _).mono ?_
  rintro e w1 ⟨v, rfl, ho, hb⟩
  obtain ⟨A, c, rfl, hsl⟩ := own_form ho
  have HB1 := Lib.hid hb
  have HS := Lib.hid hsl
  have HL1 := Lib.hid (HL.out.below hb)
  have HW1 := Lib.hid (HW.out.below hb)
  have hs1 := hb.size
  have hcc := hsl.2.1
  have hcm := hsl.2.2.1
  unfold maxLen at hcm
  clear ho hb hsl
  generalize spans s 0 = l at *
  generalize hn : l.length = n at *
  generalize hM : markP s ws be bh (pieces s 0) = M at *
  have HMM := Lib.hid hM
  clear hM
  go_wp2_with fail
  go_loopw [9, 10, 20] (fun out at_ ix wr => ∃ (i a : Nat) (bs : List Int), i ≤ n ∧ ix = .int .i64 i ∧ at_ = .int .i64 (a : Int) ∧ a ≤ s.size ∧ Hid (∀ x, l[i]? = some x → a ≤ x.1) ∧ wr.ownsRow w1.heap.size 5 1 out bs.length (bs.map (.int .u8)) ∧ Hid (bs ++ markB s ws be bh (l.drop i) a = M) ∧ Below w1.heap.size w1 wr) (fun _ _ ix _ => n - (intOf ix).toNat)
  case atStart => exact ⟨0, 0, [], Nat.zero_le _, rfl, rfl, Nat.zero_le _, fun _ _ => Nat.zero_le _, World.ownsRow_nil _ _ _ _, HME.out, Below.refl _ _⟩
  case round =>
    obtain ⟨i, a, bs, hi, rfl, rfl, ha, HA, ho, HV, hb⟩ := hrel
    obtain ⟨wz, hwz⟩ : ∃ wz, wz = wr := ⟨_, rfl⟩
    subst hwz
    obtain ⟨A3, c3, rfl, hsl3⟩ := own_form ho
    have HO := Lib.hid ho
    have HB := Lib.hid hb
    have HS1 := Lib.hid (HS.out.below hb)
    have HL2 := Lib.hid (HL1.out.below hb)
    have HW2 := Lib.hid (HW1.out.below hb)
    have hbs := hb.size
    have hbl : bs.length ≤ 4276224 := by
      have h := congrArg List.length HV.out
      rw [List.length_append] at h
      have := HML.out; omega
    clear ho hb hsl3
    by_cases hlt : i < n
    · obtain ⟨⟨f, t⟩, b, o, hx, hd, htk, rfl, hc0, hc1⟩ := span_at HS1.out hn hlt
      simp only at hc0 hc1
      have hrg := HR.out (f, t) (List.mem_of_getElem? hx)
      have haf := HA.out _ hx
      simp only at hrg haf
      have HAN : Hid (∀ x, l[i + 1]? = some x → t ≤ x.1) := fun x hx2 => HNX.out i _ hx x hx2
      have HV2 : Hid (bs ++ (bytesOf (s.extract a f) ++ (bytesOf (partT s ws be bh (f, t, true)) ++ markB s ws be bh (l.drop (i + 1)) t)) = M) := by
        have h := HV.out
        rw [hd, markB_cons] at h
        exact h
      have hsl1 := slice_str (P := Tryd.prog) Tryd.underlying9 s .i64 .i64 (a : Int) (f : Int) a f rfl rfl haf (by omega)
      have hsl2 := slice_str (P := Tryd.prog) Tryd.underlying9 s .i64 .i64 (f : Int) (t : Int) f t rfl rfl (by omega) hrg.2.2
      have hz1 : (s.extract a f).size ≤ 2048 := by rw [ByteArray.size_extract]; omega
      have hz2 : (s.extract f t).size ≤ 2048 := by rw [ByteArray.size_extract]; omega
      have cx := fun W h => text_calls (s.extract f t) (by omega) W h
      have HPY : Hid (hitF ws (s.extract f t) = true → partT s ws be bh (f, t, true) = be ++ s.extract f t ++ bh) := fun h => partT_hit s ws be bh (x := (f, t)) h
      have HPN : Hid (hitF ws (s.extract f t) = false → partT s ws be bh (f, t, true) = s.extract f t) := fun h => partT_no s ws be bh (x := (f, t)) h
      clear HA HV hd htk hx haf
      generalize partT s ws be bh (f, t, true) = q at *
      have hq : q.size ≤ 4276224 := by
        have h := congrArg List.length HV2.out
        simp only [List.length_append, bytesOf_length] at h
        have := HML.out; omega
      generalize s.extract a f = x1 at *
      generalize s.extract f t = x2 at *
      generalize hw0 : wz.alloc (.cells #[.int .i64 (f : Int), .int .i64 (t : Int)] 102) = w0 at *
      have hb0 : Below wz.heap.size wz w0 := by rw [← hw0]; exact (Below.refl _ _).alloc (Nat.le_refl _) _
      have hx0 : w0.heap[wz.heap.size]? = some (.cells #[.int .i64 (f : Int), .int .i64 (t : Int)] 102 (0, 0)) := by rw [← hw0]; exact heap_alloc_new _ _
      have HX0 := Lib.hid hx0
      obtain ⟨hca, hcb⟩ := box_cells hx0
      have HO0 := Lib.hid (own_below HO.out hb0)
      have HB0 := Lib.hid (HB.out.trans (hb0.mono hbs))
      have hbs0 := HB0.out.size
      have hb00 := hb0.size
      have hltb : wz.heap.size < w0.heap.size := (Array.getElem?_eq_some_iff.1 hx0).1
      clear hb0 hx0
      go_wp2_with (at_builtin; refine Lib.wpList_append_own_string _ rfl (.tmp 24) (.tmp 29) 28 9 rfl w1.heap.size 5 ib Tryd.underlying28 Tryd.underlying9 hib hib0 hib1 hib2 _ bs.length (bs.map (.int .u8)) rfl HO0.out x1 rfl (by unfold maxLen; omega) (by omega) hbs0 ?_)
      intro v2 w2 ho2 hg2 _
      have hne2 := own_ne HO0.out HX0.out (by decide)
      have HX2 : Hid (w2.heap[wz.heap.size]? = some (.cells #[.int .i64 (f : Int), .int .i64 (t : Int)] 102 (0, 0))) := by show _ = _; rw [hg2.block _ hltb hne2]; exact HX0.out
      obtain ⟨hca2, hcb2⟩ := box_cells HX2.out
      have HB2 := Lib.hid (HB0.out.grown hg2 hbs0 (fun k hk => (HO0.out.lt k hk).1))
      have hbs2 := HB2.out.size
      have HO2 : Hid (w2.ownsRow w1.heap.size 5 1 v2 (bs.length + x1.size) ((bs ++ bytesOf x1).map (.int .u8))) := by
        rw [strCells_bytes] at ho2
        rw [List.map_append]; exact ho2
      obtain ⟨A2, c2, rfl, _⟩ := own_form ho2
      have hlt2 : wz.heap.size < w2.heap.size := (Array.getElem?_eq_some_iff.1 HX2.out).1
      have HL3 : Hid (Laid w2) := HL1.out.below HB2.out
      have HW3 := Lib.hid (HW1.out.below HB2.out)
      clear ho2 hg2 hca hcb hw0
      go_wp2_with fail
      go_loopw [14, 39] (fun hit jx wq => ∃ j : Nat, j ≤ m ∧ jx = .int .i64 j ∧ hit = .bool (hitN ws x2 j) ∧ Below w2.heap.size w2 wq) (fun _ jx _ => m - (intOf jx).toNat)
      case atStart => exact ⟨0, Nat.zero_le _, rfl, rfl, Below.refl _ _⟩
      case round =>
        obtain ⟨j, hj, rfl, rfl, hbj⟩ := hrel
        have HBJ := Lib.hid hbj
        have HLJ := Lib.hid (HL3.out.below hbj)
        have HWJ := Lib.hid (HW3.out.below hbj)
        have hbsj := hbj.size
        clear hbj
        by_cases hjm : j < m
        · obtain ⟨ad, rfl, hcell⟩ := HWJ.out.at_ hjm
          obtain ⟨y, hy⟩ : ∃ y, ws[j]? = some y := ⟨ws[j]'(by omega), List.getElem?_eq_getElem (by omega)⟩
          rw [List.getD_eq_getElem?_getD, List.getElem?_map, hy] at hcell
          simp only [Option.map_some, Option.getD_some] at hcell
          have HSU := Lib.hid (hitN_succ (t := x2) hy)
          clear hy
          cases hh : hitN ws x2 j
          · rw [hh] at HSU
            have hbe2 := toList_beq (strOfNums (textF x2 0)) y
            generalize strOfNums (textF x2 0) = tx at *
            go_wp2_with fail
            refine (cx _ HLJ.out).mono ?_
            rintro e w5 ⟨rfl, hb5⟩
            have HB5 := Lib.hid (HBJ.out.trans (hb5.mono hbsj))
            clear hb5
            go_wp2_with fail
            go_roundw
            case rel => exact ⟨j + 1, by omega, by go_num, by rw [HSU.out, Bool.false_or, ← hbe2], HB5.out⟩
            case measure => simp [intOf]; omega
          · rw [hh] at HSU
            go_wp2_with fail
            go_roundw
            case rel => exact ⟨j + 1, by omega, by go_num, by rw [HSU.out, Bool.true_or], HBJ.out⟩
            case measure => simp [intOf]; omega
        · obtain rfl : j = m := by omega
          have HX3 : Hid (wr.heap[wz.heap.size]? = some (.cells #[.int .i64 (f : Int), .int .i64 (t : Int)] 102 (0, 0))) := by show _ = _; rw [HBJ.out.block _ hlt2]; exact HX2.out
          have HX3 : Hid (wr.heap[wz.heap.size]? = some (.cells #[.int .i64 (f : Int), .int .i64 (t : Int)] 102 (0, 0))) := by show _ = _; rw [HBJ.out.block _ hlt2]; exact HX2.out
          obtain ⟨hca3, hcb3⟩ := box_cells HX3.out
          have HO3 := Lib.hid (own_below HO2.out HBJ.out)
          have HB3 := Lib.hid (HB2.out.trans (HBJ.out.mono hbs2))
          have hbs3 := HB3.out.size
          have hlt3 : wz.heap.size < wr.heap.size := (Array.getElem?_eq_some_iff.1 HX3.out).1
          have HHA := Lib.hid (hitN_all (ws := ws) (t := x2) (j := j) (by omega))
          clear hca2 hcb2
          cases hh : hitN ws x2 j
          · have hqq : q = x2 := HPN.out (by rw [← HHA.out]; exact hh)
            have HN : Hid (bs ++ bytesOf x1 ++ bytesOf x2 ++ markB s ws be bh (l.drop (i + 1)) t = M) := by
              have h := HV2.out
              rw [hqq] at h
              show _ = _
              simpa [List.append_assoc] using h
            clear hqq
            go_wp2_with (at_builtin; refine Lib.wpList_append_own_string _ rfl (.tmp 57) (.tmp 58) 28 9 rfl w1.heap.size 5 ib Tryd.underlying28 Tryd.underlying9 hib hib0 hib1 hib2 _ (bs.length + x1.size) ((bs ++ bytesOf x1).map (.int .u8)) rfl HO3.out x2 rfl (by unfold maxLen; omega) (by omega) hbs3 ?_)
            intro v4 w4 ho4 hg4 _
            have hne4 := own_ne HO3.out HX3.out (by decide)
            have hcb4 : w4.cell? ⟨wz.heap.size, 1, none⟩ = some (.int .i64 (t : Int)) := hg4.cell hcb3 hne4
            have HB4 := Lib.hid (HB3.out.grown hg4 hbs3 (fun k hk => (HO3.out.lt k hk).1))
            have HO4 : Hid (w4.ownsRow w1.heap.size 5 1 v4 (bs.length + x1.size + x2.size) ((bs ++ bytesOf x1 ++ bytesOf x2).map (.int .u8))) := by
              rw [strCells_bytes] at ho4
              show w4.ownsRow _ _ _ _ _ _
              simpa [List.append_assoc, ByteArray.size_append] using ho4
            obtain ⟨A4, c4, rfl, _⟩ := own_form ho4
            clear ho4 hg4 hca3 hcb3
            go_wp2_with fail
            go_roundw
            case rel =>
              refine ⟨i + 1, t, bs ++ bytesOf x1 ++ bytesOf x2, by omega, by go_num, rfl, hrg.2.2, HAN.out, ?_, HN.out, HB4.out⟩
              have hl4 : (bs ++ bytesOf x1 ++ bytesOf x2).length = bs.length + x1.size + x2.size := by rw [List.length_append, List.length_append, bytesOf_length, bytesOf_length]
              rw [hl4]; exact HO4.out
            case measure => simp [intOf]; omega
          · have hqq : q = be ++ x2 ++ bh := HPY.out (by rw [← HHA.out]; exact hh)
            have HN : Hid (bs ++ bytesOf x1 ++ bytesOf (be ++ x2 ++ bh) ++ markB s ws be bh (l.drop (i + 1)) t = M) := by
              have h := HV2.out
              rw [hqq] at h
              show _ = _
              simpa [List.append_assoc] using h
            clear hqq
            have hc1 : be.size + x2.size ≤ 140737488355327 := by omega
            have hc2 : (be ++ x2).size + bh.size ≤ 140737488355327 := by rw [ByteArray.size_append]; omega
            have hc3 : (be ++ x2 ++ bh).size ≤ 4096 := by rw [ByteArray.size_append, ByteArray.size_append]; omega
            go_wp2_with (at_builtin; refine Lib.wpList_append_own_string _ rfl (.tmp 57) (.tmp 58) 28 9 rfl w1.heap.size 5 ib Tryd.underlying28 Tryd.underlying9 hib hib0 hib1 hib2 _ (bs.length + x1.size) ((bs ++ bytesOf x1).map (.int .u8)) rfl HO3.out (be ++ x2 ++ bh) rfl (by unfold maxLen; omega) (by omega) hbs3 ?_)
            intro v4 w4 ho4 hg4 _
            have hne4 := own_ne HO3.out HX3.out (by decide)
            have hcb4 : w4.cell? ⟨wz.heap.size, 1, none⟩ = some (.int .i64 (t : Int)) := hg4.cell hcb3 hne4
            have HB4 := Lib.hid (HB3.out.grown hg4 hbs3 (fun k hk => (HO3.out.lt k hk).1))
            have HO4 : Hid (w4.ownsRow w1.heap.size 5 1 v4 (bs.length + x1.size + (be ++ x2 ++ bh).size) ((bs ++ bytesOf x1 ++ bytesOf (be ++ x2 ++ bh)).map (.int .u8))) := by
              rw [strCells_bytes] at ho4
              show w4.ownsRow _ _ _ _ _ _
              simpa [List.append_assoc, ByteArray.size_append] using ho4
            obtain ⟨A4, c4, rfl, _⟩ := own_form ho4
            clear ho4 hg4 hca3 hcb3
            go_wp2_with fail
            go_roundw
            case rel =>
              refine ⟨i + 1, t, bs ++ bytesOf x1 ++ bytesOf (be ++ x2 ++ bh), by omega, by go_num, rfl, hrg.2.2, HAN.out, ?_, HN.out, HB4.out⟩
              have hl4 : (bs ++ bytesOf x1 ++ bytesOf (be ++ x2 ++ bh)).length = bs.length + x1.size + (be ++ x2 ++ bh).size := by rw [List.length_append, List.length_append, bytesOf_length, bytesOf_length]
              rw [hl4]; exact HO4.out
            case measure => simp [intOf]; omega
    · obtain rfl : i = n := by omega
      have HF : Hid (bs ++ bytesOf (s.extract a s.size) = M) := by
        have h := HV.out
        rw [List.drop_eq_nil_of_le (by omega)] at h
        exact h
      have hsl3 := slice_str_from (P := Tryd.prog) Tryd.underlying9 s .i64 (a : Int) a rfl ha
      have hz3 : (s.extract a s.size).size ≤ 2048 := by rw [ByteArray.size_extract]; omega
      clear HV HA
      generalize s.extract a s.size = x3 at *
      go_wp2_with (at_builtin; refine Lib.wpList_append_own_string _ rfl (.tmp 63) (.tmp 66) 28 9 rfl w1.heap.size 5 ib Tryd.underlying28 Tryd.underlying9 hib hib0 hib1 hib2 _ bs.length (bs.map (.int .u8)) rfl HO.out x3 rfl (by unfold maxLen; omega) (by omega) hbs ?_)
      intro v4 w4 ho4 hg4 _
      have HB4 := Lib.hid (HB.out.grown hg4 hbs (fun k hk => (HO.out.lt k hk).1))
      obtain ⟨A4, c4, rfl, hsl4⟩ := own_form ho4
      have hcv := run_str_of (P := Tryd.prog) w4 28 9 5 Tryd.underlying28 Tryd.underlying5 Tryd.underlying9 A4 _ c4 (bs ++ bytesOf x3) (by rw [strCells_bytes] at hsl4; rw [List.map_append]; exact hsl4)
      clear ho4 hg4 hsl4
      go_wp2_with fail
      go_ret
      refine ⟨ret_string ?_, HB1.out.trans (HB4.out.mono hs1)⟩
      rw [HF.out, HMM.out]
end Tok
end Go.Proofs.YtonhlgidfgogiaaDoor
