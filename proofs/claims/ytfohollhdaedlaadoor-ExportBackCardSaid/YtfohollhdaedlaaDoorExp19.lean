/- Export: the reference's Read. -/
import Derived.Test.YtfohollhdaedlaaDoorExp18
import Derived.Test.YtfohollhdaedlaaDoorExp14
set_option linter.unusedVariables false
set_option linter.unusedSimpArgs false
set_option maxRecDepth 100000
namespace Go.Proofs.YtfohollhdaedlaaDoor
open Go.RowKit
namespace Exp
theorem rline_calls (w : World) (A : Option Addr) (c : Nat) (l : List DocM) (hsl : IsSl w 5 A l.length c (dCells l)) (s : ByteArray) (hs : s.size ≤ 65536) (hn : l.length ≤ 100000) :
    Calls Tryd.prog 45 #[.slice A l.length c, .string s] w (RLineP l (by8 s) w) := by
  cases hp : docHead.isPrefixOf (by8 s)
  · rcases List.eq_nil_or_concat l with rfl | ⟨m, d, hmd⟩
    · exact rline_nodoc w A c s hs hp
    · rw [List.concat_eq_append] at hmd
      subst hmd
      exact rline_field w A _ c m d hsl s hs hn hp
  · exact rline_doc w A _ c l hsl s hs hn hp
theorem linesOf_app : ∀ (L : List B8) (r : B8), (∀ x ∈ L, (10 : UInt8) ∉ x) → linesOf (ends L ++ r) = (L ++ (linesOf r).1, (linesOf r).2)
  | [], r, _ => rfl
  | x :: L, r, h => by
    rw [ends_cons, List.append_assoc, List.cons_append, linesOf_line x _ (h x (List.mem_cons_self ..)), linesOf_app L r fun y hy => h y (List.mem_cons_of_mem _ hy)]; rfl
/-- Lines that were read, up to a place. -/
structure RS (s : B8) (L : List B8) (l : List DocM) (fr i : Nat) : Prop where
  text : s.take fr = ends L
  no10 : ∀ x ∈ L, (10 : UInt8) ∉ x
  part : (10 : UInt8) ∉ (s.drop fr).take (i - fr)
  read : readL [] 0 L = (l, none)
  le : fr ≤ i
  len : l.length ≤ L.length
  cnt : L.length ≤ fr
theorem RS.start (s : B8) : RS s [] [] 0 0 := ⟨rfl, fun x h => absurd h List.not_mem_nil, by simp, rfl, Nat.le_refl _, Nat.le_refl _, Nat.le_refl _⟩
theorem RS.other {s : B8} {L : List B8} {l : List DocM} {fr i : Nat} {c : UInt8} (h : RS s L l fr i) (hc : s[i]? = some c) (hn : c ≠ 10) : RS s L l fr (i + 1) := by
  refine ⟨h.text, h.no10, ?_, h.read, by have := h.le; omega, h.len, h.cnt⟩
  have hle := h.le
  rw [show i + 1 - fr = (i - fr) + 1 by omega, List.take_add_one, List.getElem?_drop, show fr + (i - fr) = i by omega, hc, List.mem_append, not_or]
  refine ⟨h.part, ?_⟩
  simp only [Option.toList_some, List.mem_singleton]
  exact fun e => hn e.symm
theorem RS.split {s : B8} {L : List B8} {l : List DocM} {fr i : Nat} (h : RS s L l fr i) (hc : s[i]? = some 10) : s = ends L ++ ((s.drop fr).take (i - fr) ++ 10 :: s.drop (i + 1)) := by
  have hle := h.le
  obtain ⟨h1, h2⟩ := List.getElem?_eq_some_iff.1 hc
  have e1 : s.drop fr = (s.drop fr).take (i - fr) ++ 10 :: s.drop (i + 1) := by
    conv => lhs; rw [← List.take_append_drop (i - fr) (s.drop fr)]
    rw [List.drop_drop, show fr + (i - fr) = i by omega, List.drop_eq_getElem_cons h1, h2]
  rw [← h.text, ← e1, List.take_append_drop]
theorem RS.line {s : B8} {L : List B8} {l l' : List DocM} {fr i : Nat} (h : RS s L l fr i) (hc : s[i]? = some 10) (hl : lineF l ((s.drop fr).take (i - fr)) = some l') : RS s (L ++ [(s.drop fr).take (i - fr)]) l' (i + 1) (i + 1) := by
  have hle := h.le
  have hs := h.split hc
  obtain ⟨h1, h2⟩ := List.getElem?_eq_some_iff.1 hc
  refine ⟨?_, ?_, by simp, ?_, Nat.le_refl _, ?_, ?_⟩
  · rw [ends_app]
    show _ = ends L ++ ends [_]
    rw [ends_cons]
    show _ = ends L ++ (_ ++ [10])
    have hx : (ends L ++ ((s.drop fr).take (i - fr) ++ [10])).length = i + 1 := by
      rw [← h.text]
      simp only [List.length_append, List.length_take, List.length_drop, List.length_cons, List.length_nil]
      omega
    have hs2 : s = (ends L ++ ((s.drop fr).take (i - fr) ++ [10])) ++ s.drop (i + 1) := by
      have e : ends L ++ ((s.drop fr).take (i - fr) ++ 10 :: s.drop (i + 1)) = (ends L ++ ((s.drop fr).take (i - fr) ++ [10])) ++ s.drop (i + 1) := by simp
      exact hs.trans e
    have h3 := congrArg (List.take (i + 1)) hs2
    rw [h3, ← hx]
    exact List.take_left
  · intro x hx
    rcases List.mem_append.1 hx with hx | hx
    · exact h.no10 x hx
    · rw [List.mem_singleton.1 hx]; exact h.part
  · rw [readL_app _ _ _ _ _ h.read]
    show readL l _ [_] = _
    rw [readL, hl]; rfl
  · have := lineF_len hl
    have := h.len
    rw [List.length_append]; show _ ≤ _ + 1; omega
  · have := h.cnt
    rw [List.length_append]; show _ + 1 ≤ _; omega
theorem RS.bad {s : B8} {L : List B8} {l : List DocM} {fr i : Nat} (h : RS s L l fr i) (hc : s[i]? = some 10) (hl : lineF l ((s.drop fr).take (i - fr)) = none) : readF s = ([], some (L.length + 1)) := by
  apply readF_stop
  have hs := h.split hc
  have e : (linesOf s).1 = L ++ ((s.drop fr).take (i - fr)) :: (linesOf (s.drop (i + 1))).1 := by
    conv => lhs; rw [hs]
    rw [linesOf_app L _ h.no10, linesOf_line _ _ h.part]
  rw [e, readL_app _ _ _ _ _ h.read, readL, hl]
  show ([], some (0 + L.length + 1)) = _
  rw [Nat.zero_add]
theorem RS.rest {s : B8} {L : List B8} {l : List DocM} {fr i : Nat} (h : RS s L l fr i) (hi : s.length ≤ i) : linesOf s = (L, s.drop fr) := by
  have hs : s = ends L ++ s.drop fr := by rw [← h.text, List.take_append_drop]
  have hp := h.part
  rw [List.take_of_length_le (by rw [List.length_drop]; omega)] at hp
  conv => lhs; rw [hs]
  rw [linesOf_app L _ h.no10, linesOf_rest _ hp, List.append_nil]
theorem RS.left {s : B8} {L : List B8} {l : List DocM} {fr i : Nat} (h : RS s L l fr i) (hi : s.length ≤ i) (hf : fr < s.length) : readF s = ([], some (L.length + 1)) := by
  have e := h.rest hi
  have := readF_rest (s := s) (l := l) (by rw [e]; exact h.read) (by rw [e]; intro h2; have := congrArg List.length h2; rw [List.length_drop] at this; simp at this; omega)
  rw [this, e]
theorem RS.done {s : B8} {L : List B8} {l : List DocM} {fr i : Nat} (h : RS s L l fr i) (hi : s.length ≤ i) (hf : s.length ≤ fr) : readF s = (l, none) := by
  have e := h.rest hi
  exact readF_done (by rw [e]; exact h.read) (by rw [e]; exact List.drop_eq_nil_of_le hf)
theorem take_by (s : ByteArray) (a b : Nat) : by8 (s.extract a b) = ((by8 s).drop a).take (b - a) := by
  unfold by8
  rw [ByteArray.data_extract, Array.toList_extract, List.extract_eq_take_drop]
set_option maxHeartbeats 8000000 in
theorem rread_calls (s : ByteArray) (hs : s.size ≤ 4096) (w : World) : Calls Tryd.prog 14 #[.string s] w (ReadP (by8 s) w) := by
  have hs1 : ¬ ((65536 : Int) < s.size) := by omega
  have HLN : Hid ((by8 s).length = s.size) := by8_len s
  go_enter Tryd.func14, Tryd.ntmps14
  go_wp2_with fail
  go_loopw [5, 6, 7, 16] (fun v fx nx ix wr => ∃ (i fr : Nat) (L : List B8) (l : List DocM) (A : Option Addr) (c : Nat), i ≤ s.size ∧ ix = .int .i64 i ∧ fx = .int .i64 fr ∧ nx = .int .i64 L.length ∧ v = .slice A l.length c ∧ RS (by8 s) L l fr i ∧ IsSl wr 5 A l.length c (dCells l) ∧ Below w.heap.size w wr) (fun _ _ _ ix _ => s.size - (intOf ix).toNat)
  case atStart => exact ⟨0, 0, [], [], none, 0, Nat.zero_le _, rfl, rfl, rfl, rfl, RS.start _, ⟨rfl, Nat.le_refl _, by simp [maxLen], fun _ => ⟨rfl, rfl⟩, fun ad h => by cases h⟩, Below.refl _ _⟩
  case round =>
    obtain ⟨i, fr, L, l, A, c, hi, rfl, rfl, rfl, rfl, hR, hsl, hb⟩ := hrel
    have HR := Lib.hid hR
    have HSL := Lib.hid hsl
    have HB := Lib.hid hb
    have hfl := hR.le
    have hlc := hR.cnt
    have hll := hR.len
    obtain ⟨ll, hll2⟩ : ∃ ll, L.length = ll := ⟨_, rfl⟩
    have HLL := Lib.hid hll2
    rw [hll2] at hlc hll ⊢
    clear hR hsl hb hll2
    by_cases hlt : i < s.size
    · obtain ⟨ch, hc, hbc⟩ := by8_get s i hlt
      have HC := Lib.hid hc
      have hix := idx_s s i (i : Int) rfl hlt
      rw [hbc] at hix
      have hcr := ch.toNat_lt
      have hwi : IntKind.i64.wrap ((i : Int) + 1) = (i : Int) + 1 := by rw [IntKind.wrap_i64]; omega
      by_cases h10 : ch = 10
      · subst h10
        have HC10 := Lib.hid HC.out
        have hwl : IntKind.i64.wrap ((ll : Int) + 1) = (ll : Int) + 1 := by rw [IntKind.wrap_i64]; omega
        have hsx := slice_str (P := Tryd.prog) Tryd.underlying9 s .i64 .i64 (fr : Int) (i : Int) fr i rfl rfl hfl (by omega)
        obtain ⟨xs, hxs⟩ : ∃ xs, s.extract fr i = xs := ⟨_, rfl⟩
        have HXS : Hid (by8 xs = ((by8 s).drop fr).take (i - fr)) := by show _ = _; rw [← hxs]; exact take_by s fr i
        have hxz : xs.size ≤ 65536 := by rw [← by8_len, HXS.out, List.length_take, List.length_drop, by8_len]; omega
        rw [hxs] at hsx
        have CL := Lib.hid (rline_calls wr A c l HSL.out xs hxz (by omega))
        clear hc hbc hxs
        go_wp2_with fail
        refine CL.out.mono ?_
        rintro e w1 ⟨hb1, (⟨l', A1, c1, hl1, rfl, hsl1⟩ | ⟨hl1, A1, n1, c1, rfl⟩)⟩
        · have HRN : Hid (RS (by8 s) (L ++ [by8 xs]) l' (i + 1) (i + 1)) := by
            have := HR.out.line HC10.out (by rw [← HXS.out]; exact hl1)
            rw [← HXS.out] at this
            exact this
          have HSL1 := Lib.hid hsl1
          have HB1 := Lib.hid (below_next HB.out hb1)
          have HLC : Hid ((L ++ [by8 xs]).length = ll + 1) := by show _ = _; rw [List.length_append, HLL.out]; rfl
          clear hl1 hsl1 hb1 CL hsx
          go_wp2_with fail
          go_roundw
          case rel => exact ⟨i + 1, i + 1, L ++ [by8 xs], l', A1, c1, by omega, by go_num, by go_num, by rw [HLC.out]; go_num, rfl, HRN.out, HSL1.out, HB1.out⟩
          case measure => simp [intOf]; omega
        · have HF : Hid (readF (by8 s) = ([], some (ll + 1))) := by
            have := HR.out.bad HC10.out (by rw [← HXS.out]; exact hl1)
            rw [HLL.out] at this
            exact this
          have HB1 := Lib.hid (below_next HB.out hb1)
          clear hl1 hb1 CL hsx
          go_wp2_with fail
          go_ret3
          exact ⟨HB1.out, .inr ⟨ll + 1, HF.out, rfl⟩⟩
      · have HRN := Lib.hid (HR.out.other HC.out h10)
        have hn10 : ((ch.toNat : Int) != 10) = true := by
          have : ch.toNat ≠ 10 := fun h => h10 (UInt8.toNat_inj.1 h)
          simp; omega
        clear hc hbc h10
        go_wp2_with fail
        go_roundw
        case rel => exact ⟨i + 1, fr, L, l, A, c, by omega, by go_num, rfl, by rw [HLL.out], rfl, HRN.out, HSL.out, HB.out⟩
        case measure => simp [intOf]; omega
    · by_cases hfs : fr < s.size
      · have HF : Hid (readF (by8 s) = ([], some (ll + 1))) := by
          have := HR.out.left (by rw [HLN.out]; omega) (by rw [HLN.out]; exact hfs)
          rw [HLL.out] at this
          exact this
        have hwl : IntKind.i64.wrap ((ll : Int) + 1) = (ll : Int) + 1 := by rw [IntKind.wrap_i64]; omega
        go_wp2_with fail
        go_ret3
        exact ⟨HB.out, .inr ⟨ll + 1, HF.out, rfl⟩⟩
      · have HF := Lib.hid (HR.out.done (by rw [HLN.out]; omega) (by rw [HLN.out]; omega))
        go_wp2_with fail
        go_ret3
        exact ⟨HB.out, .inl ⟨l, A, c, HF.out, rfl, HSL.out⟩⟩
end Exp
end Go.Proofs.YtfohollhdaedlaaDoor
