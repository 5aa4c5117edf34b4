import Derived.Test.YtfohollhdaedlaaGreatDoorSl
import Derived.Test.YtfohollhdaedlaaGreatDoorTokW2
import Derived.WalkLawsBesides
import Derived.Laws.Cover1
import Derived.Sort.Walk0
/- Terms: a table's place of a key. -/
set_option linter.unusedVariables false
set_option linter.unusedSimpArgs false
set_option maxRecDepth 100000
namespace Go.Proofs.YtfohollhdaedlaaGreatDoor
open Go.RowKit
namespace Trm
/-- Go's order of texts. -/
def slt (a b : ByteArray) : Bool := Op.bytesLess a.toList b.toList
theorem slt_iff (a b : ByteArray) : slt a b = true ↔ a.data.toList < b.data.toList := by
  unfold slt
  rw [Go.Proofs.bytesLess_eq, decide_eq_true_iff, ByteArray.toList_eq, ByteArray.toList_eq]
theorem slt_irrefl (a : ByteArray) : slt a a = false := by
  rw [Bool.eq_false_iff]
  intro h
  exact List.lt_irrefl _ ((slt_iff a a).1 h)
theorem slt_trans {a b c : ByteArray} (h : slt a b = true) (k : slt b c = true) : slt a c = true :=
  (slt_iff a c).2 (List.lt_trans ((slt_iff a b).1 h) ((slt_iff b c).1 k))
theorem slt_total {a b : ByteArray} (h : slt a b = false) (hn : a ≠ b) : slt b a = true := by
  rw [slt_iff]
  have h1 : ¬ a.data.toList < b.data.toList := fun h2 => by rw [(slt_iff a b).2 h2] at h; cases h
  have h2 : b.data.toList ≤ a.data.toList := List.not_lt.1 h1
  rcases List.le_iff_lt_or_eq.1 h2 with h3 | h3
  · exact h3
  · exact absurd (by
      obtain ⟨⟨x⟩⟩ := a
      obtain ⟨⟨y⟩⟩ := b
      have : y = x := h3
      rw [this]) hn
theorem slt_asymm {a b : ByteArray} (h : slt a b = true) : slt b a = false := by
  rw [Bool.eq_false_iff]
  intro k
  have := slt_trans h k
  rw [slt_irrefl] at this; cases this
/-- How two texts stand. -/
def cmpF (a b : ByteArray) : Int := if slt a b = true then -1 else if a = b then 0 else 1
theorem isnan_calls (s : ByteArray) (w : World) : Calls Tryz.prog 67 #[.string s] w fun e w' => e = .returned (.bool false) ∧ w' = w := by
  have h : (s.toList == s.toList) = true := by simp
  have h2 : (s.toList != s.toList) = false := by simp
  go_enter Tryz.func67, Tryz.ntmps67
  go_wp2_with fail
  go_ret
  exact ⟨by simp, rfl⟩
set_option maxHeartbeats 1000000 in
theorem cmps_calls (a b : ByteArray) (w : World) : Calls Tryz.prog 47 #[.string a, .string b] w fun e w' => e = .returned (.int .i64 (cmpF a b)) ∧ w' = w := by
  cases h1 : slt a b
  · have h1' : Op.bytesLess a.toList b.toList = false := h1
    by_cases h2 : a = b
    · subst h2
      have HR : Hid (cmpF a a = 0) := by show _ = _; unfold cmpF; rw [if_neg (by rw [h1]; decide), if_pos rfl]
      have h3 : (a.toList == a.toList) = true := by simp
      clear h1
      go_enter Tryz.func47, Tryz.ntmps47
      go_wp2_with (go_at_call 67; refine (isnan_calls _ _).mono ?_; rintro e w' ⟨rfl, rfl⟩)
      go_ret
      exact ⟨by rw [HR.out]; rfl, rfl⟩
    · have HR : Hid (cmpF a b = 1) := by show _ = _; unfold cmpF; rw [if_neg (by rw [h1]; decide), if_neg h2]
      have h3 : (a.toList == b.toList) = false := by rw [toList_beq]; simp [h2]
      clear h1 h2
      go_enter Tryz.func47, Tryz.ntmps47
      go_wp2_with (go_at_call 67; refine (isnan_calls _ _).mono ?_; rintro e w' ⟨rfl, rfl⟩)
      go_ret
      exact ⟨by rw [HR.out]; rfl, rfl⟩
  · have h1' : Op.bytesLess a.toList b.toList = true := h1
    have HR : Hid (cmpF a b = -1) := by show _ = _; unfold cmpF; rw [if_pos h1]
    clear h1
    go_enter Tryz.func47, Tryz.ntmps47
    go_wp2_with (go_at_call 67; refine (isnan_calls _ _).mono ?_; rintro e w' ⟨rfl, rfl⟩)
    go_ret
    exact ⟨by rw [HR.out]; rfl, rfl⟩
theorem seek1_calls (k t : ByteArray) (v : Value) (w : World) : Calls Tryz.prog 46 #[.agg #[.string k, v], .string t] w fun e w' => e = .returned (.int .i64 (cmpF k t)) ∧ Below w.heap.size w w' := by
  have HB : Hid (Below w.heap.size w (w.alloc (.cells #[.string k, v] 74))) := (Below.refl _ _).alloc (Nat.le_refl _) _
  go_enter Tryz.func46, Tryz.ntmps46
  go_wp2_with (go_at_call 47; refine (cmps_calls _ _ _).mono ?_; rintro e w' ⟨rfl, rfl⟩)
  go_ret
  exact ⟨rfl, HB.out⟩
end Trm
end Go.Proofs.YtfohollhdaedlaaGreatDoor
/- Terms: a table's place of a key; what stands by a key. -/
set_option linter.unusedVariables false
set_option linter.unusedSimpArgs false
set_option maxRecDepth 100000
namespace Go.Proofs.YtfohollhdaedlaaGreatDoor
open Go.RowKit
namespace Trm
abbrev Ent := ByteArray × Value
def pCells (l : List Ent) : List Value := l.flatMap fun x => [.string x.1, x.2]
theorem pCells_append (l m : List Ent) : pCells (l ++ m) = pCells l ++ pCells m := by simp [pCells]
theorem pCells_length : ∀ l : List Ent, (pCells l).length = l.length * 2
  | [] => rfl
  | x :: l => by
    have := pCells_length l
    show (pCells l).length + 1 + 1 = _
    rw [this, List.length_cons]; omega
theorem pCells_at : ∀ (l : List Ent) (i : Nat) (x : Ent), l[i]? = some x → (pCells l)[i * 2]? = some (.string x.1) ∧ (pCells l)[i * 2 + 1]? = some x.2
  | [], _, _, h => by simp at h
  | y :: l, 0, x, h => by
    obtain rfl : y = x := by simpa using h
    exact ⟨rfl, rfl⟩
  | y :: l, i + 1, x, h => by
    have := pCells_at l i x (by simpa using h)
    show (Value.string y.1 :: y.2 :: pCells l)[(i + 1) * 2]? = _ ∧ (Value.string y.1 :: y.2 :: pCells l)[(i + 1) * 2 + 1]? = _
    rw [show (i + 1) * 2 = i * 2 + 1 + 1 by omega]
    exact this
theorem ent_at {w : World} {A : Option Addr} {n c : Nat} {l : List Ent} (h : IsSl w 2 A n c (pCells l)) {i : Nat} {x : Ent} (hx : l[i]? = some x) :
    ∃ b o, A = some ⟨b, o, none⟩ ∧ w.cell? ⟨b, o + i * 2, none⟩ = some (.string x.1) ∧ w.cell? ⟨b, o + i * 2 + 1, none⟩ = some x.2 := by
  have hl := h.1
  rw [pCells_length] at hl
  have hi := (List.getElem?_eq_some_iff.1 hx).1
  obtain ⟨b, o, h1, h2, h3⟩ := Tok.pair_at h (i := i) (by omega)
  obtain ⟨e0, e1⟩ := pCells_at l i x hx
  exact ⟨b, o, h1, by rw [h2, e0], by rw [h3, e1]⟩
/-- By rising keys. -/
def Srt (l : List Ent) : Prop := ∀ (i j : Nat) (x y : Ent), i < j → l[i]? = some x → l[j]? = some y → slt x.1 y.1 = true
/-- The place of a key. -/
def Place (l : List Ent) (t : ByteArray) (i : Nat) : Prop := i ≤ l.length ∧ (∀ (j : Nat) (x : Ent), j < i → l[j]? = some x → slt x.1 t = true) ∧ ∀ (j : Nat) (x : Ent), i ≤ j → l[j]? = some x → slt x.1 t = false
def here (l : List Ent) (t : ByteArray) (i : Nat) : Bool := decide (l[i]?.map (·.1) = some t)
def SeekP (l : List Ent) (t : ByteArray) (w : World) (e : Ending) (w' : World) : Prop := ∃ i : Nat, Place l t i ∧ e = .returned (.tuple #[.int .i64 i, .bool (here l t i)]) ∧ Below w.heap.size w w'
theorem Place.low {l : List Ent} {t : ByteArray} {x : Ent} {h : Nat} (hs : Srt l) (hx : l[h]? = some x) (hl : slt x.1 t = true) : ∀ (j : Nat) (y : Ent), j < h + 1 → l[j]? = some y → slt y.1 t = true := fun j y hj hy => by
  by_cases e : j = h
  · subst e; rw [hx] at hy; cases hy; exact hl
  · exact slt_trans (hs j h y x (by omega) hy hx) hl
theorem Place.high {l : List Ent} {t : ByteArray} {x : Ent} {h : Nat} (hs : Srt l) (hx : l[h]? = some x) (hl : slt x.1 t = false) : ∀ (j : Nat) (y : Ent), h ≤ j → l[j]? = some y → slt y.1 t = false := fun j y hj hy => by
  by_cases e : h = j
  · subst e; rw [hx] at hy; cases hy; exact hl
  · have h1 := hs h j x y (by omega) hx hy
    rw [Bool.eq_false_iff]
    intro h2
    rw [slt_trans h1 h2] at hl; cases hl
theorem cmpF_neg {a b : ByteArray} : (cmpF a b < 0) ↔ slt a b = true := by
  unfold cmpF
  by_cases h : slt a b = true
  · rw [if_pos h]; exact ⟨fun _ => h, fun _ => by decide⟩
  · rw [if_neg h]
    refine ⟨fun h2 => ?_, fun h2 => absurd h2 h⟩
    split at h2
    · exact absurd h2 (by decide)
    · exact absurd h2 (by decide)
theorem cmpF_zero {a b : ByteArray} (h : slt a b = false) : (cmpF a b == 0) = decide (a = b) := by
  unfold cmpF
  rw [if_neg (by rw [h]; decide)]
  split <;> simp [*]
set_option maxHeartbeats 8000000 in
theorem bsf_calls (w : World) (A : Option Addr) (n c : Nat) (l : List Ent) (hsl : IsSl w 2 A n c (pCells l)) (hn : n ≤ 4611686018427387903) (hs : Srt l) (t : ByteArray) :
    Calls Tryz.prog 45 #[.slice A n c, .string t, .func (.func 46) #[] #[]] w (SeekP l t w) := by
  have hnc := hsl.2.1
  have hcm := hsl.2.2.1
  unfold maxLen at hcm
  have HLN : Hid (l.length = n) := by have := hsl.1; rw [pCells_length] at this; show _ = _; omega
  have HSL := Lib.hid hsl
  have HS := Lib.hid hs
  clear hsl hs
  go_enter Tryz.func45, Tryz.ntmps45
  go_wp2_with fail
  go_loopw [9, 10] (fun a b wr => ∃ lo hi : Nat, a = .int .i64 lo ∧ b = .int .i64 hi ∧ lo ≤ hi ∧ hi ≤ n ∧ Hid (∀ (j : Nat) (x : Ent), j < lo → l[j]? = some x → slt x.1 t = true) ∧ Hid (∀ (j : Nat) (x : Ent), hi ≤ j → l[j]? = some x → slt x.1 t = false) ∧ Below w.heap.size w wr) (fun a b _ => (intOf b).toNat - (intOf a).toNat)
  case atStart => exact ⟨0, n, rfl, rfl, Nat.zero_le _, Nat.le_refl _, fun j x hj => absurd hj (Nat.not_lt_zero j), fun j x hj hx => absurd (List.getElem?_eq_some_iff.1 hx).1 (by rw [HLN.out]; omega), Below.refl _ _⟩
  case round =>
    obtain ⟨lo, hi, rfl, rfl, hlh, hin, HLO, HHI, hb⟩ := hrel
    have HB := Lib.hid hb
    by_cases hlt : lo < hi
    · obtain ⟨m, hm⟩ : ∃ m, (lo + hi) / 2 = m := ⟨_, rfl⟩
      have hm1 : lo ≤ m := by omega
      have hm2 : m < hi := by omega
      obtain ⟨x, hx⟩ : ∃ x, l[m]? = some x := ⟨_, List.getElem?_eq_getElem (by rw [HLN.out]; omega)⟩
      obtain ⟨bb, oo, rfl, z0, z1⟩ := ent_at (HSL.out.below hb) hx
      have hmc : ((lo : Int) + (hi : Int)) / 2 = (m : Int) := by omega
      have HX := Lib.hid hx
      have C := Lib.hid (seek1_calls x.1 t x.2)
      obtain ⟨cv, hcv⟩ : ∃ cv, cmpF x.1 t = cv := ⟨_, rfl⟩
      rw [hcv] at C
      clear hx hb hm
      cases hsx : slt x.1 t
      · have hc0 : ¬ cv < 0 := by rw [← hcv, cmpF_neg, hsx]; decide
        have HH := Lib.hid (Place.high HS.out HX.out hsx)
        clear hcv hsx
        go_wp2_with fail
        refine (C.out _).mono ?_
        rintro e w2 ⟨rfl, hb2⟩
        have HB2 := Lib.hid (below_next HB.out hb2)
        clear hb2 C z0 z1
        go_wp2_with fail
        go_roundw
        case rel => exact ⟨lo, m, rfl, rfl, hm1, by omega, HLO, HH, HB2.out⟩
        case measure => simp [intOf]; omega
      · have hc0 : cv < 0 := by rw [← hcv, cmpF_neg]; exact hsx
        have HH := Lib.hid (Place.low HS.out HX.out hsx)
        clear hcv hsx
        go_wp2_with fail
        refine (C.out _).mono ?_
        rintro e w2 ⟨rfl, hb2⟩
        have HB2 := Lib.hid (below_next HB.out hb2)
        clear hb2 C z0 z1
        go_wp2_with fail
        go_roundw
        case rel => exact ⟨m + 1, hi, by go_num, rfl, by omega, hin, HH, HHI, HB2.out⟩
        case measure => simp [intOf]; omega
    · obtain rfl : lo = hi := by omega
      have HP : Hid (Place l t lo) := ⟨by rw [HLN.out]; exact hin, HLO.out, HHI.out⟩
      by_cases hln : lo < n
      · obtain ⟨x, hx⟩ : ∃ x, l[lo]? = some x := ⟨_, List.getElem?_eq_getElem (by rw [HLN.out]; omega)⟩
        obtain ⟨bb, oo, rfl, z0, z1⟩ := ent_at (HSL.out.below hb) hx
        have C := Lib.hid (seek1_calls x.1 t x.2)
        have HC0 := cmpF_zero (HHI.out lo x (Nat.le_refl _) hx)
        obtain ⟨cv, hcv⟩ : ∃ cv, cmpF x.1 t = cv := ⟨_, rfl⟩
        obtain ⟨bv, hbv⟩ : ∃ bv, decide (x.1 = t) = bv := ⟨_, rfl⟩
        have HR : Hid (here l t lo = bv) := by show _ = _; unfold here; rw [hx, ← hbv]; simp
        rw [hcv] at C HC0
        rw [hbv] at HC0
        clear hcv hbv hx hb
        go_wp2_with fail
        refine (C.out _).mono ?_
        rintro e w2 ⟨rfl, hb2⟩
        have HB2 := Lib.hid (below_next HB.out hb2)
        clear hb2 C z0 z1
        go_wp2_with fail
        go_ret2
        exact ⟨lo, HP.out, by rw [HR.out]; rfl, HB2.out⟩
      · have HR : Hid (here l t lo = false) := by
          show _ = _
          unfold here
          rw [List.getElem?_eq_none (by rw [HLN.out]; omega)]; rfl
        clear hb
        go_wp2_with fail
        go_ret2
        exact ⟨lo, HP.out, by rw [HR.out]; rfl, HB.out⟩
end Trm
end Go.Proofs.YtfohollhdaedlaaGreatDoor
/- Terms: what stands by a key of a table; its keys. -/
set_option linter.unusedVariables false
set_option linter.unusedSimpArgs false
set_option maxRecDepth 100000
namespace Go.Proofs.YtfohollhdaedlaaGreatDoor
open Go.RowKit
namespace Trm
/-- A table in memory: its own row of entries, by rising keys. -/
structure IsTab (B b : Nat) (v : Value) (l : List Ent) (w : World) : Prop where
  le : B ≤ b
  srt : Srt l
  head : w.heap[b]? = some (.cells #[v] 47 (0, 0))
  row : w.ownsRow B 74 2 v l.length (pCells l)
theorem IsTab.below {B b : Nat} {v : Value} {l : List Ent} {w w' : World} (h : IsTab B b v l w) (hb : Below w.heap.size w w') : IsTab B b v l w' :=
  ⟨h.le, h.srt, (hb.block b (Array.getElem?_eq_some_iff.1 h.head).1).trans h.head, own_below h.row hb⟩
theorem IsTab.lt {B b : Nat} {v : Value} {l : List Ent} {w : World} (h : IsTab B b v l w) : b < w.heap.size := (Array.getElem?_eq_some_iff.1 h.head).1
theorem thead {w : World} {p : Nat} {x : Value} {t : TypeId} (h : w.heap[p]? = some (.cells #[x] t (0, 0))) : w.cell? ⟨p, 0, none⟩ = some x ∧ w.frozen? ⟨p, 0, none⟩ = false :=
  ⟨by simp [World.cell?, h], by simp [World.frozen?, h]⟩
theorem seek_calls {B b : Nat} {v : Value} {l : List Ent} {w : World} (h : IsTab B b v l w) (hn : l.length ≤ 1000000000) (t : ByteArray) :
    Calls Tryz.prog 32 #[.pointer (some ⟨b, 0, none⟩), .string t] w (SeekP l t w) := by
  obtain ⟨A, c, rfl, hsl⟩ := own_form h.row
  obtain ⟨x0, x1⟩ := thead h.head
  have C := Lib.hid (bsf_calls w A l.length c l hsl (by omega) h.srt t)
  clear h hsl
  generalize l.length = n at *
  go_enter Tryz.func32, Tryz.ntmps32
  go_wp2_with fail
  refine C.out.mono ?_
  rintro e w2 ⟨i, hp, rfl, hb⟩
  have HP := Lib.hid hp
  have HB := Lib.hid hb
  clear hp hb C
  go_wp2_with fail
  go_ret2
  exact ⟨i, HP.out, rfl, HB.out⟩
theorem here_no {l : List Ent} {t : ByteArray} {i : Nat} (hs : Srt l) (hp : Place l t i) (hh : here l t i = false) : ∀ x ∈ l, x.1 ≠ t := by
  intro x hx he
  obtain ⟨j, hj⟩ := List.mem_iff_getElem?.1 hx
  rcases Nat.lt_trichotomy j i with h | h | h
  · have := hp.2.1 j x h hj
    rw [he, slt_irrefl] at this; cases this
  · subst h
    unfold here at hh
    rw [hj, ← he] at hh
    simp at hh
  · obtain ⟨y, hy⟩ : ∃ y, l[i]? = some y := ⟨_, List.getElem?_eq_getElem (by have := (List.getElem?_eq_some_iff.1 hj).1; omega)⟩
    have h1 := hs i j y x h hy hj
    have h2 := hp.2.2 i y (Nat.le_refl _) hy
    rw [← he, h1] at h2; cases h2
theorem here_yes {l : List Ent} {t : ByteArray} {i : Nat} (hh : here l t i = true) : ∃ x, l[i]? = some x ∧ x.1 = t := by
  unfold here at hh
  have h := of_decide_eq_true hh
  obtain ⟨x, hx, he⟩ := Option.map_eq_some_iff.1 h
  exact ⟨x, hx, he⟩
def GetP (l : List Ent) (t : ByteArray) (w : World) (e : Ending) (w' : World) : Prop :=
  ((∃ (i : Nat) (x : Ent), l[i]? = some x ∧ x.1 = t ∧ e = .returned (.tuple #[x.2, .bool true])) ∨ ((∀ x ∈ l, x.1 ≠ t) ∧ e = .returned (.tuple #[.slice none 0 0, .bool false]))) ∧ Below w.heap.size w w'
theorem get_calls {B b : Nat} {v : Value} {l : List Ent} {w : World} (h : IsTab B b v l w) (hn : l.length ≤ 1000000000) (t : ByteArray) :
    Calls Tryz.prog 18 #[.pointer (some ⟨b, 0, none⟩), .string t] w (GetP l t w) := by
  have H := Lib.hid h
  have C := Lib.hid (seek_calls h hn t)
  clear h
  go_enter Tryz.func18, Tryz.ntmps18
  go_wp2_with fail
  refine C.out.mono ?_
  rintro e w2 ⟨i, hp, rfl, hb⟩
  have HB := Lib.hid hb
  have HP := Lib.hid hp
  cases hh : here l t i
  · have HN := Lib.hid (here_no H.out.srt hp hh)
    clear hp hb C hh
    go_wp2_with fail
    go_ret2
    exact ⟨.inr ⟨HN.out, rfl⟩, HB.out⟩
  · obtain ⟨x, hx, he⟩ := here_yes hh
    have hi := (List.getElem?_eq_some_iff.1 hx).1
    obtain ⟨A, c, rfl, hsl⟩ := own_form (H.out.below hb).row
    obtain ⟨x0, x1⟩ := thead (H.out.below hb).head
    obtain ⟨ab, ao, rfl, z0, z1⟩ := ent_at hsl hx
    have hi' : (i : Int) < l.length := by omega
    have HX := Lib.hid hx
    have HE := Lib.hid he
    clear hp hb C hh hx he hsl
    generalize l.length = n at *
    go_wp2_with fail
    go_ret2
    exact ⟨.inl ⟨i, x, HX.out, HE.out, rfl⟩, HB.out⟩
theorem len_calls {B b : Nat} {v : Value} {l : List Ent} {w : World} (h : IsTab B b v l w) :
    Calls Tryz.prog 31 #[.pointer (some ⟨b, 0, none⟩)] w fun e w' => e = .returned (.int .i64 l.length) ∧ w' = w := by
  obtain ⟨A, c, rfl, hsl⟩ := own_form h.row
  obtain ⟨x0, x1⟩ := thead h.head
  clear h hsl
  generalize l.length = n at *
  go_enter Tryz.func31, Tryz.ntmps31
  go_wp2_with fail
  go_ret
  exact ⟨rfl, rfl⟩
end Trm
end Go.Proofs.YtfohollhdaedlaaGreatDoor
/- Terms: a table's keys. -/
set_option linter.unusedVariables false
set_option linter.unusedSimpArgs false
set_option maxRecDepth 100000
namespace Go.Proofs.YtfohollhdaedlaaGreatDoor
open Go.RowKit
namespace Trm
theorem inf_str : (Tryz.prog.info? 9).map (fun i => (i.zero, i.size, i.bytes)) = some (some (.string { data := #[] }), 1, 16) := by kernel_rfl
def keyCells (l : List Ent) : List Value := l.map fun x => .string x.1
set_option maxHeartbeats 4000000 in
theorem keys_calls {B b : Nat} {v : Value} {l : List Ent} {w : World} (h : IsTab B b v l w) (hn : l.length ≤ 1000000000) :
    Calls Tryz.prog 17 #[.pointer (some ⟨b, 0, none⟩)] w fun e w' => ∃ u, e = .returned u ∧ w'.ownsRow w.heap.size 9 1 u l.length (keyCells l) ∧ Below w.heap.size w w' := by
  have H := Lib.hid h
  have C := Lib.hid (len_calls h)
  obtain ⟨n, hnl⟩ : ∃ n, l.length = n := ⟨_, rfl⟩
  have HN := Lib.hid hnl
  rw [hnl] at C hn ⊢
  clear h hnl
  go_enter Tryz.func17, Tryz.ntmps17
  go_wp2_with fail
  refine C.out.mono ?_
  rintro e w2 ⟨rfl, rfl⟩
  clear C
  go_wp2_with fail
  go_loopw [3, 7] (fun out ix wr => ∃ i : Nat, i ≤ n ∧ ix = .int .i64 i ∧ wr.ownsRow w2.heap.size 9 1 out i (keyCells (l.take i)) ∧ Below w2.heap.size w2 wr) (fun _ ix _ => n - (intOf ix).toNat)
  case atStart => exact ⟨0, Nat.zero_le _, rfl, World.ownsRow_nil _ _ _ _, Below.refl _ _⟩
  case round =>
    obtain ⟨i, hi, rfl, ho, hb⟩ := hrel
    have HB := Lib.hid hb
    have HO := Lib.hid ho
    by_cases hlt : i < n
    · obtain ⟨x, hx⟩ : ∃ x, l[i]? = some x := ⟨_, List.getElem?_eq_getElem (by rw [HN.out]; exact hlt)⟩
      obtain ⟨A, c, rfl, hsl⟩ := own_form (H.out.below hb).row
      obtain ⟨x0, x1⟩ := thead (H.out.below hb).head
      rw [HN.out] at x0
      obtain ⟨ab, ao, rfl, z0, z1⟩ := ent_at hsl hx
      have HT : Hid (keyCells (l.take (i + 1)) = keyCells (l.take i) ++ [.string x.1]) := by
        show _ = _
        unfold keyCells
        rw [List.take_add_one, hx, List.map_append]; rfl
      have hz := hb.size
      obtain ⟨key, hkey⟩ : ∃ key, x.1 = key := ⟨_, rfl⟩
      rw [hkey] at z0 HT
      clear hx hb ho hsl hkey z1
      go_wp2_with (at_builtin; go_loud (refine wpList_app_own _ rfl (.tmp 10) (.tmp 19) 54 rfl w2.heap.size 9 (.string { data := #[] }) 1 16 Tryz.underlying54 inf_str rfl (by decide) _ i (keyCells (l.take i)) rfl (own_below HO.out ((Below.refl _ _).alloc (Nat.le_refl _) _)) _ 1 1 _ rfl (sl_lit _ _ _ 1 rfl (by decide)) (by simp [Value.oneCell']) (by unfold maxLen; omega) (by omega) (by simp; omega) ?_))
      intro v3 w3 ho3 hg3 hb3
      have HO3 := Lib.hid ho3
      have HB3 := Lib.hid ((HB.out.alloc hz _).trans hb3)
      clear ho3 hg3 hb3 x0 x1 z0
      go_wp2_with fail
      go_roundw
      case rel => exact ⟨i + 1, by omega, by go_num, by rw [HT.out]; exact HO3.out, HB3.out⟩
      case measure => simp [intOf]; omega
    · obtain rfl : i = n := by omega
      have HT : Hid (l.take i = l) := List.take_of_length_le (by rw [HN.out]; exact Nat.le_refl _)
      clear hb ho
      go_wp2_with fail
      go_ret
      exact ⟨_, rfl, by have h := HO.out; rw [HT.out] at h; exact h, HB.out⟩
end Trm
end Go.Proofs.YtfohollhdaedlaaGreatDoor
