/- Export: what documents' lines are, over lists of bytes. No program in sight. -/
import Derived.WalkKit
set_option linter.unusedVariables false
set_option linter.unusedSimpArgs false
namespace Go.Proofs.YtfohollhdaedlaaGreatDoor
namespace Exp
abbrev B8 := List UInt8
def esc1 (c : UInt8) : B8 := if c = 10 then [92, 110] else if c = 92 then [92, 92] else [c]
/-- A text on one line. -/
def esc (l : B8) : B8 := l.flatMap esc1
/-- The text of a line. -/
def unesc : B8 → Option B8
  | [] => some []
  | [c] => if c = 92 then none else some [c]
  | c :: d :: l => if c = 92 then (if d = 110 then (unesc l).map (10 :: ·) else if d = 92 then (unesc l).map (92 :: ·) else none) else (unesc (d :: l)).map (c :: ·)
theorem esc_cons (c : UInt8) (l : B8) : esc (c :: l) = esc1 c ++ esc l := rfl
theorem esc_append (l m : B8) : esc (l ++ m) = esc l ++ esc m := by simp [esc]
theorem unesc_other (c : UInt8) (l : B8) (h : c ≠ 92) : unesc (c :: l) = (unesc l).map (c :: ·) := by
  cases l with
  | nil => simp [unesc, h]
  | cons d l => simp [unesc, h]
theorem unesc_bs (d : UInt8) (l : B8) : unesc (92 :: d :: l) = if d = 110 then (unesc l).map (10 :: ·) else if d = 92 then (unesc l).map (92 :: ·) else none := by simp [unesc]
theorem unesc_esc : ∀ l : B8, unesc (esc l) = some l
  | [] => rfl
  | c :: l => by
    have ih := unesc_esc l
    rw [esc_cons]
    unfold esc1
    by_cases h : c = 10
    · subst h
      rw [if_pos rfl]
      show unesc (92 :: 110 :: esc l) = _
      rw [unesc_bs, if_pos rfl, ih]; rfl
    · rw [if_neg h]
      by_cases h2 : c = 92
      · subst h2
        rw [if_pos rfl]
        show unesc (92 :: 92 :: esc l) = _
        rw [unesc_bs, if_neg (by decide), if_pos rfl, ih]; rfl
      · rw [if_neg h2]
        show unesc (c :: esc l) = _
        rw [unesc_other c _ h2, ih]; rfl
theorem esc_no10 : ∀ l : B8, (10 : UInt8) ∉ esc l
  | [] => by simp [esc]
  | c :: l => by
    have ih := esc_no10 l
    rw [esc_cons, List.mem_append, not_or]
    refine ⟨?_, ih⟩
    unfold esc1
    by_cases h : c = 10
    · rw [if_pos h]; decide
    · rw [if_neg h]
      by_cases h2 : c = 92
      · rw [if_pos h2]; decide
      · rw [if_neg h2]; simp; exact fun e => h e.symm
theorem esc_unesc : ∀ (n : Nat) (l t : B8), l.length ≤ n → (10 : UInt8) ∉ l → unesc l = some t → esc t = l
  | _, [], t, _, _, h => by
    obtain rfl : [] = t := by simpa [unesc] using h
    rfl
  | 0, c :: l, t, hn, _, _ => by simp at hn
  | n + 1, c :: l, t, hn, h10, h => by
    simp only [List.mem_cons, not_or] at h10
    by_cases hc : c = 92
    · subst hc
      cases l with
      | nil => simp [unesc] at h
      | cons d l =>
        rw [unesc_bs] at h
        simp only [List.mem_cons, not_or] at h10
        have hl : l.length ≤ n := by simp at hn; omega
        by_cases hd : d = 110
        · subst hd
          rw [if_pos rfl, Option.map_eq_some_iff] at h
          obtain ⟨t', h1, rfl⟩ := h
          rw [esc_cons, esc_unesc n l t' hl h10.2.2 h1]; rfl
        · rw [if_neg hd] at h
          by_cases hd2 : d = 92
          · subst hd2
            rw [if_pos rfl, Option.map_eq_some_iff] at h
            obtain ⟨t', h1, rfl⟩ := h
            rw [esc_cons, esc_unesc n l t' hl h10.2.2 h1]; rfl
          · rw [if_neg hd2] at h; cases h
    · rw [unesc_other c l hc, Option.map_eq_some_iff] at h
      obtain ⟨t', h1, rfl⟩ := h
      rw [esc_cons, esc_unesc n l t' (by simp at hn; omega) h10.2 h1]
      unfold esc1
      rw [if_neg (Ne.symm h10.1), if_neg hc]; rfl
/-- A document. -/
structure DocM where
  id : ByteArray
  t0 : ByteArray
  t1 : ByteArray
  t2 : ByteArray
  t3 : ByteArray
def DocM.get (d : DocM) (i : Nat) : ByteArray := if i = 0 then d.t0 else if i = 1 then d.t1 else if i = 2 then d.t2 else d.t3
def DocM.put (d : DocM) (i : Nat) (s : ByteArray) : DocM := if i = 0 then { d with t0 := s } else if i = 1 then { d with t1 := s } else if i = 2 then { d with t2 := s } else { d with t3 := s }
def bare (id : ByteArray) : DocM := ⟨id, ⟨#[]⟩, ⟨#[]⟩, ⟨#[]⟩, ⟨#[]⟩⟩
/-- How a line of each field begins. -/
def head (i : Nat) : B8 := if i = 0 then [116, 105, 116, 108, 101, 32] else if i = 1 then [98, 111, 100, 121, 32] else if i = 2 then [116, 97, 103, 32] else [110, 111, 116, 101, 32]
def docHead : B8 := [100, 111, 99, 32]
def okC (c : UInt8) : Bool := decide ((97 ≤ c.toNat ∧ c.toNat ≤ 122) ∨ (48 ≤ c.toNat ∧ c.toNat ≤ 57) ∨ c.toNat = 45)
def nameOk (s : B8) : Bool := decide (1 ≤ s.length ∧ s.length ≤ 12) && s.all okC
/-- A field's line, and a document's. -/
def fieldLine (d : DocM) (i : Nat) : B8 := if (d.get i).data.toList = [] then [] else head i ++ esc (d.get i).data.toList ++ [10]
def docLines (d : DocM) : B8 := docHead ++ d.id.data.toList ++ [10] ++ fieldLine d 0 ++ fieldLine d 1 ++ fieldLine d 2 ++ fieldLine d 3
variable (okT : ByteArray → Bool)
def mayD (d : DocM) : Bool := okT d.t0 && okT d.t1 && okT d.t2 && okT d.t3 && nameOk d.id.data.toList
def writeD (l : List DocM) : B8 := (l.filter (mayD okT)).flatMap docLines
end Exp
end Go.Proofs.YtfohollhdaedlaaGreatDoor
