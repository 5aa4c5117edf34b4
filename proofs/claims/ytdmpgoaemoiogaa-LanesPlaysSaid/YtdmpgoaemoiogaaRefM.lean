/- Lanes' reference: a list of messages with their ways; what is on each way. No program in sight. -/
import Derived.WalkKit
set_option linter.unusedVariables false
set_option linter.unusedSimpArgs false
namespace Go.Proofs.Ytdmpgoaemoiogaa
namespace Ref
abbrev Way2 := Int × Int
/-- What is on a way. -/
def rq {α : Type} (L : List (Way2 × α)) (k : Way2) : List α := (L.filter (fun x => decide (x.1 = k))).map (·.2)
/-- The place of a way's j-th message. -/
def rfind {α : Type} : List (Way2 × α) → Way2 → Nat → Option Nat
  | [], _, _ => none
  | x :: L, k, j => if x.1 = k then (match j with | 0 => some 0 | j + 1 => (rfind L k j).map (· + 1)) else (rfind L k j).map (· + 1)
variable {α : Type}
theorem rq_nil (k : Way2) : rq ([] : List (Way2 × α)) k = [] := rfl
theorem rq_cons_same (x : α) (L : List (Way2 × α)) (k : Way2) : rq ((k, x) :: L) k = x :: rq L k := by simp [rq]
theorem rq_cons_other {k k' : Way2} (h : k' ≠ k) (x : α) (L : List (Way2 × α)) : rq ((k', x) :: L) k = rq L k := by simp [rq, h]
theorem rq_app (L M : List (Way2 × α)) (k : Way2) : rq (L ++ M) k = rq L k ++ rq M k := by simp [rq]
theorem rq_one (x : α) (k : Way2) : rq [(k, x)] k = [x] := by simp [rq]
theorem rq_one_other {k k' : Way2} (h : k' ≠ k) (x : α) : rq [(k', x)] k = [] := by simp [rq, h]
theorem rq_length_le (L : List (Way2 × α)) (k : Way2) : (rq L k).length ≤ L.length := by
  rw [rq, List.length_map]; exact List.length_filter_le _ _
/-- One step of a count. -/
theorem rq_take_succ (L : List (Way2 × α)) (k : Way2) {i : Nat} (h : i < L.length) : (rq (L.take (i + 1)) k).length = (rq (L.take i) k).length + (if (L[i]).1 = k then 1 else 0) := by
  rw [List.take_succ_eq_append_getElem h, rq_app, List.length_append]
  congr 1
  obtain ⟨k', x⟩ := L[i]
  by_cases e : k' = k
  · subst e; rw [rq_one, if_pos rfl]; rfl
  · rw [rq_one_other e, if_neg e]; rfl
theorem rfind_none : ∀ (L : List (Way2 × α)) (k : Way2) (j : Nat), (rq L k).length ≤ j → rfind L k j = none
  | [], _, _, _ => rfl
  | (k', x) :: L, k, j, h => by
    unfold rfind
    by_cases e : k' = k
    · subst e
      rw [rq_cons_same] at h
      rw [if_pos rfl]
      match j, h with
      | 0, h => simp at h
      | j + 1, h => simp only [rfind_none L k' j (by simpa using h), Option.map_none]
    · rw [rq_cons_other e] at h
      rw [if_neg e, rfind_none L k j h]; rfl
/-- A message of a way stands somewhere; what becomes of all ways where it is taken out, or turned. -/
theorem rfind_some : ∀ (L : List (Way2 × α)) (k : Way2) (j : Nat) (x : α), (rq L k)[j]? = some x →
    ∃ i, rfind L k j = some i ∧ L[i]? = some (k, x) ∧ (∀ k', rq (L.eraseIdx i) k' = if k' = k then (rq L k).eraseIdx j else rq L k') ∧ (∀ y k', rq (L.set i (k, y)) k' = if k' = k then (rq L k).set j y else rq L k') ∧ (rq (L.take i) k).length = j
  | [], _, _, _, h => by simp [rq] at h
  | (k0, x0) :: L, k, j, x, h => by
    unfold rfind
    by_cases e : k0 = k
    · subst e
      rw [rq_cons_same] at h
      rw [if_pos rfl]
      match j, h with
      | 0, h =>
        obtain rfl : x0 = x := by simpa using h
        refine ⟨0, rfl, rfl, fun k' => ?_, fun y k' => ?_, by simp [rq]⟩
        · by_cases e' : k' = k0
          · subst e'; rw [if_pos rfl, rq_cons_same]; rfl
          · rw [if_neg e', rq_cons_other (Ne.symm e')]; rfl
        · by_cases e' : k' = k0
          · subst e'; rw [if_pos rfl, List.set_cons_zero, rq_cons_same, rq_cons_same]; rfl
          · rw [if_neg e', List.set_cons_zero, rq_cons_other (Ne.symm e'), rq_cons_other (Ne.symm e')]
      | j + 1, h =>
        obtain ⟨i, h1, h2, h3, h4, h5⟩ := rfind_some L k0 j x (by simpa using h)
        refine ⟨i + 1, by simp only [h1, Option.map_some], by simpa using h2, fun k' => ?_, fun y k' => ?_, ?_⟩
        · rw [List.eraseIdx_cons_succ]
          by_cases e' : k' = k0
          · subst e'; rw [if_pos rfl, rq_cons_same, rq_cons_same, List.eraseIdx_cons_succ, h3 k', if_pos rfl]
          · rw [if_neg e', rq_cons_other (Ne.symm e'), rq_cons_other (Ne.symm e'), h3 k', if_neg e']
        · rw [List.set_cons_succ]
          by_cases e' : k' = k0
          · subst e'; rw [if_pos rfl, rq_cons_same, rq_cons_same, List.set_cons_succ, h4 y k', if_pos rfl]
          · rw [if_neg e', rq_cons_other (Ne.symm e'), rq_cons_other (Ne.symm e'), h4 y k', if_neg e']
        · rw [List.take_succ_cons, rq_cons_same, List.length_cons, h5]
    · rw [rq_cons_other e] at h
      rw [if_neg e]
      obtain ⟨i, h1, h2, h3, h4, h5⟩ := rfind_some L k j x h
      refine ⟨i + 1, by rw [h1]; rfl, by simpa using h2, fun k' => ?_, fun y k' => ?_, ?_⟩
      · rw [List.eraseIdx_cons_succ]
        by_cases e' : k' = k0
        · subst e'; rw [if_neg e, rq_cons_same, rq_cons_same, h3 k', if_neg e]
        · rw [rq_cons_other (Ne.symm e'), h3 k', rq_cons_other (Ne.symm e'), rq_cons_other e]
      · rw [List.set_cons_succ]
        by_cases e' : k' = k0
        · subst e'; rw [if_neg e, rq_cons_same, rq_cons_same, h4 y k', if_neg e]
        · rw [rq_cons_other (Ne.symm e'), h4 y k', rq_cons_other (Ne.symm e'), rq_cons_other e]
      · rw [List.take_succ_cons, rq_cons_other e, h5]
/-- Where a loop stops. -/
theorem rfind_at : ∀ (L : List (Way2 × α)) (k : Way2) (i : Nat) (h : i < L.length), (L[i]).1 = k → rfind L k (rq (L.take i) k).length = some i
  | (k0, x0) :: L, k, 0, _, e => by
    obtain rfl : k0 = k := e
    simp [rfind, rq]
  | (k0, x0) :: L, k, i + 1, h, e => by
    have ih := rfind_at L k i (by simpa using h) (by simpa using e)
    rw [List.take_succ_cons]
    unfold rfind
    by_cases e0 : k0 = k
    · subst e0
      rw [rq_cons_same, if_pos rfl]
      show (rfind L k0 (rq (L.take i) k0).length).map (· + 1) = _
      rw [ih]; rfl
    · rw [rq_cons_other e0, if_neg e0, ih]; rfl
/-- What the reference's search answers. -/
def rf (L : List (Way2 × α)) (k : Way2) (j : Int) : Int := if j < 0 then -1 else match rfind L k j.toNat with | some i => (i : Int) | none => -1
theorem rf_neg {L : List (Way2 × α)} {k : Way2} {j : Int} (h : j < 0 ∨ ((rq L k).length : Int) ≤ j) : rf L k j = -1 := by
  unfold rf
  split
  · rfl
  · rw [rfind_none L k j.toNat (by omega)]
theorem rf_at {L : List (Way2 × α)} {k : Way2} {j i : Nat} (h : rfind L k j = some i) : rf L k j = i := by
  unfold rf
  rw [if_neg (by omega), Int.toNat_natCast, h]
end Ref
end Go.Proofs.Ytdmpgoaemoiogaa
