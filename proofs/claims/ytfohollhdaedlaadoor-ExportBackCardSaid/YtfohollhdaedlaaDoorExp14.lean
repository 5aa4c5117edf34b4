/- Export: Read. -/
import Derived.Test.YtfohollhdaedlaaDoorExp13
set_option linter.unusedVariables false
set_option linter.unusedSimpArgs false
set_option maxRecDepth 100000
namespace Go.Proofs.YtfohollhdaedlaaDoor
open Go.RowKit
attribute [local go_sem] Oper.semAt_some
namespace Exp
theorem lines0_calls (s : ByteArray) (w : World) :
    Calls Tryd.prog 37 #[.string s] w fun e w' => e = .returned (.func (.func 76) #[] #[.pointer (some ⟨w.heap.size, 0, none⟩)]) ∧ w' = w.alloc (.cells #[.string s] 9) := by
  go_enter Tryd.func37, Tryd.ntmps37
  go_wp2
  go_ret
  exact ⟨rfl, rfl⟩
theorem lines_len (s : B8) : (linesOf s).1.length ≤ s.length := by
  have h := congrArg List.length (ends_linesOf s)
  rw [List.length_append] at h
  have : ∀ l : List B8, l.length ≤ (ends l).length := by
    intro l
    induction l with
    | nil => exact Nat.le_refl _
    | cons x l ih => rw [ends_cons]; simp; omega
  have := this (linesOf s).1
  omega
theorem pcs_len (s : B8) : (pcs s).length = (linesOf s).1.length + (if (linesOf s).2 = [] then 0 else 1) := by
  unfold pcs; rw [List.length_append, List.length_map]; split <;> rfl
theorem piece {s : B8} {k : Nat} (hk : k < (pcs s).length) :
    (∃ x, (linesOf s).1[k]? = some x ∧ (pcs s).getD k [] = x ++ [10]) ∨ (k = (linesOf s).1.length ∧ (pcs s).getD k [] = (linesOf s).2 ∧ (linesOf s).2 ≠ []) := by
  rw [pcs_len] at hk
  by_cases h : k < (linesOf s).1.length
  · refine .inl ⟨_, List.getElem?_eq_getElem h, ?_⟩
    unfold pcs
    rw [List.getD_eq_getElem?_getD, List.getElem?_append_left (by simpa using h), List.getElem?_map, List.getElem?_eq_getElem h]; rfl
  · split at hk
    · omega
    · refine .inr ⟨by omega, ?_, by assumption⟩
      unfold pcs
      rw [List.getD_eq_getElem?_getD, List.getElem?_append_right (by simp; omega), if_neg (by assumption)]
      rw [show k - ((linesOf s).1.map (· ++ [10])).length = 0 by simp; omega]; rfl
theorem suf_yes (x : B8) : Lib.hasSuffix (x ++ [10]) [10] = true ∧ Lib.trimSuffix (x ++ [10]) [10] = x := by
  have h : Lib.hasSuffix (x ++ [10]) [10] = true := by unfold Lib.hasSuffix; simp
  refine ⟨h, ?_⟩
  unfold Lib.trimSuffix
  rw [if_pos h]; simp
theorem suf_no {x : B8} (h : (10 : UInt8) ∉ x) : Lib.hasSuffix x [10] = false := by
  rw [Bool.eq_false_iff]
  intro hs
  unfold Lib.hasSuffix at hs
  obtain ⟨t, rfl⟩ := List.isSuffixOf_iff_suffix.1 hs
  simp at h
theorem readL_next {L : List B8} {l l' : List DocM} {k : Nat} {x : B8} (h : readL [] 0 (L.take k) = (l, none)) (hx : L[k]? = some x) (hl : lineF l x = some l') : readL [] 0 (L.take (k + 1)) = (l', none) := by
  rw [List.take_add_one, hx, readL_app _ _ _ _ _ h]
  show readL l _ [x] = _
  rw [readL, hl]; rfl
theorem readL_stop {L : List B8} {l : List DocM} {k : Nat} {x : B8} (h : readL [] 0 (L.take k) = (l, none)) (hx : L[k]? = some x) (hl : lineF l x = none) : readL [] 0 L = ([], some (k + 1)) := by
  obtain ⟨h1, h2⟩ := List.getElem?_eq_some_iff.1 hx
  have e : L = L.take k ++ x :: L.drop (k + 1) := by
    rw [← h2, ← List.drop_eq_getElem_cons h1, List.take_append_drop]
  have e2 : readL [] 0 L = readL [] 0 (L.take k ++ x :: L.drop (k + 1)) := by rw [← e]
  rw [e2, readL_app _ _ _ _ _ h, readL, hl, List.length_take, Nat.min_eq_left (by omega)]
  show ([], some (0 + k + 1)) = _
  rw [Nat.zero_add]
theorem readF_stop {s : B8} {k : Nat} (h : readL [] 0 (linesOf s).1 = ([], some k)) : readF s = ([], some k) := by unfold readF; rw [h]
theorem readF_rest {s : B8} {l : List DocM} (h : readL [] 0 (linesOf s).1 = (l, none)) (hr : (linesOf s).2 ≠ []) : readF s = ([], some ((linesOf s).1.length + 1)) := by
  unfold readF; rw [h]
  show (if (linesOf s).2 = [] then _ else _) = _
  rw [if_neg hr]
theorem readF_done {s : B8} {l : List DocM} (h : readL [] 0 (linesOf s).1 = (l, none)) (hr : (linesOf s).2 = []) : readF s = (l, none) := by
  unfold readF; rw [h]
  show (if (linesOf s).2 = [] then _ else _) = _
  rw [if_pos hr]
theorem lineF_len {l l' : List DocM} {x : B8} (h : lineF l x = some l') : l'.length ≤ l.length + 1 := by
  unfold lineF at h
  split at h
  · split at h
    · obtain rfl := Option.some.inj h; simp
    · cases h
  · split at h
    · split at h
      · split at h
        · obtain rfl := Option.some.inj h; simp
        · cases h
      · cases h
    · cases h
/-- The reader's block, apart from block x. -/
def IsRx (B b x : Nat) (l : List DocM) (w : World) : Prop :=
  B ≤ b ∧ ∃ v, w.heap[b]? = some (.cells #[v, .int .i64 (fldL l)] 67 (0, 0)) ∧ w.ownsRow B 33 5 v l.length (dCells l) ∧ v.ownBlock ≠ some x
theorem IsRx.r {B b x : Nat} {l : List DocM} {w : World} (h : IsRx B b x l w) : IsR B b l w := by
  obtain ⟨hB, v, h1, h2, _⟩ := h
  exact ⟨hB, v, h1, h2⟩
theorem IsR.x {B b x : Nat} {l : List DocM} {w : World} (h : IsR B b l w) (hx : ShL x w) : IsRx B b x l w := by
  obtain ⟨hB, v, h1, h2⟩ := h
  obtain ⟨u, hu⟩ := hx
  exact ⟨hB, v, h1, h2, fun e => own_ne h2 hu (by decide) e.symm⟩
/-- Read's memory: its results, the reader, where it lies, the count of lines. -/
structure RM (N : Nat) (l : List DocM) (k : Nat) (W : World) : Prop where
  c0 : W.heap[N]? = some (.cells #[.slice none 0 0] 23 (0, 0))
  c1 : W.heap[N + 1]? = some (.cells #[.int .i64 0] 3 (0, 0))
  c2 : W.heap[N + 1 + 1]? = some (.cells #[.int .i64 0] 24 (0, 0))
  rd : IsRx N (N + 1 + 1 + 1) (N + 1 + 1 + 1 + 1 + 1 + 1) l W
  c4 : W.heap[N + 1 + 1 + 1 + 1]? = some (.cells #[.pointer (some ⟨N + 1 + 1 + 1, 0, none⟩)] 65 (0, 0))
  c5 : W.heap[N + 1 + 1 + 1 + 1 + 1]? = some (.cells #[.int .i64 (k : Int)] 3 (0, 0))
theorem RM.kept {N k : Nat} {l : List DocM} {A C : World} {row : Option Nat} (h : RM N l k A) (hg : A.grownBy C row) (hk : ∀ r cs t fr, row = some r → A.heap[r]? = some (.cells cs t fr) → r = N + 1 + 1 + 1 + 1 + 1 + 1) : RM N l k C := by
  have far : ∀ {i : Nat} {cs : Array Value} {t : TypeId} {fr : Nat × Nat}, A.heap[i]? = some (.cells cs t fr) → i ≠ N + 1 + 1 + 1 + 1 + 1 + 1 → C.heap[i]? = some (.cells cs t fr) := fun {i cs t fr} hi hne =>
    (hg.block i (Array.getElem?_eq_some_iff.1 hi).1 (fun e => hne (hk i cs t fr e.symm hi))).trans hi
  obtain ⟨hB, v, h1, h2, h3⟩ := h.rd
  refine ⟨far h.c0 (by omega), far h.c1 (by omega), far h.c2 (by omega), ⟨hB, v, far h1 (by omega), h2.kept hg ?_, h3⟩, far h.c4 (by omega), far h.c5 (by omega)⟩
  rcases h2.2 with ⟨rfl, _⟩ | ⟨g, cap, cur, rfl, _, hgg, _⟩
  · exact .inl rfl
  · exact .inr fun e => h3 (by have := hk g _ _ _ e.symm hgg; show some g = _; rw [this])
/-- What Read answers. -/
def ReadP (s : B8) (w : World) (e : Ending) (w' : World) : Prop :=
  Below w.heap.size w w' ∧ ((∃ l A c, readF s = (l, none) ∧ e = .returned (.tuple #[.slice A l.length c, .int .i64 0, .int .i64 0]) ∧ IsSl w' 5 A l.length c (dCells l)) ∨
    ∃ k : Nat, readF s = ([], some k) ∧ e = .returned (.tuple #[.slice none 0 0, .int .i64 k, .int .i64 17]))
end Exp
end Go.Proofs.YtfohollhdaedlaaDoor
