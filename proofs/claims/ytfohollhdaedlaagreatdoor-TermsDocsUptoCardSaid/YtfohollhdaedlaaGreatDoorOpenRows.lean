/- How a slice that came in is opened: of texts, of numbers, of slices of texts. -/
import Derived.Test.YtfohollhdaedlaaGreatDoorSl
import Derived.ProofKit
import Derived.OpenShut
set_option linter.unusedVariables false
set_option linter.unusedSimpArgs false
namespace Go.Proofs.YtfohollhdaedlaaGreatDoor
open Go.RowKit Go.ChangeShapes Go.WideShapes
section
variable {H : Type} {enc : TypeId × Value → H} {P : Program} {W : World} {base : Nat} {spare : Nat → Bool} {held : Bool}

theorem cells_one {a : Addr} {y : List Value} (h : W.cells? base a 1 = some y) : ∃ u, y = [u] ∧ W.cell? a = some u := by
  unfold World.cells? at h
  split at h
  · simp only [List.range_one, List.mapM_cons, List.mapM_nil] at h
    cases hc : W.cell? (a.add 0) with
    | none => simp [hc] at h
    | some u =>
      simp [hc] at h
      exact ⟨u, h.symm, by simpa [Addr.add] using hc⟩
  · cases h
/-- A slice of one-cell elements: its row, and each element's own reading. -/
theorem open_row {t e : TypeId} {A : Option Addr} {n c : Nat} {fuel : Nat} {x : DataW H × List MemPlace} (hu : P.underlying t = some (.slice e)) (hc : P.cellsOf e = 1)
    (h : DataW.trod enc P W base spare held fuel t [.slice A n c] = some x) :
    ∃ l, IsSl W 1 A n c l ∧ ∀ u ∈ l, ∃ m y, DataW.trod enc P W base spare held m e [u] = some y := by
  rcases DataW.trod_slice hu h with ⟨hcs, _⟩ | ⟨a, len, cap, elems, rest, m, _, hcs, _, _, h1, h2, h3, h4, _⟩
  · simp only [List.cons.injEq, Value.slice.injEq, and_true] at hcs
    obtain ⟨rfl, rfl, rfl⟩ := hcs
    exact ⟨[], ⟨by simp, Nat.le_refl _, by decide, fun _ => ⟨rfl, rfl⟩, fun ad ha => by cases ha⟩, fun u hu => by cases hu⟩
  · simp only [List.cons.injEq, Value.slice.injEq, and_true] at hcs
    obtain ⟨rfl, rfl, rfl⟩ := hcs
    rw [hc] at h4
    have hg : ∀ i, i < n → ∃ u y, W.cell? (a.add i) = some u ∧ DataW.trod enc P W base spare held m e [u] = some y := fun i hi => by
      have := h4 i hi
      rw [List.getElem?_eq_getElem (by omega), Option.bind_eq_some_iff] at this
      obtain ⟨cs, k1, k2⟩ := this
      rw [Nat.mul_one] at k1
      obtain ⟨u, rfl, hc⟩ := cells_one k1
      exact ⟨u, _, hc, k2⟩
    refine ⟨(List.range n).map fun i => (W.cell? (a.add i)).getD undef, ⟨by simp, h1, h2, fun ha => (by cases ha), fun ad ha j u hu => ?_⟩, fun u hu => ?_⟩
    · obtain rfl := Option.some.inj ha
      have hj : j < n := by
        have := (List.getElem?_eq_some_iff.1 hu).1
        simpa using this
      obtain ⟨u', y, k1, k2⟩ := hg j hj
      rw [List.getElem?_map, List.getElem?_range hj] at hu
      simp [k1] at hu
      rw [k1, hu]
    · obtain ⟨i, hi, rfl⟩ := List.mem_map.1 hu
      obtain ⟨u', y, k1, k2⟩ := hg i (by simpa using hi)
      rw [k1]
      exact ⟨m, y, k2⟩
/-- A list of values, each of some form. -/
theorem all_form {α : Type} (f : α → Value) : ∀ (l : List Value), (∀ u ∈ l, ∃ a, u = f a) → ∃ as : List α, l = as.map f
  | [], _ => ⟨[], rfl⟩
  | u :: l, h => by
    obtain ⟨a, rfl⟩ := h u (List.mem_cons_self ..)
    obtain ⟨as, rfl⟩ := all_form f l fun v hv => h v (List.mem_cons_of_mem _ hv)
    exact ⟨a :: as, rfl⟩
theorem open_strs {t e : TypeId} {A : Option Addr} {n c : Nat} {fuel : Nat} {x : DataW H × List MemPlace} (hu : P.underlying t = some (.slice e)) (he : P.underlying e = some .string) (hc : P.cellsOf e = 1)
    (h : DataW.trod enc P W base spare held fuel t [.slice A n c] = some x) : ∃ ss : List ByteArray, IsSl W 1 A n c (ss.map .string) := by
  obtain ⟨l, hl, hel⟩ := open_row hu hc h
  obtain ⟨ss, rfl⟩ := all_form Value.string l fun u hu => by
    obtain ⟨m, y, hy⟩ := hel u hu
    obtain ⟨s, hs, _⟩ := DataW.trod_string he hy
    exact ⟨s, by simpa using hs⟩
  exact ⟨ss, hl⟩
/-- Slices of texts: each one's header and its row. -/
theorem open_rows {t e d : TypeId} {A : Option Addr} {n c : Nat} {fuel : Nat} {x : DataW H × List MemPlace} (hu : P.underlying t = some (.slice e)) (he : P.underlying e = some (.slice d)) (hd : P.underlying d = some .string) (hc : P.cellsOf e = 1) (hcd : P.cellsOf d = 1)
    (h : DataW.trod enc P W base spare held fuel t [.slice A n c] = some x) :
    ∃ rs : List (Option Addr × Nat × Nat × List ByteArray), IsSl W 1 A n c (rs.map fun r => .slice r.1 r.2.1 r.2.2.1) ∧ ∀ r ∈ rs, IsSl W 1 r.1 r.2.1 r.2.2.1 (r.2.2.2.map .string) := by
  obtain ⟨l, hl, hel⟩ := open_row hu hc h
  have : ∃ rs : List (Option Addr × Nat × Nat × List ByteArray), l = rs.map (fun r => .slice r.1 r.2.1 r.2.2.1) ∧ ∀ r ∈ rs, IsSl W 1 r.1 r.2.1 r.2.2.1 (r.2.2.2.map .string) := by
    clear hl
    induction l with
    | nil => exact ⟨[], rfl, fun r hr => by cases hr⟩
    | cons u l ih =>
      obtain ⟨rs, rfl, hrs⟩ := ih fun v hv => hel v (List.mem_cons_of_mem _ hv)
      obtain ⟨m, y, hy⟩ := hel u (List.mem_cons_self ..)
      obtain ⟨B, k, bc, rfl⟩ : ∃ B k bc, u = .slice B k bc := by
        rcases DataW.trod_slice he hy with ⟨hcs, _⟩ | ⟨a, len, cap, elems, rest, m, _, hcs, _⟩
        · exact ⟨none, 0, 0, by simpa using hcs⟩
        · exact ⟨some a, len, cap, by simpa using hcs⟩
      obtain ⟨ss, hss⟩ := open_strs he hd hcd hy
      exact ⟨(B, k, bc, ss) :: rs, rfl, fun r hr => by
        rcases List.mem_cons.1 hr with rfl | hr
        · exact hss
        · exact hrs r hr⟩
  obtain ⟨rs, rfl, hrs⟩ := this
  exact ⟨rs, hl, hrs⟩
theorem slice_cells {A : Option Addr} {n c : Nat} : (Value.slice A n c).cells.toList = [.slice A n c] := by simp [Value.cells]
end
end Go.Proofs.YtfohollhdaedlaaGreatDoor
