/- How a slice of documents that came in is opened. -/
import Derived.Test.YtfohollhdaedlaaGreatDoorDocs
import Derived.Test.YtfohollhdaedlaaGreatDoorOpenRows
import Derived.Laws.IdiomArrays
import Derived.LaidMore
import Derived.SizedLaws
set_option linter.unusedVariables false
set_option linter.unusedSimpArgs false
namespace Go.Proofs.YtfohollhdaedlaaGreatDoor
open Go.RowKit Go.ChangeShapes Go.WideShapes
namespace Exp
theorem list_of {α : Type} {R : Nat → α → Prop} : ∀ (n : Nat), (∀ i, i < n → ∃ d, R i d) → ∃ l : List α, l.length = n ∧ ∀ i d, l[i]? = some d → R i d
  | 0, _ => ⟨[], rfl, fun i d h => by simp at h⟩
  | n + 1, h => by
    obtain ⟨l, h1, h2⟩ := list_of n fun i hi => h i (by omega)
    obtain ⟨d, hd⟩ := h n (by omega)
    refine ⟨l ++ [d], by simp [h1], fun i x hx => ?_⟩
    by_cases hi : i < n
    · rw [List.getElem?_append_left (by omega)] at hx
      exact h2 i x hx
    · rw [List.getElem?_append_right (by omega)] at hx
      have h3 := (List.getElem?_eq_some_iff.1 hx).1
      have : i - l.length = 0 := by simp at h3; omega
      rw [this] at hx
      obtain rfl : i = n := by omega
      have : d = x := by simpa using hx
      rw [← this]; exact hd
section
variable {H : Type} {enc : TypeId × Value → H} {W : World} {base : Nat} {spare : Nat → Bool} {held : Bool}
theorem list5 {cs : List Value} (h : cs.length = 5) : ∃ c0 c1 c2 c3 c4, cs = [c0, c1, c2, c3, c4] := by
  match cs, h with
  | [c0, c1, c2, c3, c4], _ => exact ⟨c0, c1, c2, c3, c4, rfl⟩
theorem open_doc {fuel : Nat} {cs : List Value} {x : DataW H × List MemPlace} (hl : cs.length = 5) (h : DataW.trod enc Tryz.prog W base spare held fuel 27 cs = some x) :
    ∃ d : DocM, cs = [.string d.id, .string d.t0, .string d.t1, .string d.t2, .string d.t3] := by
  obtain ⟨c0, c1, c2, c3, c4, rfl⟩ := list5 hl
  obtain ⟨y0, y1, m, _, _, a0, a1⟩ := ChangeShapes.trod_struct2 Tryz.underlying27 h
  have hc : Tryz.prog.cellsOf 9 = 1 := by kernel_rfl
  have hc4 : Tryz.prog.cellsOf 25 = 4 := by kernel_rfl
  simp only [hc, hc4] at a0 a1
  obtain ⟨s0, e0, _⟩ := DataW.trod_string Tryz.underlying9 a0
  obtain ⟨z0, z1, z2, z3, m2, _, b0, b1, b2, b3⟩ := trod_array4 Tryz.underlying25 hc (show DataW.trod enc Tryz.prog W base spare held m 25 [c1, c2, c3, c4] = some y1 from a1)
  obtain ⟨s1, e1, _⟩ := DataW.trod_string Tryz.underlying9 b0
  obtain ⟨s2, e2, _⟩ := DataW.trod_string Tryz.underlying9 b1
  obtain ⟨s3, e3, _⟩ := DataW.trod_string Tryz.underlying9 b2
  obtain ⟨s4, e4, _⟩ := DataW.trod_string Tryz.underlying9 b3
  simp at e0 e1 e2 e3 e4
  subst e0 e1 e2 e3 e4
  exact ⟨⟨s0, s1, s2, s3, s4⟩, rfl⟩
theorem open_docs {A : Option Addr} {n c : Nat} {fuel : Nat} {x : DataW H × List MemPlace} (h : DataW.trod enc Tryz.prog W base spare held fuel 22 [.slice A n c] = some x) : ∃ l : List DocM, IsSl W 5 A n c (dCells l) := by
  have hc : Tryz.prog.cellsOf 27 = 5 := by kernel_rfl
  rcases DataW.trod_slice Tryz.underlying22 h with ⟨hcs, _⟩ | ⟨a, len, cap, elems, rest, m, _, hcs, _, _, h1, h2, h3, h4, _⟩
  · simp only [List.cons.injEq, Value.slice.injEq, and_true] at hcs
    obtain ⟨rfl, rfl, rfl⟩ := hcs
    exact ⟨[], rfl, Nat.le_refl _, by decide, fun _ => ⟨rfl, rfl⟩, fun ad ha => by cases ha⟩
  · simp only [List.cons.injEq, Value.slice.injEq, and_true] at hcs
    obtain ⟨rfl, rfl, rfl⟩ := hcs
    rw [hc] at h4
    obtain ⟨l, hl, hd⟩ := list_of (R := fun i (d : DocM) => ∀ k u, [Value.string d.id, .string d.t0, .string d.t1, .string d.t2, .string d.t3][k]? = some u → W.cell? ((a.add (i * 5)).add k) = some u) n fun i hi => by
      have := h4 i hi
      rw [List.getElem?_eq_getElem (by omega), Option.bind_eq_some_iff] at this
      obtain ⟨cs, k1, k2⟩ := this
      obtain ⟨_, hl, hcell⟩ := World.cells?_some k1
      obtain ⟨d, rfl⟩ := open_doc hl k2
      exact ⟨d, fun k u hu => (hcell k (by have := (List.getElem?_eq_some_iff.1 hu).1; simpa using this)).trans hu⟩
    refine ⟨l, by rw [dCells_length, hl], h1, h2, fun ha => (by cases ha), fun ad ha j u hu => ?_⟩
    obtain rfl := Option.some.inj ha
    have hj := (List.getElem?_eq_some_iff.1 hu).1
    rw [dCells_length, hl] at hj
    have hi : j / 5 < l.length := by omega
    have hx : l[j / 5]? = some l[j / 5] := List.getElem?_eq_getElem hi
    obtain ⟨e0, e1, e2, e3, e4⟩ := dCells_at l (j / 5) _ hx
    have key : [Value.string l[j / 5].id, .string l[j / 5].t0, .string l[j / 5].t1, .string l[j / 5].t2, .string l[j / 5].t3][j % 5]? = some u := by
      have hm : j = j / 5 * 5 + j % 5 := by omega
      rcases (show j % 5 = 0 ∨ j % 5 = 1 ∨ j % 5 = 2 ∨ j % 5 = 3 ∨ j % 5 = 4 by omega) with h | h | h | h | h <;> rw [h] at hm ⊢ <;> rw [hm] at hu
      · rw [Nat.add_zero, e0] at hu; exact hu
      · rw [e1] at hu; exact hu
      · rw [e2] at hu; exact hu
      · rw [e3] at hu; exact hu
      · rw [e4] at hu; exact hu
    have hk := hd (j / 5) _ hx (j % 5) u key
    have hsp : a.spot = none := by
      have h0 := hd 0 l[0] (List.getElem?_eq_getElem (by omega)) 0 _ rfl
      simpa [Addr.add] using spot_nil h0
    obtain ⟨ab, ao, sp⟩ := a
    simp only at hsp
    subst hsp
    rw [Addr.add_lit, Addr.add_lit] at hk
    rw [Addr.add_lit, show ao + j = ao + j / 5 * 5 + j % 5 by omega]
    exact hk
end
end Exp
end Go.Proofs.YtfohollhdaedlaaGreatDoor
