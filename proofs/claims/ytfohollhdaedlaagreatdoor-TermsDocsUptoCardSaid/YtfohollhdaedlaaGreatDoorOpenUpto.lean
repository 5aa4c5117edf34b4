/- What a bounded bulk says of documents that came in: no text is longer. -/
import Derived.Test.YtfohollhdaedlaaGreatDoorRows
import Derived.Test.YtfohollhdaedlaaGreatDoorOpenDocs
set_option linter.unusedVariables false
set_option linter.unusedSimpArgs false
set_option maxRecDepth 100000
namespace Go.Proofs.YtfohollhdaedlaaGreatDoor
open Go.RowKit Go.ChangeShapes Go.WideShapes
namespace Exp
section
variable {H : Type} {enc : TypeId × Value → H} {W : World} {base : Nat} {spare : Nat → Bool} {held : Bool}
theorem bulk_part {d : DataW H} : ∀ {l : List (DataW H)}, d ∈ l → Rows.uptoBulk d ≤ Rows.uptoBulkAll l
  | [], h => by cases h
  | x :: l, h => by
    simp only [Rows.uptoBulkAll]
    rcases List.mem_cons.1 h with rfl | h
    · omega
    · have := bulk_part h; omega
theorem open_doc_upto {fuel : Nat} {cs : List Value} {x : DataW H × List MemPlace} (hl : cs.length = 5) (h : DataW.trod enc Tryz.prog W base spare held fuel 27 cs = some x) :
    ∃ d : DocM, cs = [.string d.id, .string d.t0, .string d.t1, .string d.t2, .string d.t3] ∧ ∀ i, (d.get i).size ≤ Rows.uptoBulk x.1 := by
  obtain ⟨c0, c1, c2, c3, c4, rfl⟩ := list5 hl
  obtain ⟨y0, y1, m, hx, _, a0, a1⟩ := ChangeShapes.trod_struct2 Tryz.underlying27 h
  have hc : Tryz.prog.cellsOf 9 = 1 := by kernel_rfl
  have hc4 : Tryz.prog.cellsOf 25 = 4 := by kernel_rfl
  simp only [hc, hc4] at a0 a1
  obtain ⟨s0, e0, _⟩ := DataW.trod_string Tryz.underlying9 a0
  obtain ⟨z0, z1, z2, z3, m2, hy, b0, b1, b2, b3⟩ := trod_array4 Tryz.underlying25 hc (show DataW.trod enc Tryz.prog W base spare held m 25 [c1, c2, c3, c4] = some y1 from a1)
  obtain ⟨s1, e1, f1, _⟩ := DataW.trod_string Tryz.underlying9 b0
  obtain ⟨s2, e2, f2, _⟩ := DataW.trod_string Tryz.underlying9 b1
  obtain ⟨s3, e3, f3, _⟩ := DataW.trod_string Tryz.underlying9 b2
  obtain ⟨s4, e4, f4, _⟩ := DataW.trod_string Tryz.underlying9 b3
  simp at e0 e1 e2 e3 e4
  subst e0 e1 e2 e3 e4
  have hs : ∀ s : ByteArray, s.data.toList.length = s.size := fun s => by rw [Array.length_toList]; rfl
  refine ⟨⟨s0, s1, s2, s3, s4⟩, rfl, fun i => ?_⟩
  rw [hx, hy, f1, f2, f3, f4]
  simp only [Rows.uptoBulk, Rows.uptoBulkAll, hs]
  unfold DocM.get
  split
  · show s1.size ≤ _; omega
  · split
    · show s2.size ≤ _; omega
    · split
      · show s3.size ≤ _; omega
      · show s4.size ≤ _; omega
theorem open_docs_upto {A : Option Addr} {n c : Nat} {fuel : Nat} {x : DataW H × List MemPlace} (h : DataW.trod enc Tryz.prog W base spare held fuel 22 [.slice A n c] = some x) :
    ∃ l : List DocM, IsSl W 5 A n c (dCells l) ∧ ∀ d ∈ l, ∀ i, (d.get i).size ≤ Rows.uptoBulk x.1 := by
  have hc : Tryz.prog.cellsOf 27 = 5 := by kernel_rfl
  rcases DataW.trod_slice Tryz.underlying22 h with ⟨hcs, _⟩ | ⟨a, len, cap, elems, rest, m, _, hcs, hx, _, h1, h2, h3, h4, _⟩
  · simp only [List.cons.injEq, Value.slice.injEq, and_true] at hcs
    obtain ⟨rfl, rfl, rfl⟩ := hcs
    exact ⟨[], ⟨rfl, Nat.le_refl _, by decide, fun _ => ⟨rfl, rfl⟩, fun ad ha => by cases ha⟩, fun d hd => absurd hd List.not_mem_nil⟩
  · simp only [List.cons.injEq, Value.slice.injEq, and_true] at hcs
    obtain ⟨rfl, rfl, rfl⟩ := hcs
    rw [hc] at h4
    have hbk : ∀ e ∈ elems, Rows.uptoBulk e.1 ≤ Rows.uptoBulk x.1 := fun e he => by
      rw [hx]
      have := bulk_part (l := elems.map (·.1)) (List.mem_map.2 ⟨e, he, rfl⟩)
      simp only [Rows.uptoBulk]
      omega
    obtain ⟨l, hl, hd⟩ := list_of (R := fun i (d : DocM) => (∀ k u, [Value.string d.id, .string d.t0, .string d.t1, .string d.t2, .string d.t3][k]? = some u → W.cell? ((a.add (i * 5)).add k) = some u) ∧ ∀ j, (d.get j).size ≤ Rows.uptoBulk x.1) n fun i hi => by
      have := h4 i hi
      rw [List.getElem?_eq_getElem (by omega), Option.bind_eq_some_iff] at this
      obtain ⟨cs, k1, k2⟩ := this
      obtain ⟨_, hl, hcell⟩ := World.cells?_some k1
      obtain ⟨d, rfl, hb⟩ := open_doc_upto hl k2
      exact ⟨d, fun k u hu => (hcell k (by have := (List.getElem?_eq_some_iff.1 hu).1; simpa using this)).trans hu, fun j => Nat.le_trans (hb j) (hbk _ (List.getElem_mem _))⟩
    refine ⟨l, ⟨by rw [dCells_length, hl], h1, h2, fun ha => (by cases ha), fun ad ha j u hu => ?_⟩, fun d hm => ?_⟩
    · obtain rfl := Option.some.inj ha
      have hj := (List.getElem?_eq_some_iff.1 hu).1
      rw [dCells_length, hl] at hj
      have hi : j / 5 < l.length := by omega
      have hx : l[j / 5]? = some l[j / 5] := List.getElem?_eq_getElem hi
      obtain ⟨e0, e1, e2, e3, e4⟩ := dCells_at l (j / 5) _ hx
      have key : [Value.string l[j / 5].id, .string l[j / 5].t0, .string l[j / 5].t1, .string l[j / 5].t2, .string l[j / 5].t3][j % 5]? = some u := by
        have hm : j = j / 5 * 5 + j % 5 := by omega
        rcases (show j % 5 = 0 ∨ j % 5 = 1 ∨ j % 5 = 2 ∨ j % 5 = 3 ∨ j % 5 = 4 by omega) with h | h | h | h | h <;> rw [h] at hm ⊢ <;> rw [hm] at hu
        · rw [Nat.add_zero, e0] at hu; exact hu
        · rw [e1] at hu; exact hu
        · rw [e2] at hu; exact hu
        · rw [e3] at hu; exact hu
        · rw [e4] at hu; exact hu
      have hk := (hd (j / 5) _ hx).1 (j % 5) u key
      have hsp : a.spot = none := by
        have h0 := (hd 0 l[0] (List.getElem?_eq_getElem (by omega))).1 0 _ rfl
        simpa [Addr.add] using spot_nil h0
      obtain ⟨ab, ao, sp⟩ := a
      simp only at hsp
      subst hsp
      rw [Addr.add_lit, Addr.add_lit] at hk
      rw [Addr.add_lit, show ao + j = ao + j / 5 * 5 + j % 5 by omega]
      exact hk
    · obtain ⟨i, hi⟩ := List.mem_iff_getElem?.1 hm
      exact (hd i d hi).2
end
end Exp
end Go.Proofs.YtfohollhdaedlaaGreatDoor
