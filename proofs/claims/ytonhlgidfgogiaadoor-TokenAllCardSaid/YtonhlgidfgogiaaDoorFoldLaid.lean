/- The listed table fold.rows: its cells in memory, out of the row's condition. -/
import Derived.Test.YtonhlgidfgogiaaDoorCardLib
import Derived.Test.YtonhlgidfgogiaaDoorFold1
import Derived.Test.YtonhlgidfgogiaaDoorFlat
set_option linter.unusedVariables false
set_option linter.unusedSimpArgs false
namespace Go.Proofs.YtonhlgidfgogiaaDoor
open Go.ChangeShapes Go.WideShapes Go.ChangeAt Go.RowKit
namespace Fold
abbrev laidList : List (String × DataW Unit) := [("scholia/fold.rows", Rows.laid_scholia_fold_rows)]
theorem gRows : Tryd.prog.globalNamed "scholia/fold.rows" = some 0 := by kernel_rfl
theorem tRows : (Tryd.prog.globals[0]?).map (·.type) = some 87 := by kernel_rfl
theorem laid_var {W : World} {cs : Array Value} {d : DataW Unit} {p : List MemPlace} {fuel : Nat} (hv : W.var? Tryd.prog "scholia/fold.rows" = some cs)
    (hd : DataW.trod (fun _ => ()) Tryd.prog W 0 (fun _ => true) false fuel 87 cs.toList = some (Rows.laid_scholia_fold_rows, p)) : cs = rowsCells := by
  have h1 := Flat.array (Flat.parts) Tryd.underlying87 (by kernel_rfl)
    (Flat.struct4 Tryd.underlying86 rfl rfl rfl rfl (by kernel_rfl) 3 rfl rfl rfl rfl (by kernel_rfl) (Flat.one_int Tryd.underlying3)) hd
  obtain ⟨l⟩ := cs
  simp only at h1
  subst h1
  rfl
theorem of_laid {W : World} {ps : List MemPlace} {cs : Array Value} {p : List MemPlace} {fuel : Nat} (hv : W.var? Tryd.prog "scholia/fold.rows" = some cs)
    (hd : DataW.trod (fun _ => ()) Tryd.prog W 0 (fun _ => true) false fuel 87 cs.toList = some (Rows.laid_scholia_fold_rows, p))
    (hm : ∀ off, off < cs.size → MemPlace.cell 0 off ∈ ps)
    (hf : ∀ b off, MemPlace.cell b off ∈ ps → (∃ c t, W.heap[b]? = some (.cells c t (0, 0)))) : Laid W := by
  obtain rfl := laid_var (d := Rows.laid_scholia_fold_rows) hv hd
  obtain ⟨c, t, hc⟩ := hf _ 0 (hm 0 (by rw [rowsSize]; decide))
  simp only [World.var?, gRows, Option.bind_some, hc] at hv
  exact ⟨t, by rw [hc, Option.some.inj hv]⟩
theorem row_mem {b off n : Nat} {p q : List MemPlace} (h : off < n) : MemPlace.cell b off ∈ MemPlace.row ⟨b, 0, none⟩ n ++ p ++ q := by
  rw [List.mem_append, List.mem_append]
  exact .inl (.inl (List.mem_map.2 ⟨off, by simpa using h, by simp⟩))
theorem laid_one {W : World} (h : laidMetH Tryd.prog laidList W) : Laid W := by
  rw [MakeChecks.laidMetH_plain _ _ _ (by kernel_rfl)] at h
  obtain ⟨ps, ⟨g0, t0, cs0, f0, p0, q0, hg0, ht0, hv0, hd0, _, rfl⟩, _, hf⟩ := h
  obtain rfl := Option.some.inj (gRows.symm.trans hg0)
  obtain rfl := Option.some.inj (tRows.symm.trans ht0)
  exact of_laid hv0 hd0 (fun off ho => row_mem ho) (fun b off hb => (hf b off hb).1)
/-- The door's own heap meets the condition. -/
theorem door_met (os : Os) (args : Array Value) : laidMetH Tryd.prog laidList ((World.doorLaid Tryd.prog 2000 os).forCall (fun _ _ => 0) ⟨#[], args, []⟩).memory :=
  laidMetH_of_parts3 (fuel := 8) (laidMet_of_run' 8 (by kernel_rfl) (by kernel_rfl)) (by kernel_rfl) (by kernel_rfl)
end Fold
end Go.Proofs.YtonhlgidfgogiaaDoor
