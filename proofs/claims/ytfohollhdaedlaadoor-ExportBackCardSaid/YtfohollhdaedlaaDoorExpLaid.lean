/- The listed table export.heads: its cells in memory, out of the row's condition. -/
import Derived.Test.YtfohollhdaedlaaDoorCardLibE
import Derived.Test.YtfohollhdaedlaaDoorExp6
import Derived.Test.YtfohollhdaedlaaDoorFlat
set_option linter.unusedVariables false
set_option linter.unusedSimpArgs false
namespace Go.Proofs.YtfohollhdaedlaaDoor
open Go.ChangeShapes Go.WideShapes Go.ChangeAt Go.RowKit
namespace Exp
abbrev laidList : List (String × DataW Unit) := [("scholia/export.heads", Rows.laid_scholia_export_heads)]
theorem gHeads : Tryd.prog.globalNamed "scholia/export.heads" = some 0 := by kernel_rfl
theorem tHeads : (Tryd.prog.globals[0]?).map (·.type) = some 31 := by kernel_rfl
theorem headsSize : headCells.size = 4 := by decide
theorem laid_heads {W : World} {cs : Array Value} {d : DataW Unit} {p : List MemPlace} {fuel : Nat} (hv : W.var? Tryd.prog "scholia/export.heads" = some cs)
    (hd : DataW.trod (fun _ => ()) Tryd.prog W 0 (fun _ => true) false fuel 31 cs.toList = some (Rows.laid_scholia_export_heads, p)) : cs = headCells := by
  have h1 := Flat.array (Flat.one) Tryd.underlying31 (by kernel_rfl) (Flat.one_string Tryd.underlying9) hd
  obtain ⟨l⟩ := cs
  simp only at h1
  subst h1
  rfl
theorem of_heads {W : World} {ps : List MemPlace} {cs : Array Value} {p : List MemPlace} {fuel : Nat} (hv : W.var? Tryd.prog "scholia/export.heads" = some cs)
    (hd : DataW.trod (fun _ => ()) Tryd.prog W 0 (fun _ => true) false fuel 31 cs.toList = some (Rows.laid_scholia_export_heads, p))
    (hm : ∀ off, off < cs.size → MemPlace.cell 0 off ∈ ps)
    (hf : ∀ b off, MemPlace.cell b off ∈ ps → (∃ c t, W.heap[b]? = some (.cells c t (0, 0)))) : LaidH W := by
  obtain rfl := laid_heads (d := Rows.laid_scholia_export_heads) hv hd
  obtain ⟨c, t, hc⟩ := hf _ 0 (hm 0 (by rw [headsSize]; decide))
  simp only [World.var?, gHeads, Option.bind_some, hc] at hv
  exact ⟨t, by rw [hc, Option.some.inj hv]⟩
theorem row_mem {b off n : Nat} {p q : List MemPlace} (h : off < n) : MemPlace.cell b off ∈ MemPlace.row ⟨b, 0, none⟩ n ++ p ++ q := by
  rw [List.mem_append, List.mem_append]
  exact .inl (.inl (List.mem_map.2 ⟨off, by simpa using h, by simp⟩))
theorem laid_one {W : World} (h : laidMetH Tryd.prog laidList W) : LaidH W := by
  rw [MakeChecks.laidMetH_plain _ _ _ (by kernel_rfl)] at h
  obtain ⟨ps, ⟨g0, t0, cs0, f0, p0, q0, hg0, ht0, hv0, hd0, _, rfl⟩, _, hf⟩ := h
  obtain rfl := Option.some.inj (gHeads.symm.trans hg0)
  obtain rfl := Option.some.inj (tHeads.symm.trans ht0)
  exact of_heads hv0 hd0 (fun off ho => row_mem ho) (fun b off hb => (hf b off hb).1)
/-- The door's own heap meets the condition. -/
theorem door_met (os : Os) (args : Array Value) : laidMetH Tryd.prog laidList ((World.doorLaid Tryd.prog 2000 os).forCall (fun _ _ => 0) ⟨#[], args, []⟩).memory :=
  laidMetH_of_parts3 (fuel := 8) (laidMet_of_run' 8 (by kernel_rfl) (by kernel_rfl)) (by kernel_rfl) (by kernel_rfl)
end Exp
end Go.Proofs.YtfohollhdaedlaaDoor
