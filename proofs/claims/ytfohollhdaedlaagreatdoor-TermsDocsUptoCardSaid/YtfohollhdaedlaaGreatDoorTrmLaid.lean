/- The listed tables fold.rows, stem.short and stem.ends: their cells in memory, out of the row's condition. -/
import Derived.Test.YtfohollhdaedlaaGreatDoorCardLibE
import Derived.Test.YtfohollhdaedlaaGreatDoorTrmA
import Derived.Test.YtfohollhdaedlaaGreatDoorFlat
set_option linter.unusedVariables false
set_option linter.unusedSimpArgs false
namespace Go.Proofs.YtfohollhdaedlaaGreatDoor
open Go.ChangeShapes Go.WideShapes Go.ChangeAt Go.RowKit
namespace Trm
open Fold Stem
abbrev laidList : List (String × DataW Unit) := [("scholia/fold.rows", Rows.laid_scholia_fold_rows), ("scholia/stem.short", Rows.laid_scholia_stem_short), ("scholia/stem.ends", Rows.laid_scholia_stem_ends)]
theorem gRows : Tryz.prog.globalNamed "scholia/fold.rows" = some 2 := by kernel_rfl
theorem tRows : (Tryz.prog.globals[2]?).map (·.type) = some 128 := by kernel_rfl
theorem laid_var {W : World} {cs : Array Value} {d : DataW Unit} {p : List MemPlace} {fuel : Nat} (hv : W.var? Tryz.prog "scholia/fold.rows" = some cs)
    (hd : DataW.trod (fun _ => ()) Tryz.prog W 0 (fun _ => true) false fuel 128 cs.toList = some (Rows.laid_scholia_fold_rows, p)) : cs = rowsCells := by
  have h1 := Flat.array (Flat.parts) Tryz.underlying128 (by kernel_rfl)
    (Flat.struct4 Tryz.underlying127 rfl rfl rfl rfl (by kernel_rfl) 3 rfl rfl rfl rfl (by kernel_rfl) (Flat.one_int Tryz.underlying3)) hd
  obtain ⟨l⟩ := cs
  simp only at h1
  subst h1
  rfl
theorem of_laid {W : World} {ps : List MemPlace} {cs : Array Value} {p : List MemPlace} {fuel : Nat} (hv : W.var? Tryz.prog "scholia/fold.rows" = some cs)
    (hd : DataW.trod (fun _ => ()) Tryz.prog W 0 (fun _ => true) false fuel 128 cs.toList = some (Rows.laid_scholia_fold_rows, p))
    (hm : ∀ off, off < cs.size → MemPlace.cell 2 off ∈ ps)
    (hf : ∀ b off, MemPlace.cell b off ∈ ps → (∃ c t, W.heap[b]? = some (.cells c t (0, 0)))) : Laid W := by
  obtain rfl := laid_var (d := Rows.laid_scholia_fold_rows) hv hd
  obtain ⟨c, t, hc⟩ := hf _ 0 (hm 0 (by rw [rowsSize]; decide))
  simp only [World.var?, gRows, Option.bind_some, hc] at hv
  exact ⟨t, by rw [hc, Option.some.inj hv]⟩
theorem row_mem {b off n : Nat} {p q : List MemPlace} (h : off < n) : MemPlace.cell b off ∈ MemPlace.row ⟨b, 0, none⟩ n ++ p ++ q := by
  rw [List.mem_append, List.mem_append]
  exact .inl (.inl (List.mem_map.2 ⟨off, by simpa using h, by simp⟩))
theorem gShort : Tryz.prog.globalNamed "scholia/stem.short" = some 0 := by kernel_rfl
theorem tShort : (Tryz.prog.globals[0]?).map (·.type) = some 84 := by kernel_rfl
theorem gEnds : Tryz.prog.globalNamed "scholia/stem.ends" = some 1 := by kernel_rfl
theorem tEnds : (Tryz.prog.globals[1]?).map (·.type) = some 111 := by kernel_rfl
theorem laid_short {W : World} {cs : Array Value} {d : DataW Unit} {p : List MemPlace} {fuel : Nat} (hv : W.var? Tryz.prog "scholia/stem.short" = some cs)
    (hd : DataW.trod (fun _ => ()) Tryz.prog W 0 (fun _ => true) false fuel 84 cs.toList = some (Rows.laid_scholia_stem_short, p)) : cs = shortCells := by
  have h1 := Flat.array (Flat.one) Tryz.underlying84 (by kernel_rfl) (Flat.one_string Tryz.underlying9) hd
  obtain ⟨l⟩ := cs
  simp only at h1
  subst h1
  rfl
theorem laid_ends {W : World} {cs : Array Value} {d : DataW Unit} {p : List MemPlace} {fuel : Nat} (hv : W.var? Tryz.prog "scholia/stem.ends" = some cs)
    (hd : DataW.trod (fun _ => ()) Tryz.prog W 0 (fun _ => true) false fuel 111 cs.toList = some (Rows.laid_scholia_stem_ends, p)) : cs = endsCells := by
  have h1 := Flat.array (Flat.parts) Tryz.underlying111 (by kernel_rfl)
    (Flat.struct2 Tryz.underlying110 rfl rfl (by kernel_rfl) (by kernel_rfl) (by kernel_rfl) (Flat.one_string Tryz.underlying9) (Flat.one_string Tryz.underlying9)) hd
  obtain ⟨l⟩ := cs
  simp only at h1
  subst h1
  rfl
theorem of_short {W : World} {ps : List MemPlace} {cs : Array Value} {p : List MemPlace} {fuel : Nat} (hv : W.var? Tryz.prog "scholia/stem.short" = some cs)
    (hd : DataW.trod (fun _ => ()) Tryz.prog W 0 (fun _ => true) false fuel 84 cs.toList = some (Rows.laid_scholia_stem_short, p))
    (hm : ∀ off, off < cs.size → MemPlace.cell 0 off ∈ ps)
    (hf : ∀ b off, MemPlace.cell b off ∈ ps → (∃ c t, W.heap[b]? = some (.cells c t (0, 0)))) : LaidS W := by
  obtain rfl := laid_short (d := Rows.laid_scholia_stem_short) hv hd
  obtain ⟨c, t, hc⟩ := hf _ 0 (hm 0 (by rw [shortSize]; decide))
  simp only [World.var?, gShort, Option.bind_some, hc] at hv
  exact ⟨t, by rw [hc, Option.some.inj hv]⟩
theorem of_ends {W : World} {ps : List MemPlace} {cs : Array Value} {p : List MemPlace} {fuel : Nat} (hv : W.var? Tryz.prog "scholia/stem.ends" = some cs)
    (hd : DataW.trod (fun _ => ()) Tryz.prog W 0 (fun _ => true) false fuel 111 cs.toList = some (Rows.laid_scholia_stem_ends, p))
    (hm : ∀ off, off < cs.size → MemPlace.cell 1 off ∈ ps)
    (hf : ∀ b off, MemPlace.cell b off ∈ ps → (∃ c t, W.heap[b]? = some (.cells c t (0, 0)))) : LaidE W := by
  obtain rfl := laid_ends (d := Rows.laid_scholia_stem_ends) hv hd
  obtain ⟨c, t, hc⟩ := hf _ 0 (hm 0 (by rw [endsSize]; decide))
  simp only [World.var?, gEnds, Option.bind_some, hc] at hv
  exact ⟨t, by rw [hc, Option.some.inj hv]⟩
theorem laid_one {W : World} (h : laidMetH Tryz.prog laidList W) : LaidT W := by
  rw [MakeChecks.laidMetH_plain _ _ _ (by kernel_rfl)] at h
  obtain ⟨ps, ⟨g0, t0, cs0, f0, p0, q0, hg0, ht0, hv0, hd0, ⟨g1, t1, cs1, f1, p1, q1, hg1, ht1, hv1, hd1, ⟨g2, t2, cs2, f2, p2, q2, hg2, ht2, hv2, hd2, _, rfl⟩, rfl⟩, rfl⟩, _, hf⟩ := h
  obtain rfl := Option.some.inj (gRows.symm.trans hg0)
  obtain rfl := Option.some.inj (tRows.symm.trans ht0)
  obtain rfl := Option.some.inj (gShort.symm.trans hg1)
  obtain rfl := Option.some.inj (tShort.symm.trans ht1)
  obtain rfl := Option.some.inj (gEnds.symm.trans hg2)
  obtain rfl := Option.some.inj (tEnds.symm.trans ht2)
  exact ⟨of_laid hv0 hd0 (fun off ho => row_mem ho) (fun b off hb => (hf b off hb).1),
    of_short hv1 hd1 (fun off ho => List.mem_append_right _ (row_mem ho)) (fun b off hb => (hf b off hb).1),
    of_ends hv2 hd2 (fun off ho => List.mem_append_right _ (List.mem_append_right _ (row_mem ho))) (fun b off hb => (hf b off hb).1)⟩
/-- The door's own heap meets the condition. -/
theorem door_met (os : Os) (args : Array Value) : laidMetH Tryz.prog laidList ((World.doorLaid Tryz.prog 2000 os).forCall (fun _ _ => 0) ⟨#[], args, []⟩).memory :=
  laidMetH_of_parts3 (fuel := 8) (laidMet_of_run' 8 (by kernel_rfl) (by kernel_rfl)) (by kernel_rfl) (by kernel_rfl)
end Trm
end Go.Proofs.YtfohollhdaedlaaGreatDoor
