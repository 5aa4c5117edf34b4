/- Regions that draw their order, whose operations read and whose callees only make memory: one walk serves every order. Over any program. -/
import Derived.Test.YtfohollhdaedlaaGreatDoorLib
import Derived.BigQuiet
set_option linter.unusedVariables false
namespace Go.Proofs.YtfohollhdaedlaaGreatDoor
open Go.RowKit
/-- A world in which nothing that was there has changed. -/
structure After (w0 : World) where
  w : World
  below : Below w0.heap.size w0 w
instance (w0 : World) : Nonempty (After w0) := ⟨⟨w0, Below.refl _ _⟩⟩
theorem After.cell {w0 : World} {p : Addr} {v : Value} (h : w0.cell? p = some v) (n : After w0) : n.w.cell? p = some v := (n.below.cell (World.block_lt_of_cell? _ _ h)).trans h
theorem Calls.after {P : Program} {f : FuncId} {args : Array Value} {w0 : World} {n : After w0} {v : Value} (h : Calls P f args n.w fun e w' => e = .returned v ∧ Below n.w.heap.size n.w w') :
    Calls P f args n.w fun e w'' => e = .returned v ∧ ∃ m : After w0, w'' = m.w :=
  h.mono fun _ w'' ⟨he, hb⟩ => ⟨he, ⟨w'', below_next n.below hb⟩, rfl⟩
theorem Calls.after_same {P : Program} {f : FuncId} {args : Array Value} {w0 : World} {n : After w0} {v : Value} (h : Calls P f args n.w fun e w' => e = .returned v ∧ w' = n.w) :
    Calls P f args n.w fun e w'' => e = .returned v ∧ ∃ m : After w0, w'' = m.w :=
  h.mono fun _ w'' ⟨he, hb⟩ => ⟨he, n, hb⟩
/-- The walk of the text's order, in every world behind w. -/
theorem wp_region_after {P : Program} {id : Nat} {Q : Exit → Act → World → Prop} {a : Act} {w : World} {l : List Oper} (hm : P.follows .mixedOrders = true) (hB : Region.lexB .any l.toArray = true)
    (h : wpQuiet P l.toArray (fun w' => ∃ n : After w, w' = n.w) (fun a' => ∀ w', (∃ n : After w, w' = n.w) → Q .normal a' w') l a) : (Code.region id l.toArray true).wp P Q a w :=
  wp_region_quiet (C := fun w' => ∃ n : After w, w' = n.w) hm hB ⟨⟨{ w with drawn := w.drawn + 1 }, ⟨rfl, rfl, rfl, Nat.le_refl _, fun k hk => rfl⟩⟩, rfl⟩ (by simpa using h)
end Go.Proofs.YtfohollhdaedlaaGreatDoor
