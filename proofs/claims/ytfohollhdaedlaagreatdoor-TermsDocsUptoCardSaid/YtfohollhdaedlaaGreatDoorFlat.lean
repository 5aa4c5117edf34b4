/- Plain Lean: the cells of a listed table, out of what it reads as. -/
import Derived.ProofKit
import Derived.LaidMore
import Derived.OpenShut
import Derived.Lib.SmallJoins
import Derived.Stop.Joined
set_option linter.unusedVariables false
set_option linter.unusedSimpArgs false
namespace Go.Proofs.YtfohollhdaedlaaGreatDoor
open Go.RowKit
namespace Flat

theorem flat_rows {α β : Type} (F : α → List β) (c : Nat) : ∀ (xs : List α) (cs : List β), cs.length = xs.length * c →
    (∀ i < xs.length, ∃ x, xs[i]? = some x ∧ (cs.drop (i * c)).take c = F x) → cs = xs.flatMap F
  | [], cs, hl, _ => by simpa using hl
  | x :: xs, cs, hl, h => by
    obtain ⟨y, hy, h0⟩ := h 0 (by simp)
    obtain rfl : x = y := by simpa using hy
    rw [Nat.zero_mul, List.drop_zero] at h0
    have hl2 : (cs.drop c).length = xs.length * c := by rw [List.length_drop, hl, List.length_cons, Nat.succ_mul]; omega
    have hr := flat_rows F c xs (cs.drop c) hl2 (fun i hi => by
      obtain ⟨y, hy, e⟩ := h (i + 1) (by simpa using hi)
      refine ⟨y, by simpa using hy, ?_⟩
      rw [List.drop_drop, ← e, Nat.succ_mul, Nat.add_comm c])
    rw [List.flatMap_cons, ← h0, ← hr, List.take_append_drop]

/-- An array whose elements' cells are told by a function of what they read as. -/
theorem array {H : Type} {enc : TypeId × Value → H} {P : Program} {w : World} {base : Nat} {spare : Nat → Bool} {held : Bool} {fuel : Nat} {t : TypeId} {cs : List Value} {ds : List (DataW H)} {p : List MemPlace} {n : Nat} {e : TypeId} (F : DataW H → List Value)
    (ht : P.underlying t = some (.array n e)) (hc : P.cellsOf t = n * P.cellsOf e)
    (hF : ∀ m l x, DataW.trod enc P w base spare held m e l = some x → l = F x.1)
    (h : DataW.trod enc P w base spare held fuel t cs = some (.agg ds, p)) : cs = ds.flatMap F := by
  obtain ⟨xs, m, rfl, hx, hl, hn, hf⟩ := DataW.trod_array ht h
  simp only [Prod.mk.injEq, DataW.agg.injEq] at hx
  obtain ⟨rfl, _⟩ := hx
  rw [List.flatMap_map]
  refine flat_rows (fun x => F x.1) (P.cellsOf e) xs cs (by rw [hl, hc, hn]) fun i hi => ?_
  have h1 := hf i (by omega)
  obtain ⟨x, hx⟩ : ∃ x, xs[i]? = some x := ⟨xs[i], List.getElem?_eq_getElem hi⟩
  rw [hx] at h1
  exact ⟨x, hx, hF _ _ _ h1⟩

def one {H : Type} : DataW H → List Value
  | .lit (.int k n) => [.int k n]
  | .lit (.string bs) => [.string ⟨bs.toArray⟩]
  | _ => []
/-- A plain struct: its fields' cells, one behind another. -/
def parts {H : Type} : DataW H → List Value
  | .agg ds => ds.flatMap one
  | _ => []
section
variable {H : Type} {enc : TypeId × Value → H} {P : Program} {w : World} {base : Nat} {spare : Nat → Bool} {held : Bool} {t : TypeId}
theorem one_int {k : IntKind} (ht : P.underlying t = some (.int k)) (m : Nat) (l : List Value) (x : DataW H × List MemPlace) (h : DataW.trod enc P w base spare held m t l = some x) : l = one x.1 := by
  obtain ⟨n, rfl, rfl, _⟩ := DataW.trod_int ht h; rfl
theorem one_string (ht : P.underlying t = some .string) (m : Nat) (l : List Value) (x : DataW H × List MemPlace) (h : DataW.trod enc P w base spare held m t l = some x) : l = one x.1 := by
  obtain ⟨s, rfl, rfl, _⟩ := DataW.trod_string ht h; rfl
theorem take1 {α : Type} : ∀ (l : List α) (i : Nat), (l.drop i).take 1 = l[i]?.toList := by
  intro l i
  rw [← List.head?_drop]
  cases l.drop i <;> rfl
theorem struct2 {g0 g1 : Field} (ht : P.underlying t = some (.struct #[g0, g1])) (o0 : g0.offset = 0) (o1 : g1.offset = 1) (hc : P.cellsOf t = 2) (h0 : P.cellsOf g0.type = 1) (h1 : P.cellsOf g1.type = 1)
    (f0 : ∀ (m : Nat) (l : List Value) (x : DataW H × List MemPlace), DataW.trod enc P w base spare held m g0.type l = some x → l = one x.1)
    (f1 : ∀ (m : Nat) (l : List Value) (x : DataW H × List MemPlace), DataW.trod enc P w base spare held m g1.type l = some x → l = one x.1)
    (m : Nat) (l : List Value) (x : DataW H × List MemPlace) (h : DataW.trod enc P w base spare held m t l = some x) : l = parts x.1 := by
  obtain ⟨y0, y1, n, rfl, hl, a0, a1⟩ := ChangeShapes.trod_struct2 ht h
  simp only [h0, h1, o0, o1] at a0 a1
  have b0 := f0 _ _ _ a0
  have b1 := f1 _ _ _ a1
  rw [hc] at hl
  match l, hl with
  | [v0, v1], _ =>
    simp only [parts, List.flatMap_cons, List.flatMap_nil, ← b0, ← b1]; rfl
theorem struct4 {g0 g1 g2 g3 : Field} (ht : P.underlying t = some (.struct #[g0, g1, g2, g3])) (o0 : g0.offset = 0) (o1 : g1.offset = 1) (o2 : g2.offset = 2) (o3 : g3.offset = 3) (hc : P.cellsOf t = 4)
    (u : TypeId) (t0 : g0.type = u) (t1 : g1.type = u) (t2 : g2.type = u) (t3 : g3.type = u) (h0 : P.cellsOf u = 1)
    (f0 : ∀ (m : Nat) (l : List Value) (x : DataW H × List MemPlace), DataW.trod enc P w base spare held m u l = some x → l = one x.1)
    (m : Nat) (l : List Value) (x : DataW H × List MemPlace) (h : DataW.trod enc P w base spare held m t l = some x) : l = parts x.1 := by
  obtain ⟨y0, y1, y2, y3, n, rfl, hl, a0, a1, a2, a3⟩ := Joins.trod_struct4 ht h
  simp only [h0, o0, o1, o2, o3, t0, t1, t2, t3] at a0 a1 a2 a3
  have b0 := f0 _ _ _ a0
  have b1 := f0 _ _ _ a1
  have b2 := f0 _ _ _ a2
  have b3 := f0 _ _ _ a3
  rw [hc] at hl
  match l, hl with
  | [v0, v1, v2, v3], _ =>
    simp only [parts, List.flatMap_cons, List.flatMap_nil, ← b0, ← b1, ← b2, ← b3]; rfl
end
end Flat
end Go.Proofs.YtfohollhdaedlaaGreatDoor
