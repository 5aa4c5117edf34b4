/- Documents in memory: their cells. -/
import Derived.Test.YtfohollhdaedlaaGreatDoorSl
import Derived.Test.YtfohollhdaedlaaGreatDoorChecked
import Derived.Test.YtfohollhdaedlaaGreatDoorExpM
set_option linter.unusedVariables false
set_option linter.unusedSimpArgs false
set_option maxRecDepth 100000
namespace Go.Proofs.YtfohollhdaedlaaGreatDoor
open Go.RowKit
namespace Exp
def docC (d : DocM) : Array Value := #[.string d.id, .string d.t0, .string d.t1, .string d.t2, .string d.t3]
def docV (d : DocM) : Value := .agg (docC d)
theorem idx_arr (d : DocM) (i : Nat) (hi : i < 4) (W : World) : (Instr.index 25 (.agg #[.string d.t0, .string d.t1, .string d.t2, .string d.t3]) (.int .i64 (i : Int))).run Tryz.prog W = .ok (.string (d.get i)) W := by
  obtain ⟨id, t0, t1, t2, t3⟩ := d
  rcases (show i = 0 ∨ i = 1 ∨ i = 2 ∨ i = 3 by omega) with rfl | rfl | rfl | rfl <;> kernel_rfl
def dCells (l : List DocM) : List Value := l.flatMap fun d => [.string d.id, .string d.t0, .string d.t1, .string d.t2, .string d.t3]
theorem dCells_cons (d : DocM) (l : List DocM) : dCells (d :: l) = .string d.id :: .string d.t0 :: .string d.t1 :: .string d.t2 :: .string d.t3 :: dCells l := rfl
theorem dCells_append (l m : List DocM) : dCells (l ++ m) = dCells l ++ dCells m := by simp [dCells]
theorem dCells_length : ∀ l : List DocM, (dCells l).length = l.length * 5
  | [] => rfl
  | x :: l => by
    have := dCells_length l
    rw [dCells_cons]
    simp only [List.length_cons]; omega
theorem dCells_at : ∀ (l : List DocM) (i : Nat) (d : DocM) (h : l[i]? = some d), (dCells l)[i * 5]? = some (.string d.id) ∧ (dCells l)[i * 5 + 1]? = some (.string d.t0) ∧ (dCells l)[i * 5 + 2]? = some (.string d.t1) ∧ (dCells l)[i * 5 + 3]? = some (.string d.t2) ∧ (dCells l)[i * 5 + 4]? = some (.string d.t3)
  | [], _, _, h => by simp at h
  | y :: l, 0, x, h => by
    obtain rfl : y = x := by simpa using h
    exact ⟨rfl, rfl, rfl, rfl, rfl⟩
  | y :: l, i + 1, x, h => by
    have := dCells_at l i x (by simpa using h)
    rw [dCells_cons, show (i + 1) * 5 = i * 5 + 1 + 1 + 1 + 1 + 1 by omega]
    simpa [Nat.add_right_comm _ 5] using this
theorem dCells_one (l : List DocM) : ∀ u ∈ dCells l, u.oneCell' = true := by
  intro u hu
  obtain ⟨x, _, hx⟩ := List.mem_flatMap.1 hu
  simp only [List.mem_cons, List.not_mem_nil, or_false] at hx
  rcases hx with rfl | rfl | rfl | rfl | rfl <;> rfl
theorem spot_nil {w : World} {ad : Addr} {u : Value} (h : w.cell? ad = some u) : ad.spot = none := by
  cases hs : ad.spot with
  | none => rfl
  | some x =>
    unfold World.cell? at h
    split at h
    · rw [hs] at h; simp at h
    · cases h
theorem d_at {w : World} {A : Option Addr} {n c : Nat} {l : List DocM} (h : IsSl w 5 A n c (dCells l)) {i : Nat} {d : DocM} (hx : l[i]? = some d) :
    ∃ b o, A = some ⟨b, o, none⟩ ∧ w.cell? ⟨b, o + i * 5, none⟩ = some (.string d.id) ∧ w.cell? ⟨b, o + i * 5 + 1, none⟩ = some (.string d.t0) ∧ w.cell? ⟨b, o + i * 5 + 2, none⟩ = some (.string d.t1) ∧ w.cell? ⟨b, o + i * 5 + 3, none⟩ = some (.string d.t2) ∧ w.cell? ⟨b, o + i * 5 + 4, none⟩ = some (.string d.t3) := by
  obtain ⟨h1, h2, h3, h4, h5⟩ := h
  obtain ⟨e0, e1, e2, e3, e4⟩ := dCells_at l i d hx
  rw [dCells_length] at h1
  have hi := (List.getElem?_eq_some_iff.1 hx).1
  cases A with
  | none => have := h4 rfl; omega
  | some ad =>
    obtain ⟨ab, ao, sp⟩ := ad
    have f0 := h5 _ rfl (i * 5) _ e0
    have f1 := h5 _ rfl (i * 5 + 1) _ e1
    have f2 := h5 _ rfl (i * 5 + 2) _ e2
    have f3 := h5 _ rfl (i * 5 + 3) _ e3
    have f4 := h5 _ rfl (i * 5 + 4) _ e4
    have g0 := h5 _ rfl 0 ((dCells l)[0]'(by rw [dCells_length]; omega)) (List.getElem?_eq_getElem _)
    have hsp := spot_nil g0
    have hsp : sp = none := by simpa [Addr.add] using hsp
    subst hsp
    rw [Addr.add_lit] at f0 f1 f2 f3 f4
    exact ⟨ab, ao, rfl, f0, f1, f2, f3, f4⟩
end Exp
end Go.Proofs.YtfohollhdaedlaaGreatDoor
