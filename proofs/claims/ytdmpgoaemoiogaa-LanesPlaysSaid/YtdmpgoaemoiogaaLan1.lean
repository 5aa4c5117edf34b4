/- Lanes: the map of ways. -/
import Derived.Test.YtdmpgoaemoiogaaBoxP5
import Derived.Maps.Own
import Derived.Maps.OwnOps
import Derived.Maps.OwnSet
import Derived.Maps.Views
import Derived.DeepKeys4
set_option linter.unusedVariables false
set_option linter.unusedSimpArgs false
set_option maxRecDepth 100000
namespace Go.Proofs.Ytdmpgoaemoiogaa
open Go.RowKit Go.Maps
namespace Box
theorem laidOutL : laidOutB Try.prog = true := by kernel_rfl
theorem rowWay : (111 : TypeId) < Try.prog.types.size := of_decide_eq_true (by kernel_rfl)
theorem wideWay : (match Try.prog.underlying 111 with | some (.array _ _) | some (.struct _) => true | _ => false) = true := by kernel_rfl
theorem lawWay : Keyed Try.prog 111 := Keyed.of_law (deep_law_laid laidOutL (m := 2) (by omega) rowWay (by kernel_rfl) wideWay)
def wayV (i j : Int) : Value := .agg #[.int .i64 i, .int .i64 j]
theorem typesPos : ∃ m, Try.prog.types.size = m + 2 := by
  have h : decide (2 ≤ Try.prog.types.size) = true := by kernel_rfl
  have := of_decide_eq_true h
  exact ⟨Try.prog.types.size - 2, by omega⟩
theorem keyTypeWay : Try.prog.keyType 111 = true := by kernel_rfl
theorem cellsWay : Try.prog.cellsOf 111 = 2 := by kernel_rfl
theorem cellsInt : Try.prog.cellsOf 3 = 1 := by kernel_rfl
theorem keyOf_way {a b : Int} (wa : (Lit.int .i64 a).wf = true) (wb : (Lit.int .i64 b).wf = true) :
    keyOf Try.prog 111 (wayV a b) = some (.string (keyBytes [.int .i64 a, .int .i64 b])) := by
  obtain ⟨m, hm⟩ := typesPos
  unfold keyOf
  simp only [Try.underlying111]
  rw [if_pos (by simp [keyTypeWay, Value.formed, wayV, Try.underlying111, cellsWay]), hm]
  unfold Program.keyLits
  simp only [Try.underlying111, wayV, Value.cells]
  rw [if_pos ⟨by rw [cellsWay]; rfl, by simp⟩]
  simp [cellsInt, Program.keyLits, Try.underlying3, wa, wb]
def I64 (a : Int) : Prop := -9223372036854775808 ≤ a ∧ a ≤ 9223372036854775807
theorem I64.wf {a : Int} (h : I64 a) : (Lit.int .i64 a).wf = true := by
  obtain ⟨h1, h2⟩ := h
  simp [Lit.wf]
  exact ⟨h1, h2⟩
/-- The key of a way. -/
def kl (k : Int × Int) : Lit := .string (keyBytes [.int .i64 k.1, .int .i64 k.2])
theorem keyOf_kl {i j : Int} (hi : I64 i) (hj : I64 j) : keyOf Try.prog 111 (wayV i j) = some (kl (i, j)) := keyOf_way hi.wf hj.wf
theorem kl_inj {k k' : Int × Int} (h1 : I64 k.1) (h2 : I64 k.2) (h1' : I64 k'.1) (h2' : I64 k'.2) (h : kl k = kl k') : k = k' := by
  have e := lawWay.inj (keyOf_kl h1 h2) (by rw [h]; exact keyOf_kl h1' h2')
  simp only [wayV, Value.agg.injEq, Array.mk.injEq, List.cons.injEq, Value.int.injEq, true_and, and_true] at e
  exact Prod.ext e.1 e.2
/-- How a pointer to a box reads. -/
def ptrR (v : Value) : Option (DataW Unit × List MemPlace) :=
  match v with
  | .pointer none => some (.lit (.int .i64 (-1)), [])
  | .pointer (some ⟨b, 0, none⟩) => some (.lit (.int .i64 (b : Int)), [])
  | _ => none
def ptrD (o : Option Nat) : DataW Unit := match o with
  | none => .lit (.int .i64 (-1))
  | some b => .lit (.int .i64 (b : Int))
def ptrV (o : Option Nat) : Value := match o with
  | none => .pointer none
  | some b => .pointer (some ⟨b, 0, none⟩)
theorem ptrR_V (o : Option Nat) : ptrR (ptrV o) = some (ptrD o, []) := by cases o <;> rfl
theorem ptrR_inv {v : Value} {o : Option Nat} {ps : List MemPlace} (h : ptrR v = some (ptrD o, ps)) : v = ptrV o := by
  unfold ptrR at h
  split at h
  · cases o with
    | none => rfl
    | some b => simp only [ptrD, Option.some.injEq, Prod.mk.injEq, DataW.lit.injEq, Lit.int.injEq, true_and] at h; omega
  · cases o with
    | none => simp only [ptrD, Option.some.injEq, Prod.mk.injEq, DataW.lit.injEq, Lit.int.injEq, true_and] at h; omega
    | some b =>
      simp only [ptrD, Option.some.injEq, Prod.mk.injEq, DataW.lit.injEq, Lit.int.injEq, true_and] at h
      rename_i b'
      obtain rfl : b' = b := by omega
      rfl
  · cases h
/-- A block is a map from ways to blocks. -/
def LanMap (w : World) (m n : Nat) (f : Int × Int → Option Nat) : Prop :=
  ∃ D : DataW Unit, w.ownsMap Try.prog 111 ptrR m n D ∧ IsMap D ∧ ∀ i j, I64 i → I64 j → D.atKey (kl (i, j)) (ptrD none) = ptrD (f (i, j))
theorem LanMap.made (w : World) : LanMap (w.alloc (.map #[] 0)) w.heap.size 0 (fun _ => none) :=
  ⟨_, World.ownsMap_made w _ _ _, isMap_empty, fun i j _ _ => rfl⟩
theorem LanMap.same {w w' : World} {m n : Nat} {f : Int × Int → Option Nat} (h : LanMap w m n f) (hs : w'.heap[m]? = w.heap[m]?) : LanMap w' m n f := by
  obtain ⟨D, ⟨es, clock, hb, h1⟩, h2⟩ := h
  exact ⟨D, ⟨es, clock, hs.trans hb, h1⟩, h2⟩
theorem zeroPtr (w : World) : (zeroValue 93).run Try.prog w = .ok (.pointer none) w := by kernel_rfl
theorem LanMap.look {w : World} {m n : Nat} {f : Int × Int → Option Nat} (h : LanMap w m n f) {i j : Int} (hi : I64 i) (hj : I64 j) :
    (Instr.lookup 77 (.map (some m)) (wayV i j) false).run Try.prog w = .ok (ptrV (f (i, j))) w := by
  obtain ⟨D, h1, h2, h3⟩ := h
  obtain ⟨v, ps, hr, hv⟩ := h1.lookup lawWay Try.underlying77 (zeroPtr w) (zd := ptrD none) (zp := []) rfl (keyOf_kl hi hj)
  rw [h3 i j hi hj] at hv
  rw [hr, ptrR_inv hv]
def upd {α : Type} (f : Int × Int → α) (k : Int × Int) (x : α) : Int × Int → α := fun k' => if k' = k then x else f k'
theorem upd_same {α : Type} (f : Int × Int → α) (k : Int × Int) (x : α) : upd f k x k = x := if_pos rfl
theorem upd_other {α : Type} (f : Int × Int → α) {k k' : Int × Int} (x : α) (h : k' ≠ k) : upd f k x k' = f k' := if_neg h
theorem LanMap.put {w : World} {m n : Nat} {f : Int × Int → Option Nat} (h : LanMap w m n f) (hn : n < maxLen) {i j : Int} (hi : I64 i) (hj : I64 j) (b : Nat) :
    ∃ w', (Instr.mapUpdate 77 (.map (some m)) (wayV i j) (.pointer (some ⟨b, 0, none⟩))).run Try.prog w = .ok () w' ∧ LanMap w' m (n + 1) (upd f (i, j) (some b)) ∧ w.grownBy w' (some m) := by
  obtain ⟨D, h1, h2, h3⟩ := h
  obtain ⟨w', hr, ho, hg⟩ := h1.update lawWay Try.underlying77 hn (keyOf_kl hi hj) (ptrR_V (some b))
  refine ⟨w', hr, ⟨_, ho, h2.put _ _, fun i' j' hi' hj' => ?_⟩, hg⟩
  by_cases e : (i', j') = (i, j)
  · rw [e, atKey_put_same h2 (lawWay.key (keyOf_kl hi hj)), upd_same]
  · rw [atKey_put_other (fun e' => e (kl_inj hi' hj' hi hj e')), upd_other _ _ e]
    exact h3 i' j' hi' hj'
end Box
end Go.Proofs.Ytdmpgoaemoiogaa
