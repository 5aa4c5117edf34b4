/- How a slice of pairs of numbers that came in is opened. -/
import Derived.Test.YtdmpgoaemoiogaaBoxL3
import Derived.Test.YtdmpgoaemoiogaaOpenRows
import Derived.LaidMore
import Derived.SizedLaws
set_option linter.unusedVariables false
set_option linter.unusedSimpArgs false
namespace Go.Proofs.Ytdmpgoaemoiogaa
open Go.RowKit Go.ChangeShapes Go.WideShapes
namespace Box
theorem choose_list {α : Type} {p : Nat → α → Prop} : ∀ {n : Nat}, (∀ i, i < n → ∃ d, p i d) → ∃ ds : List α, ds.length = n ∧ ∀ i (h : i < ds.length), p i ds[i]
  | 0, _ => ⟨[], rfl, fun i h => by cases h⟩
  | n + 1, h => by
    obtain ⟨ds, hl, hp⟩ := choose_list (n := n) fun i hi => h i (by omega)
    obtain ⟨d, hd⟩ := h n (by omega)
    refine ⟨ds ++ [d], by simp [hl], fun i hi => ?_⟩
    by_cases hlt : i < ds.length
    · rw [List.getElem_append_left hlt]; exact hp i hlt
    · simp at hi
      obtain rfl : i = ds.length := by omega
      rw [List.getElem_append_right (Nat.le_refl _)]
      simpa [hl] using hd
theorem dos_length : ∀ ds : List (Int × Int), (dos ds).length = ds.length * 2
  | [] => rfl
  | d :: ds => by
    have := dos_length ds
    show (dos ds).length + 1 + 1 = _
    rw [this, List.length_cons]; omega
section
variable {H : Type} {enc : TypeId × Value → H} {P : Program} {W : World} {base : Nat} {spare : Nat → Bool} {held : Bool}
theorem cells_two {a : Addr} {y : List Value} (h : W.cells? base a 2 = some y) : ∃ u v, y = [u, v] ∧ W.cell? (a.add 0) = some u ∧ W.cell? (a.add 1) = some v := by
  unfold World.cells? at h
  split at h
  · rw [show List.range 2 = [0, 1] from rfl] at h
    simp only [List.mapM_cons, List.mapM_nil] at h
    cases hc : W.cell? (a.add 0) with
    | none => simp [hc] at h
    | some u =>
      cases hd : W.cell? (a.add 1) with
      | none => simp [hc, hd] at h
      | some v =>
        simp [hc, hd] at h
        exact ⟨u, v, h.symm, rfl, rfl⟩
  · cases h
theorem add_two (a : Addr) (i : Nat) : (a.add (i * 2)).add 0 = a.add (i * 2) ∧ (a.add (i * 2)).add 1 = a.add (i * 2 + 1) := by
  constructor
  · simp [Addr.add]
  · obtain ⟨b, o, s⟩ := a
    unfold Addr.add
    by_cases h : i = 0
    · subst h; simp
    · have h2 : ¬ i * 2 = 0 := by omega
      have h3 : ¬ i * 2 + 1 = 0 := by omega
      simp [h2, h3]; omega
theorem open_pairs {t e : TypeId} {A : Option Addr} {n c : Nat} {fuel : Nat} {x : DataW H × List MemPlace} {g0 g1 : Field} (hu : P.underlying t = some (.slice e)) (he : P.underlying e = some (.struct #[g0, g1]))
    (o0 : g0.offset = 0) (o1 : g1.offset = 1) (hc : P.cellsOf e = 2) (hc0 : P.cellsOf g0.type = 1) (hc1 : P.cellsOf g1.type = 1) (ht0 : P.underlying g0.type = some (.int .i64)) (ht1 : P.underlying g1.type = some (.int .i64))
    (h : DataW.trod enc P W base spare held fuel t [.slice A n c] = some x) : ∃ ds, IsDos W A n c ds := by
  rcases DataW.trod_slice hu h with ⟨hcs, _⟩ | ⟨a, len, cap, elems, rest, m, _, hcs, _, _, h1, h2, h3, h4, _⟩
  · simp only [List.cons.injEq, Value.slice.injEq, and_true] at hcs
    obtain ⟨rfl, rfl, rfl⟩ := hcs
    exact ⟨[], ⟨by simp [dos], Nat.le_refl _, by decide, fun _ => ⟨rfl, rfl⟩, fun ad ha => by cases ha⟩, rfl, fun u hu => by cases hu⟩
  · simp only [List.cons.injEq, Value.slice.injEq, and_true] at hcs
    obtain ⟨rfl, rfl, rfl⟩ := hcs
    rw [hc] at h4
    have hg : ∀ i, i < n → ∃ d : Int × Int, W.cell? (a.add (i * 2)) = some (.int .i64 d.1) ∧ W.cell? (a.add (i * 2 + 1)) = some (.int .i64 d.2) ∧ (-9223372036854775808 ≤ d.1 ∧ d.1 ≤ 9223372036854775807) ∧ (-9223372036854775808 ≤ d.2 ∧ d.2 ≤ 9223372036854775807) := fun i hi => by
      have := h4 i hi
      rw [List.getElem?_eq_getElem (by omega), Option.bind_eq_some_iff] at this
      obtain ⟨cs, k1, k2⟩ := this
      obtain ⟨u, v, rfl, c0, c1⟩ := cells_two k1
      obtain ⟨y0, y1, m', _, hl, a0, a1⟩ := ChangeShapes.trod_struct2 he k2
      simp only [hc0, hc1, o0, o1] at a0 a1
      obtain ⟨n0, e0, _, q0⟩ := DataW.trod_int ht0 a0
      obtain ⟨n1, e1, _, q1⟩ := DataW.trod_int ht1 a1
      simp at e0 e1
      subst e0 e1
      rw [(add_two a i).1] at c0
      rw [(add_two a i).2] at c1
      exact ⟨(n0, n1), c0, c1, bounds_i64 q0, bounds_i64 q1⟩
    obtain ⟨ds, hl, hp⟩ := choose_list hg
    have hdl : (dos ds).length = n * 2 := by rw [dos_length, hl]
    refine ⟨ds, ⟨hdl, h1, h2, fun ha => (by cases ha), fun ad ha j u hu => ?_⟩, hl, fun d hd => ?_⟩
    · obtain rfl := Option.some.inj ha
      have hj := (List.getElem?_eq_some_iff.1 hu).1
      rw [hdl] at hj
      have hd := dos_at ds (j / 2) (by omega)
      have hq := hp (j / 2) (by omega)
      rcases Nat.mod_two_eq_zero_or_one j with h0 | h0
      · have e : j = j / 2 * 2 := by omega
        rw [← e] at hd hq
        rw [hd.1] at hu
        rw [← hu]; exact hq.1
      · have e : j = j / 2 * 2 + 1 := by omega
        rw [← e] at hd hq
        rw [hd.2] at hu
        rw [← hu]; exact hq.2.1
    · obtain ⟨i, hi, rfl⟩ := List.getElem_of_mem hd
      exact (hp i hi).2.2
end
end Box
end Go.Proofs.Ytdmpgoaemoiogaa
