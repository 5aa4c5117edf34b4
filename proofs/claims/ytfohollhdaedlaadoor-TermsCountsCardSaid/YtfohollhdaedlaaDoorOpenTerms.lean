/- How a posting and a slice of terms that came in are opened. -/
import Derived.Test.YtfohollhdaedlaaDoorTrmE
import Derived.Test.YtfohollhdaedlaaDoorOpenRows
import Derived.LaidMore
import Derived.SizedLaws
set_option linter.unusedVariables false
set_option linter.unusedSimpArgs false
set_option maxRecDepth 100000
namespace Go.Proofs.YtfohollhdaedlaaDoor
open Go.RowKit Go.ChangeShapes Go.WideShapes
namespace Trm
theorem flat2_length {α : Type} (f : α → List Value) (hf : ∀ a, (f a).length = 2) : ∀ l : List α, (l.flatMap f).length = l.length * 2
  | [] => rfl
  | x :: l => by
    have := flat2_length f hf l
    rw [List.flatMap_cons, List.length_append, hf, this, List.length_cons]; omega
theorem flat2_at {α : Type} (f : α → List Value) (hf : ∀ a, (f a).length = 2) : ∀ (l : List α) (i j : Nat) (a : α), l[i]? = some a → j < 2 → (l.flatMap f)[i * 2 + j]? = (f a)[j]?
  | [], _, _, _, h, _ => by simp at h
  | y :: l, 0, j, a, h, hj => by
    obtain rfl : y = a := by simpa using h
    rw [List.flatMap_cons, List.getElem?_append_left (by rw [hf]; omega)]
    congr 1; omega
  | y :: l, i + 1, j, a, h, hj => by
    have := flat2_at f hf l i j a (by simpa using h) hj
    rw [List.flatMap_cons, List.getElem?_append_right (by rw [hf]; omega), hf, show (i + 1) * 2 + j - 2 = i * 2 + j by omega]
    exact this
theorem list_of {α : Type} {R : Nat → α → Prop} : ∀ (n : Nat), (∀ i, i < n → ∃ d, R i d) → ∃ l : List α, l.length = n ∧ ∀ i d, l[i]? = some d → R i d
  | 0, _ => ⟨[], rfl, fun i d h => by simp at h⟩
  | n + 1, h => by
    obtain ⟨l, h1, h2⟩ := list_of n fun i hi => h i (by omega)
    obtain ⟨d, hd⟩ := h n (by omega)
    refine ⟨l ++ [d], by simp [h1], fun i x hx => ?_⟩
    by_cases hi : i < n
    · rw [List.getElem?_append_left (by omega)] at hx
      exact h2 i x hx
    · rw [List.getElem?_append_right (by omega)] at hx
      have h3 := (List.getElem?_eq_some_iff.1 hx).1
      have : i - l.length = 0 := by simp at h3; omega
      rw [this] at hx
      obtain rfl : i = n := by omega
      have : d = x := by simpa using hx
      rw [← this]; exact hd
section
variable {H : Type} {enc : TypeId × Value → H} {P : Program} {W : World} {base : Nat} {spare : Nat → Bool} {held : Bool}
/-- A slice of structs of a key and a row. -/
theorem open_level {t e : TypeId} {f0 f1 : Field} {κ μ : Type} (K : κ → Value) (RV : Value → μ → Prop) (hu : P.underlying t = some (.slice e)) (hs : P.underlying e = some (.struct #[f0, f1])) (hc : P.cellsOf e = 2)
    (ho0 : f0.offset = 0) (ho1 : f1.offset = 1) (hc0 : P.cellsOf f0.type = 1) (hc1 : P.cellsOf f1.type = 1)
    (hk : ∀ m c y, DataW.trod enc P W base spare held m f0.type [c] = some y → ∃ k, c = K k)
    (hv : ∀ m c y, DataW.trod enc P W base spare held m f1.type [c] = some y → ∃ l, RV c l)
    {fuel : Nat} {c : Value} {x : DataW H × List MemPlace} (h : DataW.trod enc P W base spare held fuel t [c] = some x) :
    ∃ A cap, ∃ vs : List (κ × Value × μ), c = .slice A vs.length cap ∧ IsSl W 2 A vs.length cap (vs.flatMap fun s => [K s.1, s.2.1]) ∧ ∀ s ∈ vs, RV s.2.1 s.2.2 := by
  have hf : ∀ a : κ × Value × μ, ([K a.1, a.2.1]).length = 2 := fun a => rfl
  rcases DataW.trod_slice hu h with ⟨hcs, _⟩ | ⟨a, len, cap, elems, rest, m, _, hcs, _, _, h1, h2, h3, h4, _⟩
  · simp only [List.cons.injEq, and_true] at hcs
    exact ⟨none, 0, [], hcs, ⟨rfl, Nat.le_refl _, by decide, fun _ => ⟨rfl, rfl⟩, fun ad ha => by cases ha⟩, fun s hs => by cases hs⟩
  · simp only [List.cons.injEq, and_true] at hcs
    subst hcs
    rw [hc] at h4
    obtain ⟨l, hl, hd⟩ := list_of (R := fun i (d : κ × Value × μ) => (∀ k u, [K d.1, d.2.1][k]? = some u → W.cell? ((a.add (i * 2)).add k) = some u) ∧ RV d.2.1 d.2.2) len fun i hi => by
      have := h4 i hi
      rw [List.getElem?_eq_getElem (by omega), Option.bind_eq_some_iff] at this
      obtain ⟨cs, k1, k2⟩ := this
      obtain ⟨_, hlen, hcell⟩ := World.cells?_some k1
      obtain ⟨y0, y1, m2, _, _, a0, a1⟩ := ChangeShapes.trod_struct2 hs k2
      obtain ⟨c0, c1, rfl⟩ : ∃ c0 c1, cs = [c0, c1] := by
        match cs, hlen with
        | [c0, c1], _ => exact ⟨c0, c1, rfl⟩
      rw [ho0, hc0] at a0
      rw [ho1, hc1] at a1
      obtain ⟨k, rfl⟩ := hk m2 c0 y0 a0
      obtain ⟨r, hr⟩ := hv m2 c1 y1 a1
      exact ⟨(k, c1, r), fun j u hu => (hcell j (by have := (List.getElem?_eq_some_iff.1 hu).1; simpa using this)).trans hu, hr⟩
    subst hl
    refine ⟨some a, cap, l, rfl, ⟨flat2_length _ hf l, h1, h2, fun ha => (by cases ha), fun ad ha j u hu => ?_⟩, fun s hs => ?_⟩
    · obtain rfl := Option.some.inj ha
      have hj := (List.getElem?_eq_some_iff.1 hu).1
      rw [flat2_length _ hf] at hj
      have hi : j / 2 < l.length := by omega
      have hx : l[j / 2]? = some l[j / 2] := List.getElem?_eq_getElem hi
      have key := flat2_at (fun s : κ × Value × μ => [K s.1, s.2.1]) hf l (j / 2) (j % 2) _ hx (by omega)
      rw [show j / 2 * 2 + j % 2 = j by omega] at key
      have hk := (hd (j / 2) _ hx).1 (j % 2) u (key.symm.trans hu)
      have hsp : a.spot = none := by
        have h0 := (hd 0 l[0] (List.getElem?_eq_getElem (by omega))).1 0 _ rfl
        simpa [Addr.add] using Tok.spot_none h0
      obtain ⟨ab, ao, sp⟩ := a
      simp only at hsp
      subst hsp
      rw [Addr.add_lit, Addr.add_lit] at hk
      rw [Addr.add_lit, show ao + j = ao + j / 2 * 2 + j % 2 by omega]
      exact hk
    · obtain ⟨i, hi⟩ := List.mem_iff_getElem?.1 hs
      exact (hd i s hi).2
end
section
variable {H : Type} {enc : TypeId × Value → H} {W : World} {base : Nat} {spare : Nat → Bool} {held : Bool}
theorem open_ints {fuel : Nat} {c : Value} {x : DataW H × List MemPlace} (h : DataW.trod enc Tryd.prog W base spare held fuel 47 [c] = some x) : ∃ l, RInts W c l := by
  obtain ⟨A, n, cap, rfl⟩ : ∃ A n cap, c = .slice A n cap := by
    rcases DataW.trod_slice Tryd.underlying47 h with ⟨hcs, _⟩ | ⟨a, len, cap, elems, rest, m, _, hcs, _⟩
    · exact ⟨none, 0, 0, by simpa using hcs⟩
    · exact ⟨some a, len, cap, by simpa using hcs⟩
  obtain ⟨l, hl, hel⟩ := open_row Tryd.underlying47 (by kernel_rfl) h
  obtain ⟨is, rfl⟩ := all_form (Value.int .i64) l fun u hu => by
    obtain ⟨m, y, hy⟩ := hel u hu
    obtain ⟨k, hk, _⟩ := DataW.trod_int Tryd.underlying3 hy
    exact ⟨k, by simpa using hk⟩
  have hn := hl.1
  rw [List.length_map, Nat.mul_one] at hn
  subst hn
  exact ⟨is, A, cap, rfl, hl⟩
theorem open_int1 {fuel : Nat} {c : Value} {x : DataW H × List MemPlace} (h : DataW.trod enc Tryd.prog W base spare held fuel 3 [c] = some x) : ∃ k : Int, c = .int .i64 k := by
  obtain ⟨k, hk, _⟩ := DataW.trod_int Tryd.underlying3 h
  exact ⟨k, by simpa using hk⟩
theorem open_str1 {fuel : Nat} {c : Value} {x : DataW H × List MemPlace} (h : DataW.trod enc Tryd.prog W base spare held fuel 9 [c] = some x) : ∃ s : ByteArray, c = .string s := by
  obtain ⟨s, hs, _⟩ := DataW.trod_string Tryd.underlying9 h
  exact ⟨s, by simpa using hs⟩
theorem open_spots {fuel : Nat} {c : Value} {x : DataW H × List MemPlace} (h : DataW.trod enc Tryd.prog W base spare held fuel 44 [c] = some x) : ∃ l, RSpots W c l := by
  obtain ⟨A, cap, vs, h1, h2, h3⟩ := open_level (fun k : Int => Value.int .i64 k) (RInts W) Tryd.underlying44 Tryd.underlying49 (by kernel_rfl) rfl rfl (by kernel_rfl) (by kernel_rfl)
    (fun m c y hy => open_int1 hy) (fun m c y hy => open_ints hy) h
  exact ⟨_, A, cap, vs, h1, h2, h3, rfl⟩
theorem open_posts {fuel : Nat} {c : Value} {x : DataW H × List MemPlace} (h : DataW.trod enc Tryd.prog W base spare held fuel 41 [c] = some x) : ∃ l, RPosts W c l := by
  obtain ⟨A, cap, vs, h1, h2, h3⟩ := open_level (fun k : Int => Value.int .i64 k) (RSpots W) Tryd.underlying41 Tryd.underlying46 (by kernel_rfl) rfl rfl (by kernel_rfl) (by kernel_rfl)
    (fun m c y hy => open_int1 hy) (fun m c y hy => open_spots hy) h
  exact ⟨_, A, cap, vs, h1, h2, h3, rfl⟩
theorem open_terms {fuel : Nat} {c : Value} {x : DataW H × List MemPlace} (h : DataW.trod enc Tryd.prog W base spare held fuel 39 [c] = some x) : ∃ l, RTerms W c l := by
  obtain ⟨A, cap, vs, h1, h2, h3⟩ := open_level (fun s : ByteArray => Value.string s) (RPosts W) Tryd.underlying39 Tryd.underlying43 (by kernel_rfl) rfl rfl (by kernel_rfl) (by kernel_rfl)
    (fun m c y hy => open_str1 hy) (fun m c y hy => open_posts hy) h
  exact ⟨_, A, cap, vs, h1, h2, h3, rfl⟩
/-- A posting. -/
theorem open_posting {cs : List Value} {fuel : Nat} {x : DataW H × List MemPlace} (hl : cs.length = 2) (h : DataW.trod enc Tryd.prog W base spare held fuel 46 cs = some x) : ∃ (n : Int) (v : Value) (l : List SpotM), cs = [.int .i64 n, v] ∧ RSpots W v l := by
  obtain ⟨y0, y1, m2, _, _, a0, a1⟩ := ChangeShapes.trod_struct2 Tryd.underlying46 h
  obtain ⟨c0, c1, rfl⟩ : ∃ c0 c1, cs = [c0, c1] := by
    match cs, hl with
    | [c0, c1], _ => exact ⟨c0, c1, rfl⟩
  have hc0 : Tryd.prog.cellsOf 3 = 1 := by kernel_rfl
  have hc1 : Tryd.prog.cellsOf 44 = 1 := by kernel_rfl
  simp only [hc0, hc1] at a0 a1
  obtain ⟨k, rfl⟩ := open_int1 (c := c0) a0
  obtain ⟨l, hl⟩ := open_spots (c := c1) a1
  exact ⟨k, c1, l, rfl, hl⟩
end
end Trm
end Go.Proofs.YtfohollhdaedlaaDoor
