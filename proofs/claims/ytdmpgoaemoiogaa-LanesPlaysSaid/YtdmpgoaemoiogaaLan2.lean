/- Lanes: what they are; New, box. -/
import Derived.Test.YtdmpgoaemoiogaaLan1
set_option linter.unusedVariables false
set_option linter.unusedSimpArgs false
set_option maxRecDepth 100000
namespace Go.Proofs.Ytdmpgoaemoiogaa
open Go.RowKit Go.Maps
namespace Box
def ways : List (Int × Int) := (List.range 64).flatMap fun (i : Nat) => (List.range 64).map fun (j : Nat) => ((i : Int), (j : Int))
theorem ways_length : ways.length = 4096 := by decide +kernel
def Way (n : Nat) (k : Int × Int) : Prop := 0 ≤ k.1 ∧ k.1 < n ∧ 0 ≤ k.2 ∧ k.2 < n ∧ k.1 ≠ k.2
theorem way_mem {n : Nat} (hn : n ≤ 64) {k : Int × Int} (h : Way n k) : k ∈ ways := by
  obtain ⟨h1, h2, h3, h4, _⟩ := h
  refine List.mem_flatMap.2 ⟨k.1.toNat, List.mem_range.2 (by omega), List.mem_map.2 ⟨k.2.toNat, List.mem_range.2 (by omega), ?_⟩⟩
  exact Prod.ext (by simp; omega) (by simp; omega)
theorem countP_more {α : Type} {f g : α → Bool} {x : α} : ∀ {l : List α}, x ∈ l → f x = false → g x = true → (∀ y, f y = true → g y = true) → l.countP f + 1 ≤ l.countP g
  | y :: l, hx, hf, hg, h => by
    have hle : l.countP f ≤ l.countP g := List.countP_mono_left fun y _ => h y
    by_cases e : x = y
    · subst e
      rw [List.countP_cons_of_neg (by simp [hf]), List.countP_cons_of_pos hg]; omega
    · have := countP_more (l := l) (by rcases List.mem_cons.1 hx with rfl | h'; exact absurd rfl e; exact h') hf hg h
      rw [List.countP_cons, List.countP_cons]
      by_cases e2 : f y = true
      · rw [if_pos e2, if_pos (h y e2)]; omega
      · rw [if_neg e2]; split <;> omega
/-- Lanes: their block, their map's, the ways' boxes. F: all blocks that they are made of. -/
structure LnsF (w : World) (F : Nat → Prop) (p m n nk : Nat) (s t : Int) (q : Int × Int → List Par) (f : Int × Int → Option (Nat × Nat)) : Prop where
  head : w.heap[p]? = some (.cells #[.int .i64 n, .map (some m), .int .i64 s, .int .i64 t] 79 (0, 0))
  map : LanMap w m nk (fun k => (f k).map (·.1))
  box : ∀ k b c, f k = some (b, c) → Way n k ∧ IsP w b c (q k) ∧ F b ∧ F c
  no : ∀ k, f k = none → q k = []
  apart : ∀ k k' b c b' c', f k = some (b, c) → f k' = some (b', c') → k ≠ k' → c ≠ c'
  inF : F p ∧ F m
  small : n ≤ 64
  cnt : nk ≤ ways.countP (fun k => (f k).isSome)
  fin : ∀ x, F x → x < w.heap.size
/-- What changes: blocks of F, new ones. -/
def Foot (w w' : World) (F : Nat → Prop) : Prop := w'.os = w.os ∧ w'.tape = w.tape ∧ w'.output = w.output ∧ w.heap.size ≤ w'.heap.size ∧ ∀ k, k < w.heap.size → ¬ F k → w'.heap[k]? = w.heap[k]?
theorem Foot.refl (w : World) (F : Nat → Prop) : Foot w w F := ⟨rfl, rfl, rfl, Nat.le_refl _, fun _ _ _ => rfl⟩
theorem Foot.trans {w w1 w2 : World} {F F1 : Nat → Prop} (h : Foot w w1 F) (h1 : Foot w1 w2 F1) (hF : ∀ k, F1 k → F k ∨ w.heap.size ≤ k) : Foot w w2 F :=
  ⟨h1.1.trans h.1, h1.2.1.trans h.2.1, h1.2.2.1.trans h.2.2.1, Nat.le_trans h.2.2.2.1 h1.2.2.2.1, fun k hk hn =>
    (h1.2.2.2.2 k (Nat.lt_of_lt_of_le hk h.2.2.2.1) (fun hf => by rcases hF k hf with h' | h'; exact hn h'; omega)).trans (h.2.2.2.2 k hk hn)⟩
theorem Foot.of_grown {w w' : World} {F : Nat → Prop} {c : Nat} (h : w.grownBy w' (some c)) (hc : F c) : Foot w w' F :=
  ⟨h.os, h.tape, h.output, h.size, fun k hk hn => h.block k hk (fun e => hn (by rw [Option.some.inj e]; exact hc))⟩
theorem Foot.of_below {w w' : World} (F : Nat → Prop) (h : Below w.heap.size w w') : Foot w w' F := ⟨h.os, h.tape, h.output, h.size, fun k hk _ => h.block k hk⟩
theorem Foot.below {w w' : World} {F : Nat → Prop} {B : Nat} (h : Foot w w' F) (hB : B ≤ w.heap.size) (hF : ∀ k, F k → B ≤ k) : Below B w w' :=
  ⟨h.1, h.2.1, h.2.2.1, h.2.2.2.1, fun k hk => h.2.2.2.2 k (by omega) (fun hf => by have := hF k hf; omega)⟩
variable {w : World} {F : Nat → Prop} {p m n nk : Nat} {s t : Int} {q : Int × Int → List Par} {f : Int × Int → Option (Nat × Nat)}
theorem LnsF.lt (h : LnsF w F p m n nk s t q f) : p < w.heap.size ∧ m < w.heap.size ∧ p ≠ m := by
  obtain ⟨D, ⟨es, clock, hb, h1⟩, h2⟩ := h.map
  refine ⟨(Array.getElem?_eq_some_iff.1 h.head).1, (Array.getElem?_eq_some_iff.1 hb).1, ?_⟩
  rintro rfl
  rw [h.head] at hb; cases hb
theorem LnsF.ne (h : LnsF w F p m n nk s t q f) {k : Int × Int} {b c : Nat} (hk : f k = some (b, c)) : b ≠ p ∧ c ≠ p ∧ b ≠ m ∧ c ≠ m := by
  obtain ⟨D, ⟨es, clock, hm, h1⟩, h2⟩ := h.map
  obtain ⟨_, ⟨t', s', r', hb, hc, _⟩, _⟩ := h.box k b c hk
  have hp := h.head
  refine ⟨?_, ?_, ?_, ?_⟩ <;> rintro rfl
  · rw [hb] at hp; cases hp
  · rw [hc] at hp; cases hp
  · rw [hb] at hm; cases hm
  · rw [hc] at hm; cases hm
theorem LnsF.ne2 (h : LnsF w F p m n nk s t q f) {k k' : Int × Int} {b c b' c' : Nat} (hk : f k = some (b, c)) (hk' : f k' = some (b', c')) : b ≠ c' := by
  obtain ⟨_, ⟨t1, s1, r1, hb, _⟩, _⟩ := h.box k b c hk
  obtain ⟨_, ⟨t2, s2, r2, _, hc, _⟩, _⟩ := h.box k' b' c' hk'
  rintro rfl
  rw [hb] at hc; cases hc
/-- What does not touch them leaves them as they are. -/
theorem LnsF.keep {w' : World} (h : LnsF w F p m n nk s t q f) (hsz : w.heap.size ≤ w'.heap.size) (hs : ∀ k, F k → k < w.heap.size → w'.heap[k]? = w.heap[k]?) : LnsF w' F p m n nk s t q f where
  head := (hs p h.inF.1 h.lt.1).trans h.head
  map := h.map.same (hs m h.inF.2 h.lt.2.1)
  box k b c hk := by
    obtain ⟨h1, h2, h3, h4⟩ := h.box k b c hk
    have hl := h2.lt
    obtain ⟨t', s', r', hb, hc, h5⟩ := h2
    exact ⟨h1, ⟨t', s', r', (hs b h3 hl.1).trans hb, (hs c h4 hl.2.1).trans hc, h5⟩, h3, h4⟩
  no := h.no
  apart := h.apart
  inF := h.inF
  small := h.small
  cnt := h.cnt
  fin x hx := Nat.lt_of_lt_of_le (h.fin x hx) hsz
theorem LnsF.below {w' : World} (h : LnsF w F p m n nk s t q f) (hb : Below w.heap.size w w') : LnsF w' F p m n nk s t q f := h.keep hb.size fun k _ hk => hb.block k hk
/-- A way's box is changed. -/
theorem LnsF.set {w' : World} (h : LnsF w F p m n nk s t q f) {k : Int × Int} {b c : Nat} (hk : f k = some (b, c)) {l : List Par} (hg : w.grownBy w' (some c)) (hx : IsP w' b c l) : LnsF w' F p m n nk s t (upd q k l) f where
  head := (hg.block p h.lt.1 (fun e => (h.ne hk).2.1 (Option.some.inj e).symm)).trans h.head
  map := h.map.same (hg.block m h.lt.2.1 (fun e => (h.ne hk).2.2.2 (Option.some.inj e).symm))
  box k' b' c' hk' := by
    obtain ⟨h1, h2, h3, h4⟩ := h.box k' b' c' hk'
    refine ⟨h1, ?_, h3, h4⟩
    by_cases e : k' = k
    · subst e
      rw [hk] at hk'
      simp only [Option.some.injEq, Prod.mk.injEq] at hk'
      rw [← hk'.1, ← hk'.2, upd_same]; exact hx
    · rw [upd_other _ _ e]
      exact h2.keep hg (fun e' => h.ne2 hk' hk (Option.some.inj e')) (fun e' => h.apart k' k b' c' b c hk' hk e (Option.some.inj e'))
  no k' hk' := by
    by_cases e : k' = k
    · rw [e, hk] at hk'; cases hk'
    · rw [upd_other _ _ e]; exact h.no k' hk'
  apart := h.apart
  inF := h.inF
  small := h.small
  cnt := h.cnt
  fin x hx := Nat.lt_of_lt_of_le (h.fin x hx) hg.size
/-- The sums are changed. -/
theorem LnsF.sums {w' : World} (h : LnsF w F p m n nk s t q f) {s' t' : Int} (hg : w.grownBy w' (some p)) (hp : w'.heap[p]? = some (.cells #[.int .i64 n, .map (some m), .int .i64 s', .int .i64 t'] 79 (0, 0))) : LnsF w' F p m n nk s' t' q f where
  head := hp
  map := h.map.same (hg.block m h.lt.2.1 (fun e => h.lt.2.2 (Option.some.inj e).symm))
  box k' b' c' hk' := by
    obtain ⟨h1, h2, h3, h4⟩ := h.box k' b' c' hk'
    exact ⟨h1, h2.keep hg (fun e' => (h.ne hk').1 (Option.some.inj e')) (fun e' => (h.ne hk').2.1 (Option.some.inj e')), h3, h4⟩
  no := h.no
  apart := h.apart
  inF := h.inF
  small := h.small
  cnt := h.cnt
  fin x hx := Nat.lt_of_lt_of_le (h.fin x hx) hg.size
/-- A way gets a box. -/
theorem LnsF.new {w1 w' : World} (h : LnsF w F p m n nk s t q f) {k : Int × Int} {b c : Nat} (hw : Way n k) (hk : f k = none) (hb1 : Below w.heap.size w w1) (hb : w.heap.size ≤ b) (hc : w.heap.size ≤ c) (hx : IsP w1 b c [])
    (hm : LanMap w' m (nk + 1) (upd (fun k => (f k).map (·.1)) k (some b))) (hg : w1.grownBy w' (some m)) : LnsF w' (fun x => F x ∨ x = b ∨ x = c) p m n (nk + 1) s t q (upd f k (some (b, c))) where
  head := (hg.block p (by have := h.lt.1; have := hb1.size; omega) (fun e => h.lt.2.2 (Option.some.inj e))).trans ((hb1.block p h.lt.1).trans h.head)
  map := by
    have e : (fun k' => (upd f k (some (b, c)) k').map (·.1)) = upd (fun k => (f k).map (·.1)) k (some b) := by
      funext k'; unfold upd; split <;> rfl
    rw [e]; exact hm
  box k' b' c' hk' := by
    have hsz := hb1.size
    have hml := h.lt.2.1
    by_cases e : k' = k
    · subst e
      rw [upd_same] at hk'
      simp only [Option.some.injEq, Prod.mk.injEq] at hk'
      obtain ⟨rfl, rfl⟩ := hk'
      rw [h.no _ hk]
      exact ⟨hw, hx.keep hg (fun e' => by have := Option.some.inj e'; omega) (fun e' => by have := Option.some.inj e'; omega), .inr (.inl rfl), .inr (.inr rfl)⟩
    · rw [upd_other _ _ e] at hk'
      obtain ⟨h1, h2, h3, h4⟩ := h.box k' b' c' hk'
      exact ⟨h1, (h2.keep (grown_below hb1 none) (by simp) (by simp)).keep hg (fun e' => (h.ne hk').2.2.1 (Option.some.inj e')) (fun e' => (h.ne hk').2.2.2 (Option.some.inj e')), .inl h3, .inl h4⟩
  no k' hk' := by
    by_cases e : k' = k
    · rw [e, upd_same] at hk'; cases hk'
    · rw [upd_other _ _ e] at hk'; exact h.no k' hk'
  apart k1 k2 b1 c1 b2 c2 h1 h2 hne := by
    by_cases e1 : k1 = k
    · subst e1
      rw [upd_same] at h1
      rw [upd_other _ _ (Ne.symm hne)] at h2
      simp only [Option.some.injEq, Prod.mk.injEq] at h1
      have := (h.box k2 b2 c2 h2).2.1.lt
      omega
    · rw [upd_other _ _ e1] at h1
      by_cases e2 : k2 = k
      · subst e2
        rw [upd_same] at h2
        simp only [Option.some.injEq, Prod.mk.injEq] at h2
        have := (h.box k1 b1 c1 h1).2.1.lt
        omega
      · rw [upd_other _ _ e2] at h2
        exact h.apart k1 k2 b1 c1 b2 c2 h1 h2 hne
  inF := ⟨.inl h.inF.1, .inl h.inF.2⟩
  small := h.small
  cnt := by
    have := countP_more (f := fun k => (f k).isSome) (g := fun k' => (upd f k (some (b, c)) k').isSome) (way_mem h.small hw) (by simp [hk]) (by simp [upd_same]) (fun y hy => by
      by_cases e : y = k
      · simp [e, upd_same]
      · simpa [upd_other _ _ e] using hy)
    have := h.cnt
    omega
  fin x hx := by
    have h1 := hb1.size
    have h2 := hg.size
    have h3 := hx
    rcases hx with h' | rfl | rfl
    · have := h.fin x h'; omega
    · have := (IsP.lt ‹IsP w1 x c []›).1; omega
    · have := (IsP.lt ‹IsP w1 b x []›).2.1; omega
theorem LnsF.room (h : LnsF w F p m n nk s t q f) : nk < maxLen := by
  have h1 := h.cnt
  have h2 : ways.countP (fun k => (f k).isSome) ≤ ways.length := List.countP_le_length
  rw [ways_length] at h2
  unfold maxLen; omega
end Box
end Go.Proofs.Ytdmpgoaemoiogaa
