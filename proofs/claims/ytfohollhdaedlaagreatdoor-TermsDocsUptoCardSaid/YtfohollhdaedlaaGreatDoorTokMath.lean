/- Plain Lean: the words of a text, where they stand; its parts. No program in sight. -/
import Derived.Test.YtfohollhdaedlaaGreatDoorFoldText
set_option linter.unusedVariables false
set_option linter.unusedSimpArgs false
namespace Go.Proofs.YtfohollhdaedlaaGreatDoor
open Utf Fold
namespace Tok
/-- May the sign at a place stand in a word? -/
def wd (s : ByteArray) (a : Nat) : Bool := decide (0 ≤ (nx s a).1) && word (nx s a).1
/-- The end of the like signs from a place on. -/
def run (s : ByteArray) (v : Bool) (a : Nat) : Nat := if h : a < s.size then (if wd s a = v then run s v (adv s a) else a) else a
termination_by s.size - a
decreasing_by have := adv_range s a h; omega
theorem run_end {s : ByteArray} {v : Bool} {a : Nat} (h : ¬ a < s.size) : run s v a = a := by rw [run, dif_neg h]
theorem run_stop {s : ByteArray} {v : Bool} {a : Nat} (h : wd s a ≠ v) : run s v a = a := by
  by_cases h0 : a < s.size
  · rw [run, dif_pos h0, if_neg h]
  · exact run_end h0
theorem run_go {s : ByteArray} {v : Bool} {a : Nat} (h : a < s.size) (hv : wd s a = v) : run s v a = run s v (adv s a) := by rw [run, dif_pos h, if_pos hv]
theorem run_range (s : ByteArray) (v : Bool) : ∀ n a, s.size - a = n → a ≤ run s v a ∧ (a ≤ s.size → run s v a ≤ s.size) := by
  intro n
  induction n using Nat.strongRecOn with
  | _ n ih =>
    intro a hn
    by_cases h : a < s.size
    · have hr := adv_range s a h
      by_cases hv : wd s a = v
      · have := ih _ (by omega) (adv s a) rfl
        rw [run_go h hv]; omega
      · rw [run_stop hv]; omega
    · rw [run_end h]; omega
theorem run_gt {s : ByteArray} {a : Nat} (h : a < s.size) : a < run s (wd s a) a ∧ run s (wd s a) a ≤ s.size := by
  have hr := adv_range s a h
  rw [run_go h rfl]
  have := run_range s (wd s a) _ (adv s a) rfl
  omega
/-- A text in parts: from, to, is it a word? -/
def pieces (s : ByteArray) (a : Nat) : List (Nat × Nat × Bool) := if h : a < s.size then (a, run s (wd s a) a, wd s a) :: pieces s (run s (wd s a) a) else []
termination_by s.size - a
decreasing_by have := run_gt h; omega
theorem pieces_end {s : ByteArray} {a : Nat} (h : ¬ a < s.size) : pieces s a = [] := by rw [pieces, dif_neg h]
theorem pieces_go {s : ByteArray} {a : Nat} (h : a < s.size) : pieces s a = (a, run s (wd s a) a, wd s a) :: pieces s (run s (wd s a) a) := by
  rw [pieces, dif_pos h]
/-- Where the words stand. -/
def spansOf (l : List (Nat × Nat × Bool)) : List (Nat × Nat) := (l.filter (·.2.2)).map fun p => (p.1, p.2.1)
def spans (s : ByteArray) (a : Nat) : List (Nat × Nat) := spansOf (pieces s a)
theorem spans_end {s : ByteArray} {a : Nat} (h : ¬ a < s.size) : spans s a = [] := by rw [spans, pieces_end h]; rfl
theorem spans_word {s : ByteArray} {a : Nat} (h : a < s.size) (hw : wd s a = true) : spans s a = (a, run s true a) :: spans s (run s true a) := by
  rw [spans, pieces_go h, hw]; rfl
theorem spans_run {s : ByteArray} {a : Nat} (hw : wd s a = false) : spans s a = spans s (run s false a) := by
  by_cases h : a < s.size
  · rw [spans, pieces_go h, hw]; rfl
  · rw [run_end h]
theorem spans_skip {s : ByteArray} {a : Nat} (h : a < s.size) (hw : wd s a = false) : spans s a = spans s (adv s a) := by
  rw [spans_run hw, run_go h hw]
  cases h2 : wd s (adv s a)
  · rw [← spans_run h2]
  · rw [run_stop (by rw [h2]; simp)]
/-- The rest of the words, where the last one goes on. -/
def tailW (s : ByteArray) (f a : Nat) : List (Nat × Nat) := (f, run s true a) :: spans s (run s true a)
theorem tail_first {s : ByteArray} {a : Nat} (h : a < s.size) (hw : wd s a = true) : tailW s a (adv s a) = spans s a := by
  rw [spans_word h hw, tailW, run_go h hw]
theorem tail_go {s : ByteArray} {f a : Nat} (h : a < s.size) (hw : wd s a = true) : tailW s f (adv s a) = tailW s f a := by
  rw [tailW, tailW, run_go h hw]
theorem tail_stop {s : ByteArray} {f a : Nat} (h : a < s.size) (hw : wd s a = false) : tailW s f a = (f, a) :: spans s (adv s a) := by
  rw [tailW, run_stop (by rw [hw]; simp), spans_skip h hw]
theorem tail_end {s : ByteArray} {f a : Nat} (h : ¬ a < s.size) : tailW s f a = [(f, a)] := by
  rw [tailW, run_end h, spans_end h]
/-- The rest of the parts, where the last one goes on. -/
def tailP (s : ByteArray) (f : Nat) (v : Bool) (a : Nat) : List (Nat × Nat × Bool) := (f, run s v a, v) :: pieces s (run s v a)
theorem tailP_first {s : ByteArray} {a : Nat} (h : a < s.size) : tailP s a (wd s a) (adv s a) = pieces s a := by
  rw [pieces_go h, tailP, run_go h rfl]
theorem tailP_go {s : ByteArray} {f a : Nat} (h : a < s.size) : tailP s f (wd s a) (adv s a) = tailP s f (wd s a) a := by
  rw [tailP, tailP, run_go h rfl]
theorem tailP_turn {s : ByteArray} {f a : Nat} {v : Bool} (h : a < s.size) (hw : wd s a ≠ v) : tailP s f v a = (f, a, v) :: tailP s a (wd s a) (adv s a) := by
  rw [tailP_first h, tailP, run_stop hw]
theorem tailP_end {s : ByteArray} {f a : Nat} {v : Bool} (h : ¬ a < s.size) : tailP s f v a = [(f, a, v)] := by
  rw [tailP, run_end h, pieces_end h]
theorem extract_join (s : ByteArray) (a b c : Nat) (h1 : a ≤ b) (h2 : b ≤ c) : s.extract a b ++ s.extract b c = s.extract a c := by
  apply bytesOf_inj
  have e : ∀ x y : ByteArray, bytesOf (x ++ y) = bytesOf x ++ bytesOf y := fun x y => by
    simp [bytesOf, ByteArray.data_append]
  rw [e, bytesOf_extract, bytesOf_extract, bytesOf_extract]
  have h3 : (bytesOf s).drop b = ((bytesOf s).drop a).drop (b - a) := by rw [List.drop_drop]; congr 1; omega
  have h4 : c - a = (b - a) + (c - b) := by omega
  rw [h3, h4, List.take_add]
/-- Each part: it begins where the one ahead ends, and has a byte. -/
theorem pieces_range (s : ByteArray) : ∀ n a, s.size - a = n → a ≤ s.size → ∀ p ∈ pieces s a, a ≤ p.1 ∧ p.1 < p.2.1 ∧ p.2.1 ≤ s.size := by
  intro n
  induction n using Nat.strongRecOn with
  | _ n ih =>
    intro a hn ha p hp
    by_cases h : a < s.size
    · have hr := run_gt h
      rw [pieces_go h] at hp
      rcases List.mem_cons.1 hp with rfl | hp
      · exact ⟨Nat.le_refl _, hr.1, hr.2⟩
      · have := ih (s.size - run s (wd s a) a) (by omega) _ rfl hr.2 p hp
        omega
    · rw [pieces_end h] at hp; cases hp
theorem pieces_length (s : ByteArray) : ∀ n a, s.size - a = n → (pieces s a).length ≤ s.size - a := by
  intro n
  induction n using Nat.strongRecOn with
  | _ n ih =>
    intro a hn
    by_cases h : a < s.size
    · have hr := run_gt h
      have := ih (s.size - run s (wd s a) a) (by omega) _ rfl
      rw [pieces_go h, List.length_cons]; omega
    · rw [pieces_end h]; simp
theorem spans_mem {s : ByteArray} {a : Nat} {x : Nat × Nat} (h : x ∈ spans s a) : (x.1, x.2, true) ∈ pieces s a := by
  obtain ⟨p, hp, rfl⟩ := List.mem_map.1 h
  obtain ⟨hp, hv⟩ := List.mem_filter.1 hp
  obtain ⟨f, t, v⟩ := p
  simp only at hv
  subst hv
  exact hp
theorem spans_range (s : ByteArray) (a : Nat) (ha : a ≤ s.size) (x : Nat × Nat) (h : x ∈ spans s a) : a ≤ x.1 ∧ x.1 < x.2 ∧ x.2 ≤ s.size := pieces_range s _ a rfl ha _ (spans_mem h)
theorem spansOf_length (l : List (Nat × Nat × Bool)) : (spansOf l).length ≤ l.length := by rw [spansOf, List.length_map]; exact List.length_filter_le _ _
theorem spans_length (s : ByteArray) (a : Nat) : (spans s a).length ≤ s.size - a := Nat.le_trans (spansOf_length _) (pieces_length s _ a rfl)
/-- Is a text just one word? -/
def single (s : ByteArray) : Bool := decide (spans s 0 = [(0, s.size)])
theorem single_iff (s : ByteArray) : single s = true ↔ 0 < s.size ∧ wd s 0 = true ∧ run s true 0 = s.size := by
  rw [single, decide_eq_true_iff]
  constructor
  · intro h
    by_cases h0 : 0 < s.size
    · cases hw : wd s 0
      · rw [spans_skip h0 hw] at h
        have := (adv_range s 0 h0)
        have hm : ((0, s.size) : Nat × Nat) ∈ spans s (adv s 0) := by rw [h]; simp
        have := (spans_range s _ this.2.1 _ hm).1
        simp only at this
        omega
      · rw [spans_word h0 hw] at h
        simp only [List.cons.injEq, Prod.mk.injEq, true_and] at h
        exact ⟨h0, rfl, h.1⟩
    · rw [spans_end h0] at h; cases h
  · rintro ⟨h0, hw, hr⟩
    rw [spans_word h0 hw, hr, spans_end (Nat.lt_irrefl _)]
theorem single_pieces (s : ByteArray) : single s = decide ((pieces s 0).length = 1 ∧ ∀ p ∈ pieces s 0, p.2.2 = true) := by
  rw [Bool.eq_iff_iff, single_iff, decide_eq_true_iff]
  constructor
  · rintro ⟨h0, hw, hr⟩
    rw [pieces_go h0, hw, hr, pieces_end (Nat.lt_irrefl _)]
    simp
  · rintro ⟨h1, h2⟩
    by_cases h0 : 0 < s.size
    · rw [pieces_go h0] at h1 h2
      have hw : wd s 0 = true := h2 _ (List.mem_cons_self ..)
      rw [hw] at h1
      simp only [List.length_cons] at h1
      refine ⟨h0, hw, ?_⟩
      have hr := run_gt h0
      rw [hw] at hr
      by_cases h3 : run s true 0 < s.size
      · rw [pieces_go h3] at h1; simp at h1
      · omega
    · rw [pieces_end h0] at h1; simp at h1
/-- The words' terms, each with its place; what is too long, or stands too far behind, is left out. -/
def term (s : ByteArray) (x : Nat × Nat) : ByteArray := strOfNums (textF (s.extract x.1 x.2) 0)
def keepT (i : Nat) (t : ByteArray) : Bool := decide (i < 60) && decide (t.size ≤ 20)
def toks (s : ByteArray) : Nat → List (Nat × Nat) → List (ByteArray × Nat)
  | _, [] => []
  | i, x :: l => (if keepT i (term s x) then [(term s x, i)] else []) ++ toks s (i + 1) l
theorem toks_length (s : ByteArray) : ∀ (l : List (Nat × Nat)) (i : Nat), (toks s i l).length ≤ l.length
  | [], _ => Nat.le_refl _
  | x :: l, i => by
    have := toks_length s l (i + 1)
    rw [toks, List.length_append, List.length_cons]
    split
    · simp; omega
    · simp; omega
end Tok
end Go.Proofs.YtfohollhdaedlaaGreatDoor
