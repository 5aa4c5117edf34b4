/- Plain Lean: each word's term is a word alone, with small letters (P15.2). -/
import Derived.Test.YtfohollhdaedlaaGreatDoorFoldBack
import Derived.Test.YtfohollhdaedlaaGreatDoorTokMark
set_option linter.unusedVariables false
set_option linter.unusedSimpArgs false
namespace Go.Proofs.YtfohollhdaedlaaGreatDoor
open Utf Fold
namespace Tok
theorem pieces_run (s : ByteArray) : ∀ n a, s.size - a = n → ∀ p ∈ pieces s a, p.1 < s.size ∧ p.2.2 = wd s p.1 ∧ p.2.1 = run s (wd s p.1) p.1 := by
  intro n
  induction n using Nat.strongRecOn with
  | _ n ih =>
    intro a hn p hp
    by_cases h : a < s.size
    · have hr := run_gt h
      rw [pieces_go h] at hp
      rcases List.mem_cons.1 hp with rfl | hp
      · exact ⟨h, rfl, rfl⟩
      · exact ih (s.size - run s (wd s a) a) (by omega) _ rfl p hp
    · rw [pieces_end h] at hp; cases hp
theorem spans_run_of {s : ByteArray} {a : Nat} {x : Nat × Nat} (h : x ∈ spans s a) : x.1 < s.size ∧ wd s x.1 = true ∧ x.2 = run s true x.1 := by
  have := pieces_run s _ a rfl _ (spans_mem h)
  simp only at this
  obtain ⟨h1, h2, h3⟩ := this
  rw [← h2] at h3
  exact ⟨h1, h2.symm, h3⟩
theorem wd_sign {s : ByteArray} {a : Nat} (h : wd s a = true) : 0 ≤ (nx s a).1 ∧ word (nx s a).1 = true := by
  simp only [wd, Bool.and_eq_true, decide_eq_true_eq] at h; exact h
/-- A word, cut out: it is UTF-8, and a word alone. -/
theorem cut_word (s : ByteArray) (f t : Nat) (ht : t ≤ s.size) : ∀ n i, s.size - i = n → f ≤ i → i ≤ t → run s true i = t →
    run (s.extract f t) true (i - f) = t - f ∧ validF (s.extract f t) (i - f) = true := by
  have hes : (s.extract f t).size = t - f := by rw [ByteArray.size_extract]; omega
  intro n
  induction n using Nat.strongRecOn with
  | _ n ih =>
    intro i hn hf hi hr
    by_cases h : i < t
    · have hw : wd s i = true := by
        cases hw : wd s i
        · rw [run_stop (by rw [hw]; simp)] at hr; omega
        · rfl
      have hlt : i < s.size := by omega
      rw [run_go hlt hw] at hr
      have hra := adv_range s i hlt
      have hrr := run_range s true _ (adv s i) rfl
      obtain ⟨hs0, hsw⟩ := wd_sign hw
      have hp : nx (s.extract 0 t) i = nx s i := nx_pre s t i ht hs0 (by omega)
      have hse : s.extract f t = (s.extract 0 t).extract f (s.extract 0 t).size := by
        apply bytesOf_inj
        rw [size_pre s t ht, bytesOf_extract, bytesOf_extract, bytesOf_extract, List.drop_zero, Nat.sub_zero, List.drop_take, List.take_take, Nat.min_self]
      have hne : nx (s.extract f t) (i - f) = nx s i := by
        rw [hse, ← nx_behind (s.extract 0 t) f (i - f) (by rw [size_pre s t ht]; omega), show f + (i - f) = i by omega, hp]
      have hae : adv (s.extract f t) (i - f) = adv s i - f := by rw [adv, hne]; unfold adv; omega
      have hwe : wd (s.extract f t) (i - f) = true := by rw [wd, hne]; exact hw
      obtain ⟨i1, i2⟩ := ih (s.size - adv s i) (by omega) (adv s i) rfl (by omega) (by omega) hr
      refine ⟨?_, ?_⟩
      · rw [run_go (by omega) hwe, hae]; exact i1
      · rw [validF_go (by omega) (by rw [hne]; omega), hae]; exact i2
    · obtain rfl : i = t := by omega
      exact ⟨by rw [run_end (by omega)], validF_end (by omega)⟩
theorem word_low (r : Int) : word (low r) = word r := by rw [word, word, letter_low, digit_low]
/-- Small letters: a word stays one. -/
theorem run_text (e : ByteArray) : ∀ n a, e.size - a = n → a ≤ e.size → run e true a = e.size → ∀ P : List Int, Byt P →
    run (strOfNums (P ++ textF e a)) true P.length = P.length + (textF e a).length ∧ (a < e.size → wd (strOfNums (P ++ textF e a)) P.length = true) := by
  intro n
  induction n using Nat.strongRecOn with
  | _ n ih =>
    intro a hn ha hr P hP
    by_cases h : a < e.size
    · have hw : wd e a = true := by
        cases hw : wd e a
        · rw [run_stop (by rw [hw]; simp)] at hr; omega
        · rfl
      rw [run_go h hw] at hr
      have hra := adv_range e a h
      obtain ⟨hs0, hsw⟩ := wd_sign hw
      have hneg : ¬ (nx e a).1 < 0 := by omega
      have hs := sgn_low _ (sgn_nx hneg)
      have hR := textF_byt e _ (adv e a) rfl
      have hI := ih _ (by omega) (adv e a) rfl hra.2.1 hr (P ++ enc (low (nx e a).1)) (byt_append hP (enc_byt _))
      have hT : textF e a = enc (low (nx e a).1) ++ textF e (adv e a) := by rw [textF_go h, piece_good hneg]
      have hm := nx_mid P _ hP hR _ hs
      have hp := enc_pos _ hs
      rw [List.append_assoc, List.length_append] at hI
      rw [hT]
      have hlt : P.length < (strOfNums (P ++ (enc (low (nx e a).1) ++ textF e (adv e a)))).size := by rw [strOfNums_size, List.length_append, List.length_append]; omega
      have had : adv (strOfNums (P ++ (enc (low (nx e a).1) ++ textF e (adv e a)))) P.length = P.length + (enc (low (nx e a).1)).length := by show _ + (nx _ P.length).2.toNat = _; rw [hm]; simp
      have hwd : wd (strOfNums (P ++ (enc (low (nx e a).1) ++ textF e (adv e a)))) P.length = true := by
        rw [wd, hm]
        have := ((sgn_iff _).1 hs).1
        rw [word_low, hsw, Bool.and_true, decide_eq_true this]
      refine ⟨?_, fun _ => hwd⟩
      rw [run_go hlt hwd, had, hI.1, List.length_append]; omega
    · rw [textF_end h, List.append_nil]
      have hx : ¬ P.length < (strOfNums P).size := by rw [strOfNums_size]; omega
      exact ⟨by rw [run_end hx]; simp, fun h2 => absurd h2 h⟩
/-- P15.2: a term is a word alone, with small letters. -/
theorem term_single {s : ByteArray} {x : Nat × Nat} (h : x ∈ spans s 0) : single (term s x) = true ∧ strOfNums (textF (term s x) 0) = term s x := by
  have hr := spans_range s 0 (Nat.zero_le _) x h
  obtain ⟨h1, h2, h3⟩ := spans_run_of h
  obtain ⟨c1, c2⟩ := cut_word s x.1 x.2 hr.2.2 _ x.1 rfl (Nat.le_refl _) (by omega) h3.symm
  rw [Nat.sub_self] at c1 c2
  have hes : (s.extract x.1 x.2).size = x.2 - x.1 := by rw [ByteArray.size_extract]; omega
  have hT := run_text (s.extract x.1 x.2) _ 0 rfl (Nat.zero_le _) (by rw [hes]; exact c1) [] (fun b hb => by cases hb)
  simp only [List.nil_append, List.length_nil, Nat.zero_add] at hT
  have hw := hT.2 (by omega)
  have hrun := hT.1
  refine ⟨?_, ?_⟩
  · rw [term, single_iff]
    have hlen : (strOfNums (textF (s.extract x.1 x.2) 0)).size = (textF (s.extract x.1 x.2) 0).length := strOfNums_size _
    refine ⟨?_, hw, by rw [hrun, hlen]⟩
    rw [hlen]
    have h0 : 0 < (s.extract x.1 x.2).size := by omega
    have hwe : wd (s.extract x.1 x.2) 0 = true := by
      cases hwe : wd (s.extract x.1 x.2) 0
      · rw [run_stop (by rw [hwe]; simp)] at c1; omega
      · rfl
    have hneg : ¬ (nx (s.extract x.1 x.2) 0).1 < 0 := by have := (wd_sign hwe).1; omega
    have := enc_pos _ (sgn_low _ (sgn_nx hneg))
    rw [textF_go h0, piece_good hneg, List.length_append]; omega
  · rw [term, (again0 _ c2).1]
theorem toks_mem (s : ByteArray) : ∀ (l : List (Nat × Nat)) (i : Nat) (z : ByteArray × Nat), z ∈ toks s i l → ∃ x ∈ l, z.1 = term s x ∧ z.2 < 60 ∧ z.1.size ≤ 20 ∧ i ≤ z.2
  | [], _, _, h => by cases h
  | x :: l, i, z, h => by
    rw [toks] at h
    rcases List.mem_append.1 h with h | h
    · split at h
      · rename_i hk
        simp only [List.mem_cons, List.mem_nil_iff, or_false] at h
        subst h
        simp only [keepT, Bool.and_eq_true, decide_eq_true_eq] at hk
        exact ⟨x, List.mem_cons_self .., rfl, hk.1, hk.2, Nat.le_refl _⟩
      · cases h
    · obtain ⟨y, hy, h1, h2, h3, h4⟩ := toks_mem s l (i + 1) z h
      exact ⟨y, List.mem_cons_of_mem _ hy, h1, h2, h3, by omega⟩
/-- Places rise. -/
theorem toks_rise (s : ByteArray) : ∀ (l : List (Nat × Nat)) (i q : Nat) (z y : ByteArray × Nat), (toks s i l)[q]? = some z → (toks s i l)[q + 1]? = some y → z.2 < y.2
  | [], _, _, _, _, h, _ => by simp [toks] at h
  | x :: l, i, q, z, y, h, k => by
    rw [toks] at h k
    by_cases hk : keepT i (term s x) = true
    · rw [if_pos hk] at h k
      cases q with
      | zero =>
        simp at h k
        have hm : y ∈ toks s (i + 1) l := List.mem_of_getElem? (i := 0) (by simpa using k)
        obtain ⟨_, _, _, _, _, h4⟩ := toks_mem s l (i + 1) y hm
        rw [← h]; simp only; omega
      | succ q =>
        simp only [List.cons_append, List.nil_append, List.getElem?_cons_succ] at h k
        exact toks_rise s l (i + 1) q z y h k
    · rw [if_neg hk, List.nil_append] at h k
      exact toks_rise s l (i + 1) q z y h k
/-- As many as there are words, where none is left out. -/
theorem toks_all (s : ByteArray) : ∀ (l : List (Nat × Nat)) (i : Nat), (∀ x ∈ l, (term s x).size ≤ 20) → (toks s i l).length = min l.length (60 - i)
  | [], _, _ => by simp [toks]
  | x :: l, i, h => by
    have h1 := h x (List.mem_cons_self ..)
    have h2 := toks_all s l (i + 1) fun y hy => h y (List.mem_cons_of_mem _ hy)
    rw [toks, List.length_append, h2, List.length_cons]
    by_cases hi : i < 60
    · rw [if_pos (by simp [keepT, hi, h1])]
      simp only [List.length_cons, List.length_nil]; omega
    · rw [if_neg (by simp [keepT, hi])]
      simp only [List.length_nil]; omega
/-- How many words are too long. -/
def longs (s : ByteArray) (l : List (Nat × Nat)) : Nat := (l.filter fun x => decide (20 < (term s x).size)).length
theorem longs_none {s : ByteArray} {l : List (Nat × Nat)} (h : longs s l = 0) : ∀ x ∈ l, (term s x).size ≤ 20 := by
  intro x hx
  have h2 := List.eq_nil_of_length_eq_zero h
  by_cases h3 : (term s x).size ≤ 20
  · exact h3
  · have : x ∈ l.filter fun x => decide (20 < (term s x).size) := List.mem_filter.2 ⟨hx, by simp; omega⟩
    rw [h2] at this; cases this
theorem longs_append (s : ByteArray) (l m : List (Nat × Nat)) : longs s (l ++ m) = longs s l + longs s m := by simp [longs]
end Tok
end Go.Proofs.YtfohollhdaedlaaGreatDoor
