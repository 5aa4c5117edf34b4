/- Plain Lean: a text with marks about some of its words; the words of parts that something between keeps apart. -/
import Derived.Test.YtfohollhdaedlaaGreatDoorTokMath
set_option linter.unusedVariables false
set_option linter.unusedSimpArgs false
namespace Go.Proofs.YtfohollhdaedlaaGreatDoor
open Utf Fold
namespace Tok
theorem bytesOf_append (x y : ByteArray) : bytesOf (x ++ y) = bytesOf x ++ bytesOf y := by simp [bytesOf, ByteArray.data_append]
theorem extract_self (s : ByteArray) (a : Nat) : s.extract a a = { data := #[] } := by
  apply bytesOf_inj; rw [bytesOf_extract]; simp [bytesOf]
/-- Is a word one of some? -/
def hitF (ws : List ByteArray) (t : ByteArray) : Bool := ws.any fun w => decide (strOfNums (textF t 0) = w)
section
variable (s : ByteArray) (ws : List ByteArray) (be bh : ByteArray)
def partT (p : Nat × Nat × Bool) : ByteArray := if (p.2.2 && hitF ws (s.extract p.1 p.2.1)) = true then be ++ s.extract p.1 p.2.1 ++ bh else s.extract p.1 p.2.1
def markP (l : List (Nat × Nat × Bool)) : List Int := l.flatMap fun p => bytesOf (partT s ws be bh p)
def markB : List (Nat × Nat) → Nat → List Int
  | [], a => bytesOf (s.extract a s.size)
  | x :: l, a => bytesOf (s.extract a x.1) ++ (bytesOf (partT s ws be bh (x.1, x.2, true)) ++ markB l x.2)
theorem markB_pre {a r : Nat} (h1 : a ≤ r) (h2 : r ≤ s.size) : ∀ l : List (Nat × Nat), (∀ x ∈ l, r ≤ x.1) → markB s ws be bh l a = bytesOf (s.extract a r) ++ markB s ws be bh l r
  | [], _ => by rw [markB, markB, ← bytesOf_append, extract_join s a r _ h1 h2]
  | x :: l, h => by
    rw [markB, markB, ← extract_join s a r x.1 h1 (h x (List.mem_cons_self ..)), bytesOf_append, List.append_assoc]
theorem mark_eq : ∀ n a, s.size - a = n → a ≤ s.size → markB s ws be bh (spans s a) a = markP s ws be bh (pieces s a) := by
  intro n
  induction n using Nat.strongRecOn with
  | _ n ih =>
    intro a hn ha
    by_cases h : a < s.size
    · have hr := run_gt h
      have hi := ih (s.size - run s (wd s a) a) (by omega) _ rfl hr.2
      rw [pieces_go h, markP, List.flatMap_cons, ← markP, ← hi]
      cases hw : wd s a
      · rw [hw] at hr
        rw [spans_run hw, markB_pre s ws be bh (Nat.le_of_lt hr.1) hr.2 _ fun x hx => (spans_range s _ hr.2 x hx).1]
        rfl
      · rw [spans_word h hw, markB, extract_self]
        rfl
    · rw [spans_end h, pieces_end h]
      obtain rfl : a = s.size := by omega
      rw [markB, extract_self]; rfl
theorem flat_length {α β : Type} (f : α → List β) (k : Nat) : ∀ l : List α, (∀ x ∈ l, (f x).length ≤ k) → (l.flatMap f).length ≤ l.length * k
  | [], _ => by simp
  | x :: l, h => by
    have h1 := h x (List.mem_cons_self ..)
    have h2 := flat_length f k l fun y hy => h y (List.mem_cons_of_mem _ hy)
    rw [List.flatMap_cons, List.length_append, List.length_cons, Nat.succ_mul]; omega
theorem partT_size (hb : be.size ≤ 20) (hh : bh.size ≤ 20) (p : Nat × Nat × Bool) : (partT s ws be bh p).size ≤ s.size + 40 := by
  unfold partT; split
  · rw [ByteArray.size_append, ByteArray.size_append, ByteArray.size_extract]; omega
  · rw [ByteArray.size_extract]; omega
theorem markP_length (hs : s.size ≤ 2048) (hb : be.size ≤ 20) (hh : bh.size ≤ 20) : (markP s ws be bh (pieces s 0)).length ≤ 4276224 := by
  have h1 := flat_length (fun p => bytesOf (partT s ws be bh p)) 2088 (pieces s 0) fun p _ => by
    rw [bytesOf_length]; have := partT_size s ws be bh hb hh p; omega
  have h2 := pieces_length s _ 0 rfl
  have h3 : (pieces s 0).length * 2088 ≤ 2048 * 2088 := Nat.mul_le_mul_right _ (by omega)
  exact Nat.le_trans h1 h3
theorem mark_none : ∀ n a, s.size - a = n → a ≤ s.size → markP s ws { data := #[] } { data := #[] } (pieces s a) = bytesOf (s.extract a s.size) := by
  intro n
  induction n using Nat.strongRecOn with
  | _ n ih =>
    intro a hn ha
    by_cases h : a < s.size
    · have hr := run_gt h
      have hi := ih (s.size - run s (wd s a) a) (by omega) _ rfl hr.2
      rw [pieces_go h, markP, List.flatMap_cons, ← markP, hi, ← bytesOf_append]
      have hp : ∀ p, partT s ws { data := #[] } { data := #[] } p = s.extract p.1 p.2.1 := fun p => by
        unfold partT; split
        · apply bytesOf_inj; rw [bytesOf_append, bytesOf_append]; simp [bytesOf]
        · rfl
      rw [hp, extract_join s _ _ _ (by show a ≤ run s (wd s a) a; omega) (by exact hr.2)]
    · rw [pieces_end h]
      obtain rfl : a = s.size := by omega
      rw [extract_self]; rfl
end
theorem mark_self (s : ByteArray) (ws : List ByteArray) : strOfNums (markP s ws { data := #[] } { data := #[] } (pieces s 0)) = s := by
  rw [mark_none s ws _ 0 rfl (Nat.zero_le _), strOfNums_bytesOf]
  apply bytesOf_inj
  rw [bytesOf_extract, List.drop_zero, Nat.sub_zero]
  exact List.take_of_length_le (by rw [bytesOf_length]; exact Nat.le_refl _)

/-- Signs behind some bytes are those of what stands there. -/
theorem nx_behind (t : ByteArray) (k j : Nat) (h : k + j < t.size) : nx t (k + j) = nx (t.extract k t.size) j := by
  have h1 : j < (t.extract k t.size).size := by rw [ByteArray.size_extract]; omega
  rw [← nx_from' t (k + j) h, ← nx_from' (t.extract k t.size) j h1]
  congr 1
  apply bytesOf_inj
  rw [bytesOf_extract, bytesOf_extract, bytesOf_extract, ByteArray.size_extract]
  have hl := bytesOf_length t
  rw [List.take_of_length_le (by rw [List.length_drop]; omega), List.take_of_length_le (by rw [List.length_drop, List.length_take, List.length_drop]; omega), List.take_of_length_le (by rw [List.length_drop]; omega), List.drop_drop]
theorem behind_size (t : ByteArray) (k : Nat) (h : k ≤ t.size) : (t.extract k t.size).size = t.size - k := by rw [ByteArray.size_extract]; omega
theorem wd_behind (t : ByteArray) (k j : Nat) (h : k + j < t.size) : wd t (k + j) = wd (t.extract k t.size) j := by rw [wd, nx_behind t k j h]; rfl
theorem adv_behind (t : ByteArray) (k j : Nat) (h : k + j < t.size) : adv t (k + j) = k + adv (t.extract k t.size) j := by rw [adv, nx_behind t k j h, adv]; omega
theorem run_behind (t : ByteArray) (k : Nat) (v : Bool) (hk : k ≤ t.size) : ∀ n j, t.size - (k + j) = n → k + j ≤ t.size → run t v (k + j) = k + run (t.extract k t.size) v j := by
  have hs := behind_size t k hk
  intro n
  induction n using Nat.strongRecOn with
  | _ n ih =>
    intro j hn hj
    by_cases h : k + j < t.size
    · have hr := adv_range t (k + j) h
      have ha := adv_behind t k j h
      by_cases hv : wd t (k + j) = v
      · rw [run_go h hv, run_go (s := t.extract k t.size) (by omega) (by rw [← wd_behind t k j h]; exact hv), ha]
        exact ih (t.size - (k + adv (t.extract k t.size) j)) (by omega) _ rfl (by omega)
      · rw [run_stop hv, run_stop (by rw [← wd_behind t k j h]; exact hv)]
    · rw [run_end h, run_end (by omega)]
theorem count_behind (t : ByteArray) (k : Nat) (hk : k ≤ t.size) : ∀ n j, t.size - (k + j) = n → k + j ≤ t.size → (spans t (k + j)).length = (spans (t.extract k t.size) j).length := by
  have hs := behind_size t k hk
  intro n
  induction n using Nat.strongRecOn with
  | _ n ih =>
    intro j hn hj
    by_cases h : k + j < t.size
    · have hr := adv_range t (k + j) h
      have ha := adv_behind t k j h
      have hw := wd_behind t k j h
      have h2 : j < (t.extract k t.size).size := by omega
      cases hv : wd t (k + j)
      · rw [hv] at hw
        rw [spans_skip h hv, spans_skip h2 hw.symm, ha]
        exact ih (t.size - (k + adv (t.extract k t.size) j)) (by omega) _ rfl (by omega)
      · rw [hv] at hw
        have hg := run_gt h
        rw [hv, run_behind t k true hk _ j rfl hj] at hg
        rw [spans_word h hv, spans_word h2 hw.symm, List.length_cons, List.length_cons, run_behind t k true hk _ j rfl hj]
        rw [ih (t.size - (k + run (t.extract k t.size) true j)) (by omega) _ rfl hg.2]
    · rw [spans_end h, spans_end (by omega)]
/-- Signs ahead of a blank are those of what stands ahead of it. -/
theorem nx_ahead (t : ByteArray) (k i : Nat) (hk : k < t.size) (hb : byt t k = 32) (hi : i < k) : nx t i = nx (t.extract 0 k) i := by
  by_cases h0 : 0 ≤ (nx (t.extract 0 k) i).1
  · exact nx_ext t k i (by omega) hi h0
  · have hbad : nx (t.extract 0 k) i = (-1, 1) := by
      rcases nx_forms (t.extract 0 k) i with e | ⟨_, _, _, _, h5, e⟩
      · exact e
      · rw [e] at h0
        exact absurd ((sgn_iff _).1 h5).1 h0
    rw [hbad]
    rcases nx_forms t i with e | ⟨h1, h2, h3, h4, h5, e⟩
    · exact e
    · exfalso
      have hf := fsize_range (byt t i)
      by_cases hfit : (i : Int) + fsize (byt t i) ≤ k
      · have := nx_pre t k i (by omega) (by rw [e]; exact ((sgn_iff _).1 h5).1) (by rw [e]; exact hfit)
        rw [hbad, e] at this
        have h6 := ((sgn_iff _).1 h5).1
        have h7 := congrArg Prod.fst this
        simp only at h7
        omega
      · have hc := conts_false (s := t) (a := i) (n := (fsize (byt t i) - 1).toNat) (k := k - i - 1) (by omega) (by rw [show i + 1 + (k - i - 1) = k by omega, hb]; decide)
        rw [hc] at h3; cases h3
section
variable (t : ByteArray) (k : Nat) (hk : k < t.size) (hb : byt t k = 32)
include hk hb
theorem nx_blank : nx t k = (32, 1) := by
  have h1 : fsize (byt t k) = 1 := by rw [hb]; decide
  rw [nx_good (by rw [h1]; omega) (by rw [h1]; rfl) (by rw [h1, hb]; simp [acc, hb]; decide), h1]
  simp [acc, hb]; decide
theorem wd_ahead {i : Nat} (hi : i < k) : wd t i = wd (t.extract 0 k) i := by rw [wd, nx_ahead t k i hk hb hi]; rfl
theorem adv_ahead {i : Nat} (hi : i < k) : adv t i = adv (t.extract 0 k) i := by rw [adv, nx_ahead t k i hk hb hi]; rfl
theorem wd_blank : wd t k = false := by rw [wd, nx_blank t k hk hb]; decide
theorem run_ahead : ∀ n i, k - i = n → i ≤ k → run t true i = run (t.extract 0 k) true i := by
  have hs := size_pre t k (by omega)
  intro n
  induction n using Nat.strongRecOn with
  | _ n ih =>
    intro i hn hi
    by_cases h : i < k
    · have h2 : i < (t.extract 0 k).size := by omega
      have hr := adv_range _ i h2
      have hw := wd_ahead t k hk hb h
      cases hv : wd t i
      · rw [hv] at hw
        rw [run_stop (by rw [hv]; simp), run_stop (by rw [← hw]; simp)]
      · rw [hv] at hw
        rw [run_go (by omega) hv, run_go h2 hw.symm, adv_ahead t k hk hb h]
        exact ih (k - adv (t.extract 0 k) i) (by omega) _ rfl (by omega)
    · obtain rfl : i = k := by omega
      rw [run_stop (by rw [wd_blank t i hk hb]; simp), run_end (by omega)]
theorem count_ahead : ∀ n i, k - i = n → i ≤ k → (spans t i).length = (spans (t.extract 0 k) i).length + (spans t (k + 1)).length := by
  have hs := size_pre t k (by omega)
  intro n
  induction n using Nat.strongRecOn with
  | _ n ih =>
    intro i hn hi
    by_cases h : i < k
    · have h2 : i < (t.extract 0 k).size := by omega
      have hr := adv_range _ i h2
      have hw := wd_ahead t k hk hb h
      cases hv : wd t i
      · rw [hv] at hw
        rw [spans_skip (by omega) hv, spans_skip h2 hw.symm, adv_ahead t k hk hb h]
        exact ih (k - adv (t.extract 0 k) i) (by omega) _ rfl (by omega)
      · rw [hv] at hw
        have hg := run_gt h2
        rw [← hw] at hg
        rw [spans_word (by omega) hv, spans_word h2 hw.symm, List.length_cons, List.length_cons, run_ahead t k hk hb _ i rfl hi]
        rw [ih (k - run (t.extract 0 k) true i) (by omega) _ rfl (by omega)]
        omega
    · obtain rfl : i = k := by omega
      rw [spans_skip hk (wd_blank t i hk hb), spans_end (s := t.extract 0 i) (by omega)]
      have : adv t i = i + 1 := by rw [adv, nx_blank t i hk hb]; rfl
      rw [this]; simp
end
/-- P15.1: the words of two parts that a blank keeps apart. -/
theorem count_parts (a b : ByteArray) : (spans (a ++ { data := #[32] } ++ b) 0).length = (spans a 0).length + (spans b 0).length := by
  have hB := bytesOf_append
  have h1 : (a ++ { data := #[32] } ++ b).size = a.size + 1 + b.size := by rw [ByteArray.size_append, ByteArray.size_append]; rfl
  have ha : (a ++ { data := #[32] } ++ b).extract 0 a.size = a := by
    apply bytesOf_inj
    rw [bytesOf_extract, hB, hB, List.drop_zero, Nat.sub_zero, List.append_assoc]
    exact List.take_left' (bytesOf_length a)
  have hb : (a ++ { data := #[32] } ++ b).extract (a.size + 1) (a ++ { data := #[32] } ++ b).size = b := by
    apply bytesOf_inj
    rw [bytesOf_extract, hB]
    rw [List.drop_left' (by rw [bytesOf_length, ByteArray.size_append]; rfl)]
    exact List.take_of_length_le (by rw [bytesOf_length]; omega)
  have h32 : byt (a ++ { data := #[32] } ++ b) a.size = 32 := by
    have h := bytesOf_get (a ++ { data := #[32] } ++ b) a.size (by omega)
    rw [hB, hB, List.append_assoc, List.getElem?_append_right (by rw [bytesOf_length]; exact Nat.le_refl _), bytesOf_length, Nat.sub_self] at h
    simp [bytesOf] at h
    exact h.symm
  have h2 := count_ahead (a ++ { data := #[32] } ++ b) a.size (by omega) h32 _ 0 rfl (Nat.zero_le _)
  have h3 := count_behind (a ++ { data := #[32] } ++ b) (a.size + 1) (by omega) _ 0 rfl (by omega)
  rw [Nat.add_zero] at h3
  rw [h2, ha, h3, hb]
/-- A letter ahead of a word alone makes one word. -/
theorem count_glued (a : ByteArray) (h : single a = true) : (spans ({ data := #[120] } ++ a) 0).length = 1 := by
  obtain ⟨h0, hw, hr⟩ := (single_iff a).1 h
  have hB := bytesOf_append
  have h1 : (({ data := #[120] } : ByteArray) ++ a).size = 1 + a.size := by rw [ByteArray.size_append]; rfl
  have ha : (({ data := #[120] } : ByteArray) ++ a).extract 1 (({ data := #[120] } : ByteArray) ++ a).size = a := by
    apply bytesOf_inj
    rw [bytesOf_extract, hB]
    rw [List.drop_left' (by rw [bytesOf_length]; rfl)]
    exact List.take_of_length_le (by rw [bytesOf_length]; omega)
  have hx : byt (({ data := #[120] } : ByteArray) ++ a) 0 = 120 := by
    have h := bytesOf_get (({ data := #[120] } : ByteArray) ++ a) 0 (by omega)
    rw [hB] at h
    simp [bytesOf] at h
    exact h.symm
  have hn : nx (({ data := #[120] } : ByteArray) ++ a) 0 = (120, 1) := by
    have h1 : fsize (byt (({ data := #[120] } : ByteArray) ++ a) 0) = 1 := by rw [hx]; decide
    rw [nx_good (by rw [h1]; omega) (by rw [h1]; rfl) (by rw [h1, hx]; simp [acc, hx]; decide), h1]
    simp [acc, hx]; decide
  generalize ({ data := #[120] } : ByteArray) ++ a = t at *
  have hw0 : wd t 0 = true := by rw [wd, hn]; decide
  have ha0 : adv t 0 = 1 := by rw [adv, hn]; rfl
  have h3 := run_behind t 1 true (by omega) _ 0 rfl (by omega)
  rw [ha, hr, Nat.add_zero] at h3
  rw [spans_word (by omega) hw0, run_go (by omega) hw0, ha0, h3, spans_end (by omega)]; rfl
end Tok
end Go.Proofs.YtfohollhdaedlaaGreatDoor
