/- Plain Lean: a sign's bytes, and the reference's way to find a sign. -/
import Derived.Test.YtfohollhdaedlaaGreatDoorUtfMath
import Derived.Test.YtfohollhdaedlaaGreatDoorSl
set_option linter.unusedVariables false
set_option linter.unusedSimpArgs false
namespace Go.Proofs.YtfohollhdaedlaaGreatDoor
namespace Utf

/-- A sign's bytes. -/
def enc (r : Int) : List Int :=
  if sgn r = false then [] else if r ≤ 127 then [r] else if r ≤ 2047 then [192 + r / 64, 128 + r % 64]
  else if r ≤ 65535 then [224 + r / 4096, 128 + r / 64 % 64, 128 + r % 64] else [240 + r / 262144, 128 + r / 4096 % 64, 128 + r / 64 % 64, 128 + r % 64]
theorem enc_byt (r : Int) : Byt (enc r) := by
  intro b hb
  unfold enc at hb
  by_cases hs : sgn r = false
  · rw [if_pos hs] at hb; cases hb
  · have hs' : sgn r = true := by cases h : sgn r <;> simp_all
    rw [sgn_iff] at hs'
    rw [if_neg hs] at hb
    split at hb
    · simp only [List.mem_cons, List.mem_nil_iff, or_false] at hb; omega
    · split at hb
      · simp only [List.mem_cons, List.mem_nil_iff, or_false] at hb; omega
      · split at hb
        · simp only [List.mem_cons, List.mem_nil_iff, or_false] at hb; omega
        · simp only [List.mem_cons, List.mem_nil_iff, or_false] at hb; omega
theorem enc_length (r : Int) : (enc r).length ≤ 4 := by
  unfold enc; repeat' split
  all_goals simp

/-- The reference's number out of n bytes. -/
def rv (t : ByteArray) (n : Nat) : Int :=
  match n with
  | 1 => byt t 0
  | 2 => byt t 0 % 32 * 64 + byt t 1 % 64
  | 3 => byt t 0 % 16 * 4096 + byt t 1 % 64 * 64 + byt t 2 % 64
  | _ => byt t 0 % 8 * 262144 + byt t 1 % 64 * 4096 + byt t 2 % 64 * 64 + byt t 3 % 64
def fst (t : ByteArray) (n : Nat) : List Int := (List.range n).map (byt t)
def refN (t : ByteArray) : Nat → Nat → Int × Int
  | 0, _ => (-1, 1)
  | f + 1, k => if t.size < k + 1 then (-1, 1) else if enc (rv t (k + 1)) = fst t (k + 1) then (rv t (k + 1), (k + 1 : Nat)) else refN t f (k + 1)


theorem fst1 (t : ByteArray) : fst t 1 = [byt t 0] := rfl
theorem fst2 (t : ByteArray) : fst t 2 = [byt t 0, byt t 1] := rfl
theorem fst3 (t : ByteArray) : fst t 3 = [byt t 0, byt t 1, byt t 2] := rfl
theorem fst4 (t : ByteArray) : fst t 4 = [byt t 0, byt t 1, byt t 2, byt t 3] := rfl
theorem enc0 {r : Int} (h : sgn r = false) : enc r = [] := by unfold enc; rw [if_pos h]
theorem enc1 {r : Int} (h : sgn r = true) (h1 : r ≤ 127) : enc r = [r] := by unfold enc; rw [if_neg (by rw [h]; simp), if_pos h1]
theorem enc2 {r : Int} (h : sgn r = true) (h1 : ¬ r ≤ 127) (h2 : r ≤ 2047) : enc r = [192 + r / 64, 128 + r % 64] := by unfold enc; rw [if_neg (by rw [h]; simp), if_neg h1, if_pos h2]
theorem enc3 {r : Int} (h : sgn r = true) (h1 : ¬ r ≤ 127) (h2 : ¬ r ≤ 2047) (h3 : r ≤ 65535) : enc r = [224 + r / 4096, 128 + r / 64 % 64, 128 + r % 64] := by unfold enc; rw [if_neg (by rw [h]; simp), if_neg h1, if_neg h2, if_pos h3]
theorem enc4 {r : Int} (h : sgn r = true) (h1 : ¬ r ≤ 127) (h2 : ¬ r ≤ 2047) (h3 : ¬ r ≤ 65535) : enc r = [240 + r / 262144, 128 + r / 4096 % 64, 128 + r / 64 % 64, 128 + r % 64] := by unfold enc; rw [if_neg (by rw [h]; simp), if_neg h1, if_neg h2, if_neg h3]

theorem ok1 (t : ByteArray) : enc (rv t 1) = fst t 1 ↔ byt t 0 ≤ 127 := by
  have h0 := byt_range t 0
  have hs : sgn (rv t 1) = true := by rw [sgn_iff]; simp only [rv]; omega
  rw [fst1]
  by_cases h1 : rv t 1 ≤ 127
  · rw [enc1 hs h1]; simp only [rv] at *; simp; omega
  · rw [enc2 hs h1 (by simp only [rv]; omega)]; simp only [rv] at *; simp; omega
theorem ok2 (t : ByteArray) : enc (rv t 2) = fst t 2 ↔ (192 ≤ byt t 0 ∧ byt t 0 < 224) ∧ (128 ≤ byt t 1 ∧ byt t 1 < 192) ∧ 128 ≤ rv t 2 := by
  have h0 := byt_range t 0
  have h1 := byt_range t 1
  have hs : sgn (rv t 2) = true := by rw [sgn_iff]; simp only [rv]; omega
  rw [fst2]
  by_cases h2 : rv t 2 ≤ 127
  · rw [enc1 hs h2]; simp; omega
  · rw [enc2 hs h2 (by simp only [rv]; omega)]
    simp only [rv] at *
    simp only [List.cons.injEq, and_true]
    omega
theorem ok3 (t : ByteArray) : enc (rv t 3) = fst t 3 ↔ (224 ≤ byt t 0 ∧ byt t 0 < 240) ∧ (128 ≤ byt t 1 ∧ byt t 1 < 192) ∧ (128 ≤ byt t 2 ∧ byt t 2 < 192) ∧ 2048 ≤ rv t 3 ∧ sgn (rv t 3) = true := by
  have h0 := byt_range t 0
  have h1 := byt_range t 1
  have h2 := byt_range t 2
  rw [fst3]
  cases hs : sgn (rv t 3)
  · rw [enc0 hs]; simp
  · by_cases g1 : rv t 3 ≤ 127
    · rw [enc1 hs g1]; simp; omega
    · by_cases g2 : rv t 3 ≤ 2047
      · rw [enc2 hs g1 g2]; simp; omega
      · rw [enc3 hs g1 g2 (by simp only [rv]; omega)]
        simp only [rv] at *
        simp only [List.cons.injEq, and_true]
        omega
theorem ok4 (t : ByteArray) : enc (rv t 4) = fst t 4 ↔ (240 ≤ byt t 0 ∧ byt t 0 < 248) ∧ (128 ≤ byt t 1 ∧ byt t 1 < 192) ∧ (128 ≤ byt t 2 ∧ byt t 2 < 192) ∧ (128 ≤ byt t 3 ∧ byt t 3 < 192) ∧ 65536 ≤ rv t 4 ∧ sgn (rv t 4) = true := by
  have h0 := byt_range t 0
  have h1 := byt_range t 1
  have h2 := byt_range t 2
  have h3 := byt_range t 3
  rw [fst4]
  cases hs : sgn (rv t 4)
  · rw [enc0 hs]; simp
  · by_cases g1 : rv t 4 ≤ 127
    · rw [enc1 hs g1]; simp; omega
    · by_cases g2 : rv t 4 ≤ 2047
      · rw [enc2 hs g1 g2]; simp; omega
      · by_cases g3 : rv t 4 ≤ 65535
        · rw [enc3 hs g1 g2 g3]; simp; omega
        · rw [enc4 hs g1 g2 g3]
          simp only [rv] at *
          simp only [List.cons.injEq, and_true]
          omega

theorem cont_iff (c : Int) : cont c = true ↔ 128 ≤ c ∧ c < 192 := by simp [cont]
theorem conts2 (t : ByteArray) : conts t 0 1 = cont (byt t 1) := by simp [conts, List.range_succ]
theorem conts3 (t : ByteArray) : conts t 0 2 = (cont (byt t 1) && cont (byt t 2)) := by simp [conts, List.range_succ]
theorem conts4 (t : ByteArray) : conts t 0 3 = (cont (byt t 1) && (cont (byt t 2) && cont (byt t 3))) := by simp [conts, List.range_succ]

/-- The reference finds just what Next finds. -/
theorem ref_nx (t : ByteArray) (h : 0 < t.size) : refN t 4 0 = nx t 0 := by
  have h0 := byt_range t 0
  have o1 := ok1 t
  have o2 := ok2 t
  have o3 := ok3 t
  have o4 := ok4 t
  have step : ∀ f k, ¬ t.size < k + 1 → ¬ enc (rv t (k + 1)) = fst t (k + 1) → refN t (f + 1) k = refN t f (k + 1) := fun f k a b => by rw [refN, if_neg a, if_neg b]
  have short : ∀ f k, t.size < k + 1 → refN t f k = (-1, 1) := fun f k a => by
    cases f with
    | zero => rw [refN]
    | succ f => rw [refN, if_pos a]
  have hit : ∀ f k, ¬ t.size < k + 1 → enc (rv t (k + 1)) = fst t (k + 1) → refN t (f + 1) k = (rv t (k + 1), ((k + 1 : Nat) : Int)) := fun f k a b => by rw [refN, if_neg a, if_pos b]
  have none : ∀ f k, (∀ j, k ≤ j → j < k + f → ¬ enc (rv t (j + 1)) = fst t (j + 1)) → refN t f k = (-1, 1) := by
    intro f
    induction f with
    | zero => intro k _; rw [refN]
    | succ f ih =>
      intro k hk
      by_cases hs : t.size < k + 1
      · exact short _ _ hs
      · rw [step f k hs (hk k (Nat.le_refl _) (by omega))]
        exact ih (k + 1) fun j a b => hk j (by omega) (by omega)
  have all : ∀ j, 0 ≤ j → j < 4 → j = 0 ∨ j = 1 ∨ j = 2 ∨ j = 3 := by omega
  by_cases c1 : byt t 0 < 128
  · have hf : fsize (byt t 0) = 1 := by simp [fsize, c1]
    have hl : fleast (byt t 0) = 0 := by simp [fleast, c1]
    have hb : fbits (byt t 0) = byt t 0 := by simp [fbits, c1]
    have ha : acc t 0 (fsize (byt t 0) - 1).toNat = byt t 0 := by rw [hf, show (1 - 1 : Int).toNat = 0 from rfl]; simp only [acc]; exact hb
    have hs1 : sgn (byt t 0) = true := by rw [sgn_iff]; omega
    have hg := nx_good (s := t) (a := 0) (by rw [hf]; simp; omega) (by rw [hf]; rfl) (by rw [ha, hl, hs1]; rintro (q | q); omega; cases q)
    rw [hit 3 0 (by omega) (o1.2 (by omega)), hg, ha, hf]
    rfl
  · have n1 : ¬ enc (rv t 1) = fst t 1 := fun e => by have := o1.1 e; omega
    by_cases c2 : byt t 0 < 192 ∨ 248 ≤ byt t 0
    · have hf : fsize (byt t 0) = 0 := by unfold fsize; repeat' split
                                          all_goals omega
      rw [nx_short (.inl hf)]
      refine none 4 0 fun j a b e => ?_
      rcases all j a (by omega) with rfl | rfl | rfl | rfl
      · exact n1 e
      · have := o2.1 e; omega
      · have := o3.1 e; omega
      · have := o4.1 e; omega
    · rw [step 3 0 (by omega) n1]
      by_cases c3 : byt t 0 < 224
      · have hf : fsize (byt t 0) = 2 := by unfold fsize; repeat' split
                                            all_goals omega
        have hl : fleast (byt t 0) = 128 := by unfold fleast; repeat' split
                                               all_goals omega
        have hb : fbits (byt t 0) = byt t 0 % 32 := by unfold fbits; repeat' split
                                                       all_goals omega
        have ha : acc t 0 (fsize (byt t 0) - 1).toNat = rv t 2 := by rw [hf, show (2 - 1 : Int).toNat = 1 from rfl]; simp only [acc, rv, hb, Nat.zero_add, Nat.add_zero]
        have hsg : sgn (rv t 2) = true := by have := byt_range t 1; rw [sgn_iff]; simp only [rv]; omega
        by_cases c4 : t.size < 2
        · rw [short 3 1 c4, nx_short (.inr (by rw [hf]; simp; omega))]
        · have hsh : ¬ (fsize (byt t 0) = 0 ∨ (t.size : Int) - (0 : Nat) < fsize (byt t 0)) := by rw [hf]; simp; omega
          by_cases c5 : enc (rv t 2) = fst t 2
          · obtain ⟨_, p1, p2⟩ := o2.1 c5
            have hc : conts t 0 (fsize (byt t 0) - 1).toNat = true := by rw [hf, show (2 - 1 : Int).toNat = 1 from rfl, conts2, cont_iff]; exact p1
            rw [hit 2 1 c4 c5, nx_good hsh hc (by rw [ha, hl, hsg]; rintro (q | q); omega; cases q), ha, hf]
            rfl
          · rw [none 3 1 fun j a b e => by
              rcases all j (by omega) (by omega) with rfl | rfl | rfl | rfl
              · omega
              · exact c5 e
              · have := o3.1 e; omega
              · have := o4.1 e; omega]
            symm
            cases hc : conts t 0 (fsize (byt t 0) - 1).toNat
            · rw [hf, show (2 - 1 : Int).toNat = 1 from rfl, conts2] at hc
              exact nx_cont (k := 0) hsh (by rw [hf]; decide) hc
            · have hc' := hc
              rw [hf, show (2 - 1 : Int).toNat = 1 from rfl, conts2, cont_iff] at hc'
              exact nx_bad hsh hc (by rw [ha, hl]; left; apply Int.not_le.1; intro q; exact c5 (o2.2 ⟨by omega, hc', q⟩))
      · have n2 : ¬ enc (rv t 2) = fst t 2 := fun e => by have := o2.1 e; omega
        by_cases s2 : t.size < 2
        · rw [short 3 1 s2]
          symm
          refine nx_short (.inr ?_)
          unfold fsize; repeat' split
          all_goals (simp; omega)
        · rw [step 2 1 s2 n2]
          by_cases c6 : byt t 0 < 240
          · have hf : fsize (byt t 0) = 3 := by unfold fsize; repeat' split
                                                all_goals omega
            have hl : fleast (byt t 0) = 2048 := by unfold fleast; repeat' split
                                                    all_goals omega
            have hb : fbits (byt t 0) = byt t 0 % 16 := by unfold fbits; repeat' split
                                                           all_goals omega
            have ht : (3 - 1 : Int).toNat = 2 := rfl
            have ha : acc t 0 (fsize (byt t 0) - 1).toNat = rv t 3 := by rw [hf, ht]; simp only [acc, rv, Nat.reduceAdd, Nat.zero_add, Nat.add_zero]; omega
            by_cases c4 : t.size < 3
            · rw [short 2 2 c4, nx_short (.inr (by rw [hf]; simp; omega))]
            · have hsh : ¬ (fsize (byt t 0) = 0 ∨ (t.size : Int) - (0 : Nat) < fsize (byt t 0)) := by rw [hf]; simp; omega
              by_cases c5 : enc (rv t 3) = fst t 3
              · obtain ⟨_, p1, p2, p3, p4⟩ := o3.1 c5
                have hc : conts t 0 (fsize (byt t 0) - 1).toNat = true := by rw [hf, ht, conts3, Bool.and_eq_true, cont_iff, cont_iff]; exact ⟨p1, p2⟩
                rw [hit 1 2 c4 c5, nx_good hsh hc (by rw [ha, hl, p4]; rintro (q | q); omega; cases q), ha, hf]
                rfl
              · rw [none 2 2 fun j a b e => by
                  rcases all j (by omega) (by omega) with rfl | rfl | rfl | rfl
                  · omega
                  · omega
                  · exact c5 e
                  · have := o4.1 e; omega]
                symm
                cases hc : conts t 0 (fsize (byt t 0) - 1).toNat
                · have hc' := hc
                  rw [hf, ht, conts3, Bool.and_eq_false_iff] at hc'
                  rcases hc' with q | q
                  · exact nx_cont (k := 0) hsh (by rw [hf]; decide) q
                  · exact nx_cont (k := 1) hsh (by rw [hf]; decide) q
                · have hc' := hc
                  rw [hf, ht, conts3, Bool.and_eq_true, cont_iff, cont_iff] at hc'
                  refine nx_bad hsh hc ?_
                  rw [ha, hl]
                  cases hs : sgn (rv t 3)
                  · exact .inr rfl
                  · left; apply Int.not_le.1; intro q; exact c5 (o3.2 ⟨by omega, hc'.1, hc'.2, q, hs⟩)
          · have n3 : ¬ enc (rv t 3) = fst t 3 := fun e => by have := o3.1 e; omega
            have hf : fsize (byt t 0) = 4 := by unfold fsize; repeat' split
                                                all_goals omega
            have hl : fleast (byt t 0) = 65536 := by unfold fleast; repeat' split
                                                     all_goals omega
            have hb : fbits (byt t 0) = byt t 0 % 8 := by unfold fbits; repeat' split
                                                          all_goals omega
            have ht : (4 - 1 : Int).toNat = 3 := rfl
            have ha : acc t 0 (fsize (byt t 0) - 1).toNat = rv t 4 := by rw [hf, ht]; simp only [acc, rv, Nat.reduceAdd, Nat.zero_add, Nat.add_zero]; omega
            by_cases c4 : t.size < 4
            · rw [nx_short (.inr (by rw [hf]; simp; omega))]
              by_cases c3 : t.size < 3
              · exact short 2 2 c3
              · rw [step 1 2 c3 n3]; exact short 1 3 c4
            · rw [step 1 2 (by omega) n3]
              have hsh : ¬ (fsize (byt t 0) = 0 ∨ (t.size : Int) - (0 : Nat) < fsize (byt t 0)) := by rw [hf]; simp; omega
              by_cases c5 : enc (rv t 4) = fst t 4
              · obtain ⟨_, p1, p2, p3, p4, p5⟩ := o4.1 c5
                have hc : conts t 0 (fsize (byt t 0) - 1).toNat = true := by rw [hf, ht, conts4, Bool.and_eq_true, Bool.and_eq_true, cont_iff, cont_iff, cont_iff]; exact ⟨p1, p2, p3⟩
                rw [hit 0 3 c4 c5, nx_good hsh hc (by rw [ha, hl, p5]; rintro (q | q); omega; cases q), ha, hf]
                rfl
              · rw [none 1 3 fun j a b e => by
                  rcases all j (by omega) (by omega) with rfl | rfl | rfl | rfl
                  · omega
                  · omega
                  · omega
                  · exact c5 e]
                symm
                cases hc : conts t 0 (fsize (byt t 0) - 1).toNat
                · have hc' := hc
                  rw [hf, ht, conts4, Bool.and_eq_false_iff, Bool.and_eq_false_iff] at hc'
                  rcases hc' with q | q | q
                  · exact nx_cont (k := 0) hsh (by rw [hf]; decide) q
                  · exact nx_cont (k := 1) hsh (by rw [hf]; decide) q
                  · exact nx_cont (k := 2) hsh (by rw [hf]; decide) q
                · have hc' := hc
                  rw [hf, ht, conts4, Bool.and_eq_true, Bool.and_eq_true, cont_iff, cont_iff, cont_iff] at hc'
                  refine nx_bad hsh hc ?_
                  rw [ha, hl]
                  cases hs : sgn (rv t 4)
                  · exact .inr rfl
                  · left; apply Int.not_le.1; intro q; exact c5 (o4.2 ⟨by omega, hc'.1, hc'.2.1, hc'.2.2, q, hs⟩)
end Utf
end Go.Proofs.YtfohollhdaedlaaGreatDoor
