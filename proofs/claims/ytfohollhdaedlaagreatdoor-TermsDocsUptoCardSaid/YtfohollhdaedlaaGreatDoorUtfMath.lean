/- Plain Lean: what the functions of the package utf compute. No program in sight. -/
import Derived.Test.YtfohollhdaedlaaGreatDoorLib
set_option linter.unusedVariables false
set_option linter.unusedSimpArgs false
namespace Go.Proofs.YtfohollhdaedlaaGreatDoor
namespace Utf

/-- What a first byte says: size, bits, least. -/
def fsize (c : Int) : Int := if c < 0x80 then 1 else if c < 0xc0 then 0 else if c < 0xe0 then 2 else if c < 0xf0 then 3 else if c < 0xf8 then 4 else 0
def fbits (c : Int) : Int := if c < 0x80 then c else if c < 0xc0 then 0 else if c < 0xe0 then c % 32 else if c < 0xf0 then c % 16 else if c < 0xf8 then c % 8 else 0
def fleast (c : Int) : Int := if c < 0x80 then 0 else if c < 0xc0 then 0 else if c < 0xe0 then 0x80 else if c < 0xf0 then 0x800 else if c < 0xf8 then 0x10000 else 0
theorem fsize_range (c : Int) : 0 ≤ fsize c ∧ fsize c ≤ 4 := by unfold fsize; repeat' split
                                                                all_goals omega
theorem fbits_range (c : Int) (h : 0 ≤ c) : 0 ≤ fbits c ∧ (fsize c = 1 ∨ fbits c < 32) ∧ fbits c < 128 := by
  unfold fbits fsize; repeat' split
  all_goals omega

/-- Is a number a sign's? -/
def sgn (r : Int) : Bool := decide (0 ≤ r ∧ r ≤ 0x10ffff ∧ (r < 0xd800 ∨ 0xdfff < r))

/-- Does a byte go on with a sign? -/
def cont (c : Int) : Bool := decide (128 ≤ c ∧ c < 192)
theorem and192_ne (c : Int) (h0 : 0 ≤ c) (h1 : c < 256) : (bits .and .u8 c 192 != 128) = !cont c := by
  rw [u8_and192 c h0 h1, Bool.eq_iff_iff]
  simp [cont]; omega
/-- A sign's number, out of its first byte and k more. -/
def acc (s : ByteArray) (a : Nat) : Nat → Int
  | 0 => fbits (byt s a)
  | k + 1 => acc s a k * 64 + byt s (a + 1 + k) % 64
theorem acc_range (s : ByteArray) (a k : Nat) (h : fsize (byt s a) ≠ 1 ∨ k = 0) (hk : k ≤ 3) : 0 ≤ acc s a k ∧ acc s a k < 8388608 := by
  have hb := fbits_range (byt s a) (byt_range s a).1
  match k, hk with
  | 0, _ => simp only [acc]; omega
  | 1, _ => simp only [acc]; omega
  | 2, _ => simp only [acc]; omega
  | 3, _ => simp only [acc]; omega
def conts (s : ByteArray) (a n : Nat) : Bool := (List.range n).all fun k => cont (byt s (a + 1 + k))
theorem conts_succ (s : ByteArray) (a n : Nat) : conts s a (n + 1) = (conts s a n && cont (byt s (a + 1 + n))) := by
  simp [conts, List.range_succ]
theorem conts_false {s : ByteArray} {a n k : Nat} (hk : k < n) (h : cont (byt s (a + 1 + k)) = false) : conts s a n = false := by
  simp only [conts, List.all_eq_false, List.mem_range]
  exact ⟨k, hk, by simp [h]⟩

/-- The sign at place a of a text that has such a place. -/
def nx (s : ByteArray) (a : Nat) : Int × Int :=
  let n := fsize (byt s a)
  if n = 0 ∨ (s.size : Int) - a < n then (-1, 1)
  else if conts s a (n - 1).toNat = false then (-1, 1)
  else if acc s a (n - 1).toNat < fleast (byt s a) ∨ sgn (acc s a (n - 1).toNat) = false then (-1, 1)
  else (acc s a (n - 1).toNat, n)
theorem nx_short {s : ByteArray} {a : Nat} (h : fsize (byt s a) = 0 ∨ (s.size : Int) - a < fsize (byt s a)) : nx s a = (-1, 1) := by
  simp only [nx]; rw [if_pos h]
theorem nx_cont {s : ByteArray} {a k : Nat} (h : ¬ (fsize (byt s a) = 0 ∨ (s.size : Int) - a < fsize (byt s a))) (hk : k < (fsize (byt s a) - 1).toNat) (hc : cont (byt s (a + 1 + k)) = false) : nx s a = (-1, 1) := by
  simp only [nx]; rw [if_neg h, if_pos (conts_false hk hc)]
theorem nx_bad {s : ByteArray} {a : Nat} (h : ¬ (fsize (byt s a) = 0 ∨ (s.size : Int) - a < fsize (byt s a))) (hc : conts s a (fsize (byt s a) - 1).toNat = true) (hr : acc s a (fsize (byt s a) - 1).toNat < fleast (byt s a) ∨ sgn (acc s a (fsize (byt s a) - 1).toNat) = false) : nx s a = (-1, 1) := by
  simp only [nx]; rw [if_neg h, if_neg (by rw [hc]; simp), if_pos hr]
theorem nx_good {s : ByteArray} {a : Nat} (h : ¬ (fsize (byt s a) = 0 ∨ (s.size : Int) - a < fsize (byt s a))) (hc : conts s a (fsize (byt s a) - 1).toNat = true) (hr : ¬ (acc s a (fsize (byt s a) - 1).toNat < fleast (byt s a) ∨ sgn (acc s a (fsize (byt s a) - 1).toNat) = false)) : nx s a = (acc s a (fsize (byt s a) - 1).toNat, fsize (byt s a)) := by
  simp only [nx]; rw [if_neg h, if_neg (by rw [hc]; simp), if_neg hr]
def next (s : ByteArray) (i : Int) : Int × Int := if i < 0 ∨ (s.size : Int) ≤ i then (-1, 0) else nx s i.toNat

theorem nx_forms (s : ByteArray) (a : Nat) : nx s a = (-1, 1) ∨ (fsize (byt s a) ≠ 0 ∧ fsize (byt s a) ≤ s.size - a ∧ conts s a (fsize (byt s a) - 1).toNat = true ∧ fleast (byt s a) ≤ acc s a (fsize (byt s a) - 1).toNat ∧ sgn (acc s a (fsize (byt s a) - 1).toNat) = true ∧ nx s a = (acc s a (fsize (byt s a) - 1).toNat, fsize (byt s a))) := by
  by_cases h : fsize (byt s a) = 0 ∨ (s.size : Int) - a < fsize (byt s a)
  · exact .inl (nx_short h)
  · cases hc : conts s a (fsize (byt s a) - 1).toNat
    · left; simp only [nx]; rw [if_neg h, if_pos hc]
    · by_cases hr : acc s a (fsize (byt s a) - 1).toNat < fleast (byt s a) ∨ sgn (acc s a (fsize (byt s a) - 1).toNat) = false
      · exact .inl (nx_bad h hc hr)
      · refine .inr ⟨by omega, by omega, rfl, by omega, ?_, nx_good h hc hr⟩
        cases hs : sgn (acc s a (fsize (byt s a) - 1).toNat)
        · exact absurd (.inr hs) hr
        · rfl
theorem sgn_iff (r : Int) : sgn r = true ↔ (0 ≤ r ∧ r ≤ 0x10ffff ∧ (r < 0xd800 ∨ 0xdfff < r)) := by simp [sgn]
theorem nx_step (s : ByteArray) (a : Nat) (h : a < s.size) : 1 ≤ (nx s a).2 ∧ (nx s a).2 ≤ (s.size : Int) - a ∧ (nx s a).2 ≤ 4 ∧ -1 ≤ (nx s a).1 ∧ (nx s a).1 ≤ 0x10ffff := by
  have hf := fsize_range (byt s a)
  rcases nx_forms s a with e | ⟨h1, h2, _, _, h5, e⟩
  · rw [e]; simp; omega
  · rw [e]; rw [sgn_iff] at h5; simp only; omega

/-- Where the next sign begins. -/
def adv (s : ByteArray) (a : Nat) : Nat := a + (nx s a).2.toNat
theorem adv_range (s : ByteArray) (a : Nat) (h : a < s.size) : a < adv s a ∧ adv s a ≤ s.size ∧ ((adv s a : Nat) : Int) = a + (nx s a).2 := by
  have := nx_step s a h; unfold adv; omega
def validF (s : ByteArray) (a : Nat) : Bool := if h : a < s.size then (if (nx s a).1 < 0 then false else validF s (adv s a)) else true
termination_by s.size - a
decreasing_by have := adv_range s a h; omega
def countF (s : ByteArray) (a : Nat) : Nat := if h : a < s.size then 1 + countF s (adv s a) else 0
termination_by s.size - a
decreasing_by have := adv_range s a h; omega
def cutF (s : ByteArray) (most : Int) (a : Nat) : Nat := if h : a < s.size then (if most - a < (nx s a).2 then a else cutF s most (adv s a)) else a
termination_by s.size - a
decreasing_by have := adv_range s a h; omega
theorem validF_end {s : ByteArray} {a : Nat} (h : ¬ a < s.size) : validF s a = true := by rw [validF, dif_neg h]
theorem validF_bad {s : ByteArray} {a : Nat} (h : a < s.size) (h2 : (nx s a).1 < 0) : validF s a = false := by rw [validF, dif_pos h, if_pos h2]
theorem validF_go {s : ByteArray} {a : Nat} (h : a < s.size) (h2 : ¬ (nx s a).1 < 0) : validF s a = validF s (adv s a) := by rw [validF, dif_pos h, if_neg h2]
theorem countF_end {s : ByteArray} {a : Nat} (h : ¬ a < s.size) : countF s a = 0 := by rw [countF, dif_neg h]
theorem countF_go {s : ByteArray} {a : Nat} (h : a < s.size) : countF s a = 1 + countF s (adv s a) := by rw [countF, dif_pos h]
theorem cutF_end {s : ByteArray} {m : Int} {a : Nat} (h : ¬ a < s.size) : cutF s m a = a := by rw [cutF, dif_neg h]
theorem cutF_stop {s : ByteArray} {m : Int} {a : Nat} (h : a < s.size) (h2 : m - a < (nx s a).2) : cutF s m a = a := by rw [cutF, dif_pos h, if_pos h2]
theorem cutF_go {s : ByteArray} {m : Int} {a : Nat} (h : a < s.size) (h2 : ¬ m - a < (nx s a).2) : cutF s m a = cutF s m (adv s a) := by rw [cutF, dif_pos h, if_neg h2]
theorem countF_le (s : ByteArray) : ∀ n a, s.size - a = n → countF s a ≤ s.size - a := by
  intro n
  induction n using Nat.strongRecOn with
  | _ n ih =>
    intro a hn
    by_cases h : a < s.size
    · have := adv_range s a h
      have := ih (s.size - adv s a) (by omega) (adv s a) rfl
      rw [countF_go h]; omega
    · rw [countF_end h]; omega
theorem next_in {s : ByteArray} {a : Nat} (h : a < s.size) : next s a = nx s a := by
  unfold next; rw [if_neg (by omega)]; simp
theorem next_out {s : ByteArray} {i : Int} (h : i < 0 ∨ (s.size : Int) ≤ i) : next s i = (-1, 0) := by unfold next; rw [if_pos h]
theorem byt_pre (s : ByteArray) (k i : Nat) (hk : k ≤ s.size) (h : i < k) : byt (s.extract 0 k) i = byt s i := by
  have := byt_extract s i 0 k hk (by omega)
  simpa using this
theorem size_pre (s : ByteArray) (k : Nat) (hk : k ≤ s.size) : (s.extract 0 k).size = k := by rw [ByteArray.size_extract]; omega
/-- Where the signs end. -/
def endsF (s : ByteArray) (a : Nat) : List Int := if h : a < s.size then (adv s a : Int) :: endsF s (adv s a) else []
termination_by s.size - a
decreasing_by have := adv_range s a h; omega
theorem endsF_end {s : ByteArray} {a : Nat} (h : ¬ a < s.size) : endsF s a = [] := by rw [endsF, dif_neg h]
theorem endsF_go {s : ByteArray} {a : Nat} (h : a < s.size) : endsF s a = (adv s a : Int) :: endsF s (adv s a) := by rw [endsF, dif_pos h]
theorem endsF_length (s : ByteArray) : ∀ n a, s.size - a = n → (endsF s a).length = countF s a := by
  intro n
  induction n using Nat.strongRecOn with
  | _ n ih =>
    intro a hn
    by_cases h : a < s.size
    · have := adv_range s a h
      rw [endsF_go h, countF_go h, List.length_cons, ih _ (by omega) (adv s a) rfl]; omega
    · rw [endsF_end h, countF_end h]; rfl
/-- The last of some ends that is at most 'most'; else 'at'. -/
def lastLe (most : Int) (z : Int) (l : List Int) : Int := l.foldl (fun z e => if e ≤ most then e else z) z
theorem lastLe_none (most : Int) : ∀ (l : List Int) (z : Int), (∀ e ∈ l, most < e) → lastLe most z l = z
  | [], _, _ => rfl
  | e :: l, z, h => by
    have h1 := h e (by simp)
    unfold lastLe
    rw [List.foldl_cons, if_neg (by omega)]
    exact lastLe_none most l z fun x hx => h x (by simp [hx])
theorem endsF_gt (s : ByteArray) : ∀ n a, s.size - a = n → ∀ e ∈ endsF s a, (a : Int) < e := by
  intro n
  induction n using Nat.strongRecOn with
  | _ n ih =>
    intro a hn e he
    by_cases h : a < s.size
    · have hA := adv_range s a h
      rw [endsF_go h] at he
      rcases List.mem_cons.1 he with rfl | he
      · omega
      · have := ih _ (by omega) (adv s a) rfl e he; omega
    · rw [endsF_end h] at he; cases he
theorem lastLe_cut (s : ByteArray) (most : Int) : ∀ n a, s.size - a = n → lastLe most a (endsF s a) = cutF s most a := by
  intro n
  induction n using Nat.strongRecOn with
  | _ n ih =>
    intro a hn
    by_cases h : a < s.size
    · have hA := adv_range s a h
      by_cases h2 : most - a < (nx s a).2
      · rw [cutF_stop h h2]
        refine lastLe_none most _ _ fun e he => ?_
        rw [endsF_go h] at he
        rcases List.mem_cons.1 he with rfl | he
        · omega
        · have := endsF_gt s _ (adv s a) rfl e he; omega
      · rw [cutF_go h h2, endsF_go h]
        unfold lastLe
        rw [List.foldl_cons, if_pos (by omega)]
        exact ih _ (by omega) (adv s a) rfl
    · rw [cutF_end h, endsF_end h]; rfl
theorem conts_pre (s : ByteArray) (k a n : Nat) (hk : k ≤ s.size) (h : a + 1 + n ≤ k) : conts (s.extract 0 k) a n = conts s a n := by
  induction n with
  | zero => rfl
  | succ n ih => rw [conts_succ, conts_succ, ih (by omega), byt_pre s k _ hk (by omega)]
theorem acc_pre (s : ByteArray) (k a n : Nat) (hk : k ≤ s.size) (h : a + 1 + n ≤ k) : acc (s.extract 0 k) a n = acc s a n := by
  induction n with
  | zero => simp only [acc]; rw [byt_pre s k a hk (by omega)]
  | succ n ih => simp only [acc]; rw [ih (by omega), byt_pre s k _ hk (by omega)]
theorem nx_pre (s : ByteArray) (k a : Nat) (hk : k ≤ s.size) (h0 : 0 ≤ (nx s a).1) (h : (a : Int) + (nx s a).2 ≤ k) : nx (s.extract 0 k) a = nx s a := by
  rcases nx_forms s a with e | ⟨h1, h2, h3, h4, h5, e⟩
  · rw [e] at h0; simp at h0
  · have hf := fsize_range (byt s a)
    rw [e] at h ⊢
    simp only at h
    have hb : byt (s.extract 0 k) a = byt s a := byt_pre s k a hk (by omega)
    have ha := acc_pre s k a (fsize (byt s a) - 1).toNat hk (by omega)
    have hc := conts_pre s k a (fsize (byt s a) - 1).toNat hk (by omega)
    have := nx_good (s := s.extract 0 k) (a := a) (by rw [hb, size_pre s k hk]; omega) (by rw [hb, hc]; exact h3) (by rw [hb, ha, h5]; rintro (h | h); omega; cases h)
    rw [this, hb, ha]
theorem adv_pre {s : ByteArray} {k a : Nat} (h : nx (s.extract 0 k) a = nx s a) : adv (s.extract 0 k) a = adv s a := by unfold adv; rw [h]

theorem cutF_bounds (s : ByteArray) (m : Int) : ∀ n a, s.size - a = n → a ≤ s.size → (a = 0 ∨ (a : Int) ≤ m) →
    a ≤ cutF s m a ∧ cutF s m a ≤ s.size ∧ (cutF s m a = 0 ∨ (cutF s m a : Int) ≤ m) ∧ ((s.size : Int) - 3 ≤ cutF s m a ∨ m - 3 ≤ cutF s m a) ∧ (validF s a = true → validF (s.extract 0 (cutF s m a)) a = true) := by
  intro n
  induction n using Nat.strongRecOn with
  | _ n ih =>
    intro a hn ha hm
    by_cases h : a < s.size
    · have hA := adv_range s a h
      have hS := nx_step s a h
      by_cases h2 : m - a < (nx s a).2
      · rw [cutF_stop h h2]
        exact ⟨by omega, by omega, hm, by omega, fun _ => validF_end (by rw [size_pre s a ha]; omega)⟩
      · rw [cutF_go h h2]
        obtain ⟨i1, i2, i3, i4, i5⟩ := ih (s.size - adv s a) (by omega) (adv s a) rfl hA.2.1 (.inr (by omega))
        refine ⟨by omega, i2, i3, i4, fun hv => ?_⟩
        by_cases hneg : (nx s a).1 < 0
        · rw [validF_bad h hneg] at hv; cases hv
        · rw [validF_go h hneg] at hv
          have e := nx_pre s (cutF s m (adv s a)) a i2 (by omega) (by omega)
          rw [validF_go (by rw [size_pre s _ i2]; omega) (by rw [e]; exact hneg), adv_pre e]
          exact i5 hv
    · rw [cutF_end h]
      exact ⟨by omega, ha, hm, by omega, fun _ => validF_end (by rw [size_pre s a ha]; exact Nat.lt_irrefl _)⟩

end Utf
end Go.Proofs.YtfohollhdaedlaaGreatDoor
