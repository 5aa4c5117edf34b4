/- Export: the lines of a text, and what a line says: plain laws. -/
import Derived.Test.YtfohollhdaedlaaDoorExp9
set_option linter.unusedVariables false
set_option linter.unusedSimpArgs false
namespace Go.Proofs.YtfohollhdaedlaaDoor
namespace Exp
/-- The whole lines of a text, without their ends, and what is left behind the last one. -/
def linesOf : B8 → List B8 × B8
  | [] => ([], [])
  | c :: s => if c = 10 then ([] :: (linesOf s).1, (linesOf s).2) else match (linesOf s).1 with
    | [] => ([], c :: (linesOf s).2)
    | x :: ls => ((c :: x) :: ls, (linesOf s).2)
theorem ends_cons (x : B8) (l : List B8) : ends (x :: l) = x ++ 10 :: ends l := by simp [ends]
theorem linesOf_line : ∀ (x s : B8), (10 : UInt8) ∉ x → linesOf (x ++ 10 :: s) = (x :: (linesOf s).1, (linesOf s).2)
  | [], s, _ => by simp [linesOf]
  | c :: x, s, h => by
    simp only [List.mem_cons, not_or] at h
    have ih := linesOf_line x s h.2
    show linesOf (c :: (x ++ 10 :: s)) = _
    rw [linesOf, if_neg (Ne.symm h.1), ih]
theorem linesOf_rest : ∀ (x : B8), (10 : UInt8) ∉ x → linesOf x = ([], x)
  | [], _ => rfl
  | c :: x, h => by
    simp only [List.mem_cons, not_or] at h
    rw [linesOf, if_neg (Ne.symm h.1), linesOf_rest x h.2]
theorem linesOf_ends : ∀ (l : List B8), (∀ x ∈ l, (10 : UInt8) ∉ x) → linesOf (ends l) = (l, [])
  | [], _ => rfl
  | x :: l, h => by
    rw [ends_cons, linesOf_line x _ (h x (List.mem_cons_self ..)), linesOf_ends l fun y hy => h y (List.mem_cons_of_mem _ hy)]
theorem ends_linesOf : ∀ (s : B8), ends (linesOf s).1 ++ (linesOf s).2 = s
  | [] => rfl
  | c :: s => by
    have ih := ends_linesOf s
    rw [linesOf]
    by_cases h : c = 10
    · rw [if_pos h, h]
      show ends ([] :: _) ++ _ = _
      rw [ends_cons]
      show 10 :: (ends _ ++ _) = _
      rw [ih]
    · rw [if_neg h]
      cases hl : (linesOf s).1 with
      | nil =>
        rw [hl] at ih
        show [] ++ c :: (linesOf s).2 = _
        have : (linesOf s).2 = s := ih
        rw [this]; rfl
      | cons x ls =>
        rw [hl, ends_cons] at ih
        show ends ((c :: x) :: ls) ++ (linesOf s).2 = _
        rw [ends_cons]
        show c :: ((x ++ 10 :: ends ls) ++ (linesOf s).2) = _
        rw [ih]
theorem linesOf_no10 : ∀ (s : B8), (∀ x ∈ (linesOf s).1, (10 : UInt8) ∉ x) ∧ (10 : UInt8) ∉ (linesOf s).2
  | [] => by simp [linesOf]
  | c :: s => by
    obtain ⟨ih1, ih2⟩ := linesOf_no10 s
    rw [linesOf]
    by_cases h : c = 10
    · rw [if_pos h]
      refine ⟨fun x hx => ?_, ih2⟩
      rcases List.mem_cons.1 hx with rfl | hx
      · simp
      · exact ih1 x hx
    · rw [if_neg h]
      cases hl : (linesOf s).1 with
      | nil =>
        refine ⟨(fun x hx => absurd hx List.not_mem_nil), ?_⟩
        simp only [List.mem_cons, not_or]
        exact ⟨fun e => h e.symm, ih2⟩
      | cons x ls =>
        rw [hl] at ih1
        refine ⟨fun y hy => ?_, ih2⟩
        rcases List.mem_cons.1 hy with rfl | hy
        · simp only [List.mem_cons, not_or]
          exact ⟨fun e => h e.symm, ih1 x (List.mem_cons_self ..)⟩
        · exact ih1 y (List.mem_cons_of_mem _ hy)
/-- Which field does a line speak of? -/
def which (s : B8) : Option Nat :=
  if (head 0).isPrefixOf s then some 0 else if (head 1).isPrefixOf s then some 1 else if (head 2).isPrefixOf s then some 2 else if (head 3).isPrefixOf s then some 3 else none
/-- The field that may come next, at least. -/
def fld (d : DocM) : Nat := if by8 d.t3 ≠ [] then 4 else if by8 d.t2 ≠ [] then 3 else if by8 d.t1 ≠ [] then 2 else if by8 d.t0 ≠ [] then 1 else 0
/-- A line is taken in behind documents. -/
def lineF (l : List DocM) (s : B8) : Option (List DocM) :=
  if docHead.isPrefixOf s then (if nameOk (s.drop 4) then some (l ++ [bare (mk8 (s.drop 4))]) else none)
  else match which s, l.getLast? with
    | some i, some d => match unesc (s.drop (head i).length) with
      | some t => if fld d ≤ i ∧ t ≠ [] ∧ okT (mk8 t) = true then some (l.dropLast ++ [d.put i (mk8 t)]) else none
      | none => none
    | _, _ => none
/-- Lines are taken in one after another: the documents then; or how many lines were seen, up to the one that is none. -/
def readL : List DocM → Nat → List B8 → List DocM × Option Nat
  | l, _, [] => (l, none)
  | l, n, x :: xs => match lineF l x with
    | some l' => readL l' (n + 1) xs
    | none => ([], some (n + 1))
/-- What is read of a text. -/
def readF (s : B8) : List DocM × Option Nat :=
  match readL [] 0 (linesOf s).1 with
  | (l, some n) => ([], some n)
  | (l, none) => if (linesOf s).2 = [] then (l, none) else ([], some ((linesOf s).1.length + 1))
theorem docHead_head (i : Nat) (hi : i < 4) (x : B8) : docHead.isPrefixOf (head i ++ x) = false := by
  rcases (show i = 0 ∨ i = 1 ∨ i = 2 ∨ i = 3 by omega) with rfl | rfl | rfl | rfl <;> rfl
theorem which_head (i : Nat) (hi : i < 4) (x : B8) : which (head i ++ x) = some i := by
  rcases (show i = 0 ∨ i = 1 ∨ i = 2 ∨ i = 3 by omega) with rfl | rfl | rfl | rfl <;> simp [which, head, List.isPrefixOf]
theorem docHead_doc (x : B8) : docHead.isPrefixOf (docHead ++ x) = true := by simp [docHead, List.isPrefixOf]
theorem lineF_doc (l : List DocM) (id : ByteArray) (h : nameOk (by8 id) = true) : lineF l (docHead ++ by8 id) = some (l ++ [bare id]) := by
  unfold lineF
  rw [if_pos (docHead_doc _)]
  show (if nameOk (by8 id) = true then some (l ++ [bare (mk8 (by8 id))]) else none) = _
  rw [if_pos h]; rfl
theorem lineF_field (l : List DocM) (d : DocM) (i : Nat) (hi : i < 4) (t : ByteArray) (hf : fld d ≤ i) (ht : by8 t ≠ []) (hk : okT t = true) : lineF (l ++ [d]) (head i ++ esc (by8 t)) = some (l ++ [d.put i t]) := by
  unfold lineF
  rw [if_neg (by rw [docHead_head i hi]; decide), which_head i hi, List.getLast?_concat]
  show (match unesc ((head i ++ esc (by8 t)).drop (head i).length) with
    | some t => if fld d ≤ i ∧ t ≠ [] ∧ okT (mk8 t) = true then some ((l ++ [d]).dropLast ++ [d.put i (mk8 t)]) else none
    | none => none) = _
  rw [List.drop_left, unesc_esc]
  show (if fld d ≤ i ∧ by8 t ≠ [] ∧ okT t = true then some ((l ++ [d]).dropLast ++ [d.put i t]) else none) = _
  rw [if_pos ⟨hf, ht, hk⟩, List.dropLast_concat]
/-- A document's first fields. -/
def part (d : DocM) (i : Nat) : DocM := ⟨d.id, if 0 < i then d.t0 else ⟨#[]⟩, if 1 < i then d.t1 else ⟨#[]⟩, if 2 < i then d.t2 else ⟨#[]⟩, if 3 < i then d.t3 else ⟨#[]⟩⟩
theorem by8_nil {s : ByteArray} (h : by8 s = []) : s = ⟨#[]⟩ := by
  obtain ⟨⟨l⟩⟩ := s
  have : l = [] := h
  rw [this]
theorem part_put (d : DocM) (i : Nat) (hi : i < 4) : (part d i).put i (d.get i) = part d (i + 1) := by
  rcases (show i = 0 ∨ i = 1 ∨ i = 2 ∨ i = 3 by omega) with rfl | rfl | rfl | rfl <;> rfl
theorem part_same (d : DocM) (i : Nat) (hi : i < 4) (h : by8 (d.get i) = []) : part d (i + 1) = part d i := by
  have h := by8_nil h
  rcases (show i = 0 ∨ i = 1 ∨ i = 2 ∨ i = 3 by omega) with rfl | rfl | rfl | rfl <;> simp only [DocM.get] at h <;> simp [part, h] <;> exact h
theorem part_fld (d : DocM) (i : Nat) (hi : i ≤ 4) : fld (part d i) ≤ i := by
  rcases (show i = 0 ∨ i = 1 ∨ i = 2 ∨ i = 3 ∨ i = 4 by omega) with rfl | rfl | rfl | rfl | rfl <;> simp only [fld, part] <;> (repeat' split) <;> first | omega | simp_all [by8]
theorem readL_app : ∀ (xs ys : List B8) (l l' : List DocM) (n : Nat), readL l n xs = (l', none) → readL l n (xs ++ ys) = readL l' (n + xs.length) ys
  | [], ys, l, l', n, h => by
    obtain rfl : l = l' := (Prod.mk.inj h).1
    rfl
  | x :: xs, ys, l, l', n, h => by
    show readL l n (x :: (xs ++ ys)) = _
    rw [readL] at h ⊢
    cases hl : lineF l x with
    | none => rw [hl] at h; cases (Prod.mk.inj h).2
    | some l2 =>
      rw [hl] at h
      show readL l2 (n + 1) (xs ++ ys) = _
      rw [readL_app xs ys l2 l' (n + 1) h, List.length_cons, Nat.add_assoc, Nat.add_comm 1]
theorem readL_fls (d : DocM) (hm : mayD okT d = true) (l : List DocM) (n : Nat) : ∀ j, j ≤ 4 → readL l n (fls d j) = (l ++ [part d j], none)
  | 0, _ => by
    have h2 := ((mayD_get d).1 hm).2
    show readL l n [docHead ++ by8 d.id] = _
    rw [readL, lineF_doc l d.id h2]; rfl
  | j + 1, hj => by
    have ih := readL_fls d hm l n j (by omega)
    show readL l n (fls d j ++ _) = _
    rw [readL_app _ _ _ _ _ ih]
    by_cases h : by8 (d.get j) = []
    · rw [if_pos h, part_same d j (by omega) h]; rfl
    · rw [if_neg h, readL, lineF_field l (part d j) j (by omega) (d.get j) (part_fld d j (by omega)) h (((mayD_get d).1 hm).1 j (by omega)), part_put d j (by omega)]; rfl
theorem part_all (d : DocM) : part d 4 = d := rfl
/-- What was written is read. -/
theorem readL_back : ∀ (l m : List DocM) (n : Nat), (∀ d ∈ l, mayD okT d = true) → readL m n (l.flatMap fun d => fls d 4) = (m ++ l, none)
  | [], m, n, _ => by rw [List.append_nil]; rfl
  | d :: l, m, n, h => by
    have h1 := readL_fls d (h d (List.mem_cons_self ..)) m n 4 (Nat.le_refl _)
    rw [List.flatMap_cons, readL_app _ _ _ _ _ h1, part_all, readL_back l _ _ fun x hx => h x (List.mem_cons_of_mem _ hx), List.append_assoc]; rfl
end Exp
end Go.Proofs.YtfohollhdaedlaaDoor
